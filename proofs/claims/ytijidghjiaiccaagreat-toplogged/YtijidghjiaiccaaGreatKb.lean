/-
  A part of an evaluator of the model on abstract data, and of its proof. Written by an agent.
-/
import Derived.Laws.BytesString
import Derived.Laws.MakeOwn
import Derived.MapKept
import Derived.Test.YtijidghjiaiccaaGreatKa
set_option linter.unusedVariables false
set_option linter.unusedSimpArgs false
set_option linter.unusedSectionVars false
set_option maxRecDepth 100000
namespace Go.Ev
open RowKit
def intSem (op : BinOp) (k : IntKind) (p q : Int) : Sem Value :=
 match op with
 | .add | .sub | .mul => Op.intArith op k p q
 | .quo | .rem => Op.intDiv op k p q
 | .and | .or | .xor | .andNot => Op.intBits op k p q
 | _ => Op.intCmp op p q
theorem eqC_rep {I : Nat → Prop} {h : Array Obj} : ∀ {xs ys : List D} {us vs : List Value} {q : Bool}, eqC xs ys = some q → RepL I h xs us → RepL I h ys vs → eqVs us vs = some q
 | xs, ys, us, vs, q, he, r1, r2 => by
  unfold eqC at he
  split at he
  ·rw [RepL] at r1 r2; subst r1; subst r2; simpa [eqVs] using he
  ·rename_i k a r k' b s
   rw [RepL] at r1 r2
   obtain ⟨u, us', rfl, hu, r1⟩ := r1
   obtain ⟨v, vs', rfl, hv, r2⟩ := r2
   rw [RepD] at hu hv
   subst hu; subst hv
   by_cases hk : k = k'
   ·subst hk
    simp only [decide_true, cond_true] at he
    split at he
    ·rename_i q' hq
     cases he
     simp [eqVs, sameV, eqC_rep hq r1 r2]
    ·cases he
   ·simp [hk] at he
  ·rename_i a r b s
   rw [RepL] at r1 r2
   obtain ⟨u, us', rfl, hu, r1⟩ := r1
   obtain ⟨v, vs', rfl, hv, r2⟩ := r2
   rw [RepD] at hu hv
   subst hu; subst hv
   split at he
   ·rename_i q' hq
    cases he
    simp [eqVs, sameV, eqC_rep hq r1 r2]
   ·cases he
  ·cases he
termination_by xs => xs.length
theorem fitC_rep {I : Nat → Prop} {h : Array Obj} : ∀ {k : List Bool} {z : List Value} {xs : List D} {us : List Value}, fitsB k z = true → fitC z xs = true → RepL I h xs us → fitsB k us = true
 | [], z, xs, us, h1, h2, r => by
  cases z with
  | nil =>
   cases xs with
   | nil => rw [RepL] at r; subst r; rfl
   | cons _ _ => simp [fitC] at h2
  | cons _ _ => simp [fitsB] at h1
 | b :: k, z, xs, us, h1, h2, r => by
  obtain ⟨x, z', rfl, h3, h4⟩ := fitsB_cons h1
  rcases h4 with ⟨rfl, c, rfl⟩ | ⟨rfl, q, n, rfl⟩
  ·cases xs with
   | nil => simp [fitC] at h2
   | cons d r' =>
    cases d with
    | v w =>
     cases w with
     | bool e =>
      simp only [fitC] at h2
      rw [RepL] at r
      obtain ⟨u, us', rfl, hu, r⟩ := r
      rw [RepD] at hu
      subst hu
      simp only [fitsB]
      exact fitC_rep h3 h2 r
     | _ => simp [fitC] at h2
    | _ => simp [fitC] at h2
  ·cases xs with
   | nil => simp [fitC] at h2
   | cons d r' =>
    cases d with
    | v w =>
     cases w with
     | int k' e =>
      simp only [fitC] at h2
      rw [RepL] at r
      obtain ⟨u, us', rfl, hu, r⟩ := r
      rw [RepD] at hu
      subst hu
      simp only [fitsB]
      exact fitC_rep h3 h2 r
     | _ => simp [fitC] at h2
    | _ => simp [fitC] at h2
theorem one_cells {v : Value} (h : v.oneCell' = true) : v.cells.toList = [v] := by
 cases v <;> first | rfl | cases h
section
variable {tb : TB} {X : Ctx} {P : Program} {Wn : Nat} {Y : Nat → List D → Bool → Prop} {F : Fence} {n : Nat} {g : Nat → A} {o : Nat → Option Ob} {a : Act} {w : World} {G : Nat → Option GR} {I : Nat → Prop} {oper : Oper} {K : Eff → Prop} {nid : Nat}
variable (hP : PG P tb) (hF : Wide F) (m : Mod tb X g o a w G I) (hdst : ∀ d, oper.dst = some d → d < X.nt)
include hP hF m hdst
omit hP hF m hdst in
theorem drop_mid {α : Type} (L V : List α) {z q : Nat} (h : z ≤ L.length) : (L.take (z + q) ++ V ++ L.drop (z + q + V.length)).drop z = (L.drop z).take q ++ V ++ (L.drop z).drop (q + V.length) := by
 by_cases hq : z + q ≤ L.length
 ·rw [List.append_assoc, List.drop_append_of_le_length (by rw [List.length_take]; omega), List.drop_take, Nat.add_sub_cancel_left, List.drop_drop, Nat.add_assoc, List.append_assoc]
 ·rw [List.take_of_length_le (by omega), List.take_of_length_le (by rw [List.length_drop]; omega), List.append_assoc, List.drop_append_of_le_length h, List.drop_drop, Nat.add_assoc, List.append_assoc]
theorem snd_store {T : TypeId} {x v : Operand} (hop : oper.op = .store T x v) (h : effOp tb (Con P tb Wn Y) (.store T x v) oper.dst g o nid K) : ∃ e, K e ∧ Does tb X P F n g o a w oper e := by
 have hd : ∀ c, oper.op ≠ .defer c := by simp [hop]
 have rx := m.eval x
 have rv := m.eval v
 simp only [effOp] at h
 split at h
 ·rename_i y hy
  have hT := hP.ty T y hy
  split at h
  ·rename_i i off hx
   rw [hx, RepA] at rx
   obtain ⟨b, hg, hu⟩ := rx
   have fin : ∀ bulk T' cs, o i = some (.var bulk T' cs) → ∀ vs, cellsOf (opA g v) = some vs → vs.length = y.size → off + vs.length ≤ cs.length → vs.all A.one = true →
     effSet oper.dst i (.var bulk T' (putAt cs off vs)) K → ∃ e, K e ∧ Does tb X P F n g o a w oper e := by
    intro bulk T' cs ho vs hcv hlen hfit hone h
    obtain ⟨b', c, h1, h2, h3, h4⟩ := m.objs i _ ho
    rw [hg] at h1; cases h1
    have rc := cellsOf_rep hcv rv
    have hvl := RepAL.length rc
    have hcl := RepAL.length h3
    have h1v := RepAL.eq_of_one rc hone
    have hrun := run_storeVar hT h2 (v := a.eval v) (off := off) (by rw [hvl, hlen]) (by simp at hcl; omega) h1v
    refine fin_set hF hd m ho hg h2 (vs' := (c.toList.take off ++ (a.eval v).cells.toList ++ c.toList.drop (off + (a.eval v).cells.toList.length)).toArray) ?_ ?_ ?_ hdst h
    ·simp [execOp, hop, Instr.storeAt, hu, Instr.sureAddr, hrun]
    ·unfold putAt
     rw [List.toList_toArray]
     refine RepAL.append (RepAL.append (h3.take off) rc) ?_
     rw [hvl]
     exact h3.drop _
    ·intro u hu'
     rw [List.toList_toArray] at hu'
     rcases List.mem_append.1 hu' with hu' | hu'
     ·rcases List.mem_append.1 hu' with hu' | hu'
      ·exact h4 u (List.mem_of_mem_take hu')
      ·exact h1v u hu'
     ·exact h4 u (List.mem_of_mem_drop hu')
   split at h
   ·rename_i T' cs ho
    cases ha : y.k.agg with
    | true =>
     simp only [ha, cond_true] at h
     obtain ⟨vs, h1, h2, h3, h4, h⟩ := h
     exact fin true T' cs ho vs h1 h2 h3 h4 h
    | false =>
     simp only [ha, cond_false, fA_eq] at h
     obtain ⟨h1, h⟩ := h
     by_cases hb : ((opA g v).one && Nat.beq y.size 1) = true
     ·rw [hb] at h
      rw [Bool.and_eq_true] at hb
      have hs := Nat.eq_of_beq_eq_true hb.2
      have hcv : cellsOf (opA g v) = some [opA g v] := by
       have := hb.1
       cases hA : opA g v with
       | d z => rw [hA] at this; cases z with
        | v q => cases q <;> first | rfl | (simp [A.one] at this; done)
        | agg _ => simp [A.one] at this
        | tup _ => simp [A.one] at this
        | _ => rfl
       | agg _ => rw [hA] at this; simp [A.one] at this
       | tup _ => rw [hA] at this; simp [A.one] at this
       | unk => rw [hA] at this; simp [A.one] at this
       | _ => rfl
      refine fin true T' cs ho [opA g v] hcv (by simp [hs]) (by simp; omega) (by simpa using hb.1) ?_
      have : putAt cs off [opA g v] = cs.set off (opA g v) := by
       unfold putAt
       rw [List.set_eq_take_append_cons_drop]
       simp [h1]
      rw [this]
      exact h
     ·rw [Bool.not_eq_true] at hb; rw [hb] at h; exact h.elim
   ·rename_i T' cs ho
    rw [withCells_eq] at h
    obtain ⟨vs, h1, h⟩ := h
    by_cases hb : (Nat.beq vs.length y.size && Nat.ble (off + vs.length) cs.length && vs.all A.one) = true
    ·rw [hb] at h
     simp only [cond_true, fL_eq] at h
     rw [Bool.and_eq_true, Bool.and_eq_true] at hb
     exact fin false T' cs ho vs h1 (Nat.eq_of_beq_eq_true hb.1.1) (Nat.le_of_ble_eq_true hb.1.2) hb.2 h
    ·rw [Bool.not_eq_true] at hb; rw [hb] at h; exact h.elim
   ·exact h.elim
  ·-- an element of a slice of the frame's own
   rename_i i k sz off hx
   rw [hx, RepA] at rx
   obtain ⟨b, z0, len, cap, hg, hu⟩ := rx
   split at h
   ·rename_i e es ho
    rw [withCells_eq] at h
    obtain ⟨vs, hcv, h⟩ := h
    split at h
    ·rename_i ds hds
     by_cases hb : (Nat.beq ds.length y.size && vs.all A.one) = true
     ·rw [hb] at h
      simp only [cond_true] at h
      rw [Bool.and_eq_true] at hb
      have hlen := Nat.eq_of_beq_eq_true hb.1
      obtain ⟨el, hel, hes, hfit, es', hes', h⟩ := h
      obtain ⟨yE, hyE, hob⟩ := m.objs i _ ho
      rcases hob with ⟨h0, _⟩ | ⟨b', z', cap', c, q1, q2, q3, q4, q5, q6⟩
      ·subst h0; simp at hel
      ·rw [hg] at q1; cases q1
       have hnI : ¬ I b := (m.own i _ _ b ho rfl hg rfl).1
       have rc := cellsOf_rep hcv rv
       have h1v := RepAL.eq_of_one rc hb.2
       rw [toDs_eq hds] at rc
       have rc := RepAL.of_d.1 rc
       have hvl := RepL.length rc
       have hsz : sz = yE.size := by rw [← hes]; exact (RepR.at q6 hel).1
       have hkl : k < es.length := (List.getElem?_eq_some_iff.1 hel).1
       have hbnd : z0 + k * sz + off + y.size ≤ c.size := by
        rw [← hsz] at q5
        have : (k + 1) * sz ≤ cap * sz := Nat.mul_le_mul_right _ (by omega)
        rw [Nat.add_mul, Nat.one_mul] at this
        omega
       have hrun := run_storeVar hT q2 (v := a.eval v) (off := z0 + k * sz + off) (by rw [hvl, hlen]) hbnd h1v
       generalize hvs' : (c.toList.take (z0 + k * sz + off) ++ (a.eval v).cells.toList ++ c.toList.drop (z0 + k * sz + off + (a.eval v).cells.toList.length)).toArray = vs' at hrun
       have hvl' : vs'.toList = c.toList.take (z0 + k * sz + off) ++ (a.eval v).cells.toList ++ c.toList.drop (z0 + k * sz + off + (a.eval v).cells.toList.length) := by rw [← hvs']
       have hcl : z0 + cap * sz ≤ c.toList.length := by rw [hsz]; simpa using q5
       have r6 : RepR I w.heap sz es' (vs'.toList.drop z0) := by
        rw [hvl', ← hes']
        rw [hsz] at hcl hes hfit hbnd ⊢
        have hlc : es.length * yE.size ≤ cap * yE.size := Nat.mul_le_mul_right _ q3
        rw [show z0 + k * yE.size + off = z0 + (k * yE.size + off) by omega, drop_mid (z := z0) (q := k * yE.size + off) c.toList (a.eval v).cells.toList (by omega)]
        exact RepR.setAt q6 hel rc h1v (by omega) (by rw [List.length_drop]; omega)
       have hh : ∀ j, j ≠ b → (w.setRow b vs').heap[j]? = w.heap[j]? := fun j hj => setRow_other w b j vs' hj
       have hl' : es'.length = es.length := by rw [← hes']; simp
       have m2 := m.set' ho rfl hg rfl (ob := .arr e es') (w' := w.setRow b vs') (by simp) hh rfl rfl rfl
        ⟨yE, hyE, .inr ⟨b, z0, cap, vs', by rw [hl']; exact hg, setRow_heap w b c vs' e (0, 0) q2, by rw [hl']; exact q3, q4, by
         have := congrArg List.length hvl'
         simp only [Array.length_toList, List.length_append, List.length_take, List.length_drop] at this
         simp only [Array.length_toList] at hvl
         rw [this]; omega, RepR.mono (fun _ h => h) (fun j hj => hh j (fun e => hnI (e ▸ hj))) _ _ _ (hsz ▸ r6)⟩⟩ (fun _ _ _ => ⟨_, _, rfl⟩)
       have m3 := m2.slotE hdst (x := .d (.v undef)) (v := undef) (by rw [RepA, RepD])
       have hrun2 : (execOp a.eval oper).run P w = .ok .skip (w.setRow b vs') := by
        simp [execOp, hop, Instr.storeAt, hu, Instr.sureAddr, hrun]
       unfold effSet at h
       cases hd' : oper.dst with
       | some d =>
        simp only [hd'] at h
        rw [hd'] at m3
        refine ⟨_, h, fun next Q hK => wpIn_unit hF hd hrun2 (hK _ _ G I ?_)⟩
        rw [appO_one rfl rfl rfl, hd']
        exact m3
       | none =>
        simp only [hd'] at h
        rw [hd'] at m3
        refine ⟨_, h, fun next Q hK => wpIn_unit hF hd hrun2 (hK _ _ G I ?_)⟩
        rw [appO_one rfl rfl rfl, hd']
        exact m3
     ·rw [Bool.not_eq_true] at hb; rw [hb] at h; exact h.elim
    ·exact h.elim
   ·rename_i e cs ho
    by_cases hck : (Nat.beq off 0 && Nat.beq sz 1 && Nat.beq y.size 1) = true
    ·rw [hck, cond_true, fA_eq] at h
     simp only [Bool.and_eq_true] at hck
     obtain ⟨⟨k1, k2⟩, k3⟩ := hck
     have k1 := Nat.eq_of_beq_eq_true k1
     have k2 := Nat.eq_of_beq_eq_true k2
     have hlen1 := Nat.eq_of_beq_eq_true k3
     subst k1 k2
     by_cases hb : (opA g v).one = true
     ·rw [hb, cond_true] at h
      obtain ⟨hkc, cs', hcs', h⟩ := h
      obtain ⟨us, r1, yE, hyE, hob⟩ := m.objs i _ ho
      have hul := RepAL.length r1
      have hku : k < us.length := by rw [hul]; exact hkc
      have hone : (a.eval v).oneCell' = true := RepAL.eq_of_one (RepAL.cons rv RepAL.nil) (by simp [hb]) _ (by simp)
      have hcells : (a.eval v).cells.toList = [a.eval v] := one_cells hone
      have hel : (rawE us)[k]? = some [D.v us[k]] := by unfold rawE; rw [List.getElem?_map, List.getElem?_eq_getElem hku]; rfl
      have hes' : (rawE us).set k (([D.v us[k]] : List D).take 0 ++ [D.v (a.eval v)] ++ ([D.v us[k]] : List D).drop (0 + ([D.v (a.eval v)] : List D).length)) = rawE (us.set k (a.eval v)) := by unfold rawE; simp [List.map_set]
      have rcs : RepAL G I w.heap cs' (us.set k (a.eval v)) := by rw [← hcs']; exact RepAL.set r1 k rv
      have rc : RepL I w.heap [D.v (a.eval v)] (a.eval v).cells.toList := by rw [hcells]; exact RepL.cons (by rw [RepD]) RepL.nil
      have h1v : ∀ u ∈ (a.eval v).cells.toList, u.oneCell' = true := by rw [hcells]; intro u hu; simp at hu; rw [hu]; exact hone
      rcases hob with ⟨h0, _⟩ | ⟨b', z', cap', c, q1, q2, q3, q4, q5, q6⟩
      ·rw [h0] at hel; simp at hel
      ·rw [hg] at q1; cases q1
       have hnI : ¬ I b := (m.own i _ _ b ho rfl hg rfl).1
       have hvl := RepL.length rc
       have hsz : 1 = yE.size := (RepR.at q6 hel).1
       have hkl : k < (rawE us).length := by unfold rawE; simpa using hku
       have hbnd : z0 + k * 1 + 0 + y.size ≤ c.size := by
        rw [← hsz] at q5
        omega
       have hrun := run_storeVar hT q2 (v := a.eval v) (off := z0 + k * 1 + 0) (by rw [hvl, hlen1]; rfl) hbnd h1v
       generalize hvs' : (c.toList.take (z0 + k * 1 + 0) ++ (a.eval v).cells.toList ++ c.toList.drop (z0 + k * 1 + 0 + (a.eval v).cells.toList.length)).toArray = vs' at hrun
       have hvl' : vs'.toList = c.toList.take (z0 + k * 1 + 0) ++ (a.eval v).cells.toList ++ c.toList.drop (z0 + k * 1 + 0 + (a.eval v).cells.toList.length) := by rw [← hvs']
       have hcl : z0 + cap * 1 ≤ c.toList.length := by rw [← hsz] at q5; simpa using q5
       have r6 : RepR I w.heap yE.size (rawE (us.set k (a.eval v))) (vs'.toList.drop z0) := by
        rw [hvl', ← hes', ← hsz]
        rw [← hsz] at q6 q5
        rw [show z0 + k * 1 + 0 = z0 + (k * 1 + 0) by omega, drop_mid (z := z0) (q := k * 1 + 0) c.toList (a.eval v).cells.toList (by omega)]
        exact RepR.setAt q6 hel rc h1v (by simp) (by rw [List.length_drop]; omega)
       have hh : ∀ j, j ≠ b → (w.setRow b vs').heap[j]? = w.heap[j]? := fun j hj => setRow_other w b j vs' hj
       have hl' : (rawE (us.set k (a.eval v))).length = (rawE us).length := by unfold rawE; simp
       have m2 := m.set' ho rfl hg rfl (ob := .arw e cs') (w' := w.setRow b vs') (by simp) hh rfl rfl rfl
        ⟨_, RepAL.mono (fun _ _ h => h) (fun _ h => h) (fun j hj => hh j (fun e => hnI (e ▸ hj))) _ _ rcs, yE, hyE, .inr ⟨b, z0, cap, vs', by rw [hl']; exact hg, setRow_heap w b c vs' e (0, 0) q2, by rw [hl']; exact q3, q4, by
         have := congrArg List.length hvl'
         simp only [Array.length_toList, List.length_append, List.length_take, List.length_drop] at this
         simp only [Array.length_toList] at hvl
         have hv1 : ([D.v (a.eval v)] : List D).length = 1 := rfl
         rw [this]; omega, RepR.mono (fun _ h => h) (fun j hj => hh j (fun e => hnI (e ▸ hj))) _ _ _ r6⟩⟩ (fun _ _ e => nomatch e)
       have m3 := m2.slotE hdst (x := .d (.v undef)) (v := undef) (by rw [RepA, RepD])
       have hrun2 : (execOp a.eval oper).run P w = .ok .skip (w.setRow b vs') := by
        have hrun0 : (storeVar T ⟨b, z0 + k, none⟩ (a.eval v)).run P w = .ok () (w.setRow b vs') := by simpa using hrun
        simp [execOp, hop, Instr.storeAt, hu, Instr.sureAddr, hrun0]
       unfold effSet at h
       cases hd' : oper.dst with
       | some d =>
        simp only [hd'] at h
        rw [hd'] at m3
        refine ⟨_, h, fun next Q hK => wpIn_unit hF hd hrun2 (hK _ _ G I ?_)⟩
        rw [appO_one rfl rfl rfl, hd']
        exact m3
       | none =>
        simp only [hd'] at h
        rw [hd'] at m3
        refine ⟨_, h, fun next Q hK => wpIn_unit hF hd hrun2 (hK _ _ G I ?_)⟩
        rw [appO_one rfl rfl rfl, hd']
        exact m3
     ·rw [Bool.not_eq_true] at hb; rw [hb] at h; exact h.elim
    ·rw [Bool.not_eq_true] at hck; rw [hck] at h; exact h.elim
   ·exact h.elim
  ·exact h.elim
 ·exact h.elim
theorem snd_nilCheck {x : Operand} (hop : oper.op = .nilCheck x) (h : effOp tb (Con P tb Wn Y) (.nilCheck x) oper.dst g o nid K) : ∃ e, K e ∧ Does tb X P F n g o a w oper e := by
 have hd : ∀ c, oper.op ≠ .defer c := by simp [hop]
 have rx := m.eval x
 simp only [effOp] at h
 split at h
 ·rename_i i off hx
  have r0 := rx
  rw [hx] at r0 rx
  rw [RepA] at rx
  obtain ⟨b, hg, hu⟩ := rx
  exact fin_put hF hd (v := a.eval x) (by simp [execOp, hop, hu]) m r0 hdst h
 ·rename_i cs hx
  have r0 := rx
  rw [hx] at r0 rx
  rw [RepA, RepD] at rx
  obtain ⟨b, off, c, T', fr, hu, _⟩ := rx
  exact fin_put hF hd (v := a.eval x) (by simp [execOp, hop, hu]) m r0 hdst h
 ·rename_i i k sz off hx
  have r0 := rx
  rw [hx] at r0 rx
  rw [RepA] at rx
  obtain ⟨b, l, c, _, hu⟩ := rx
  exact fin_put hF hd (v := a.eval x) (by simp [execOp, hop, hu]) m r0 hdst h
 ·exact h.elim
theorem snd_intE {op : BinOp} {k : IntKind} {p q : Int} (hd : ∀ c, oper.op ≠ .defer c)
  (hrun : (execOp a.eval oper).run P w = ((intSem op k p q).run P w).andThen fun z w' => .ok (.value z) w') (h : intE op k p q fun r => effPut oper.dst r [] K) : ∃ e, K e ∧ Does tb X P F n g o a w oper e := by
 have fin : ∀ (u : Value), (execOp a.eval oper).run P w = .ok (.value u) w → effPut oper.dst (.d (.v u)) [] K → ∃ e, K e ∧ Does tb X P F n g o a w oper e :=
  fun u hr hK => fin_put hF hd hr m (by rw [RepA, RepD]) hdst hK
 cases op <;> simp only [intE] at h <;> first
  | exact h.elim
  | (refine fin _ ?_ h; rw [hrun]; simp [intSem, Op.intArith, Op.intCmp, Op.intBits]; done)
  | (obtain ⟨h0, h⟩ := h; refine fin _ ?_ h; rw [hrun]; simp [intSem, Op.intDiv, h0]; done)
theorem snd_binOp {op : BinOp} {T T' : TypeId} {x y : Operand} (hop : oper.op = .binOp op T x y T') (h : effOp tb (Con P tb Wn Y) (.binOp op T x y T') oper.dst g o nid K) : ∃ e, K e ∧ Does tb X P F n g o a w oper e := by
 have hd : ∀ c, oper.op ≠ .defer c := by simp [hop]
 have rx := m.eval x
 have ry := m.eval y
 simp only [effOp] at h
 unfold binE at h
 split at h
 ·rename_i k p k' q hx hy
  rw [hx, RepA, RepD] at rx
  rw [hy, RepA, RepD] at ry
  have hgd : (eqGuard op T x y (.int k p) (.int k' q)).run P w = .ok () w := by
   unfold eqGuard; split <;> rfl
  split at h
  ·simp only [shiftE] at h
   obtain ⟨h0, h⟩ := h
   refine fin_put hF hd (v := .int k (k.wrap (p * 2 ^ (min q.toNat k.bits)))) ?_ m (by unfold intRes; rw [RepA, RepD]) hdst h
   simp [execOp, hop, rx, ry, hgd, binOp, Op.shift, Int.not_lt.2 h0]
  ·simp only [shiftE] at h
   obtain ⟨h0, h⟩ := h
   refine fin_put hF hd (v := .int k (p.fdiv (2 ^ (min q.toNat k.bits)))) ?_ m (by unfold intRes; rw [RepA, RepD]) hdst h
   simp [execOp, hop, rx, ry, hgd, binOp, Op.shift, Int.not_lt.2 h0]
  ·rename_i h1 h2
   by_cases hk : k = k'
   ·subst hk
    simp only [decide_true, cond_true] at h
    refine snd_intE hP hF m hdst hd (op := op) (k := k) (p := p) (q := q) ?_ h
    cases op <;> simp_all [execOp, binOp, intSem]
   ·simp [hk] at h
 ·rename_i p q hx hy
  rw [hx, RepA, RepD] at rx
  rw [hy, RepA, RepD] at ry
  have hgd : (eqGuard op T x y (.bool p) (.bool q)).run P w = .ok () w := by
   unfold eqGuard; split <;> rfl
  split at h
  ·rename_i s1 s2 z bk hT
   have hk := (hP.ty T _ hT).kind
   simp only [TKOK] at hk
   have heq : ∀ d, (Op.equalIn (d + 1) T (.bool p) (.bool q)).run P w = .ok (p == q) w := fun d => by simp [Op.equalIn, run_und hk]
   split at h
   ·refine fin_put hF hd (v := .bool (p == q)) ?_ m (by unfold boolRes; rw [RepA, RepD]) hdst h
    simp [execOp, hop, rx, ry, hgd, binOp, Op.equal, Op.maxDepth, heq 9999]
   ·refine fin_put hF hd (v := .bool (p != q)) ?_ m (by unfold boolRes; rw [RepA, RepD]) hdst h
    simp [execOp, hop, rx, ry, hgd, binOp, Op.equal, Op.maxDepth, heq 9999, bne]
   ·exact h.elim
  ·exact h.elim
 ·rename_i xs ys hx hy
  rw [hx, RepA, RepD] at rx
  rw [hy, RepA, RepD] at ry
  obtain ⟨us, hu, rx⟩ := rx
  obtain ⟨vs, hv, ry⟩ := ry
  split at h
  ·rename_i yT hT
   have hTy := hP.ty T yT hT
   by_cases hbk : yT.bulk = true
   ·rw [hbk, cond_true] at h
    obtain ⟨hb1, hb2, q, hq, h⟩ := h
    obtain ⟨k, k1, k2, k3, k4⟩ := hTy.eq hb1
    have heq : (Op.equalIn 10000 T (.agg us) (.agg vs)).run P w = .ok q w := by
     have := eq_ok 10 T k k1 9990 w us.toList vs.toList q (fitC_rep k2 hb2 rx) (eqC_rep hq rx ry)
     simpa [k3, packV] using this
    have hgd := run_eqGuard_agg (P := P) w op T x y us vs k4
    split at h
    ·refine fin_put hF hd (v := .bool q) ?_ m (by unfold boolRes; rw [RepA, RepD]) hdst h
     simp [execOp, hop, hu, hv, hgd, run_eql_struct, heq]
    ·refine fin_put hF hd (v := .bool (!q)) ?_ m (by unfold boolRes; rw [RepA, RepD]) hdst h
     simp [execOp, hop, hu, hv, hgd, run_neq_struct, heq]
    ·exact h.elim
   rw [Bool.not_eq_true] at hbk
   rw [hbk, cond_false] at h
   cases hb : (yT.eqB && fitC yT.zero xs) with
   | false => rw [hb] at h; exact h.elim
   | true =>
    rw [hb, cond_true] at h
    simp only [Bool.and_eq_true] at hb
    obtain ⟨k, k1, k2, k3, k4⟩ := hTy.eq hb.1
    split at h
    ·rename_i q hq
     have heq : (Op.equalIn 10000 T (.agg us) (.agg vs)).run P w = .ok q w := by
      have := eq_ok 10 T k k1 9990 w us.toList vs.toList q (fitC_rep k2 hb.2 rx) (eqC_rep hq rx ry)
      simpa [k3, packV] using this
     have hgd := run_eqGuard_agg (P := P) w op T x y us vs k4
     split at h
     ·refine fin_put hF hd (v := .bool q) ?_ m (by unfold boolRes; rw [RepA, RepD]) hdst h
      simp [execOp, hop, hu, hv, hgd, run_eql_struct, heq]
     ·refine fin_put hF hd (v := .bool (!q)) ?_ m (by unfold boolRes; rw [RepA, RepD]) hdst h
      simp [execOp, hop, hu, hv, hgd, run_neq_struct, heq]
     ·exact h.elim
    ·exact h.elim
  ·exact h.elim
 ·rename_i sa sb hx hy
  rw [hx, RepA, RepD] at rx
  rw [hy, RepA, RepD] at ry
  have hgd : (eqGuard op T x y (.string sa) (.string sb)).run P w = .ok () w := by
   unfold eqGuard; split <;> rfl
  split at h
  ·obtain ⟨q, hq, h⟩ := h
   split at h
   ·refine fin_put hF hd (v := .bool q) ?_ m (by unfold boolRes; rw [RepA, RepD]) hdst h
    simp [execOp, hop, rx, ry, hgd, binOp, Op.stringOp, hq]
   ·refine fin_put hF hd (v := .bool (!q)) ?_ m (by unfold boolRes; rw [RepA, RepD]) hdst h
    simp [execOp, hop, rx, ry, hgd, binOp, Op.stringOp, hq]
   ·exact h.elim
  ·exact h.elim
 ·rename_i es hx hy
  rw [hx, RepA, RepD] at rx
  rw [hy, RepA, RepD] at ry
  obtain ⟨ad, len, cap, hu, h1, h2, h3⟩ := rx
  split at h
  ·rename_i e0 s1 s2 z bk hT
   have hk := (hP.ty T _ hT).kind
   simp only [TKOK] at hk
   have key : es ≠ [] → ∃ ad', a.eval x = .slice (some ad') len cap := by
    intro hne
    have : 0 < es.length := List.length_pos_iff.2 hne
    rcases h3 with h3 | ⟨sz, b, off, c, T', fr, r1, r2, r3, r4⟩
    ·omega
    ·exact ⟨_, by rw [hu, r1]⟩
   split at h
   ·obtain ⟨hne, h⟩ := h
    obtain ⟨ad', hx'⟩ := key hne
    refine fin_put hF hd (v := .bool false) ?_ m (by unfold boolRes; rw [RepA, RepD]) hdst h
    have heq : ∀ d, (Op.equalIn (d + 1) T (.slice (some ad') len cap) (.slice none 0 0)).run P w = .ok false w := fun d => by simp [Op.equalIn, run_und hk]
    simp [execOp, hop, hx', ry, eqGuard, binOp, Op.equal, Op.maxDepth, heq 9999]
   ·obtain ⟨hne, h⟩ := h
    obtain ⟨ad', hx'⟩ := key hne
    refine fin_put hF hd (v := .bool true) ?_ m (by unfold boolRes; rw [RepA, RepD]) hdst h
    have heq : ∀ d, (Op.equalIn (d + 1) T (.slice (some ad') len cap) (.slice none 0 0)).run P w = .ok false w := fun d => by simp [Op.equalIn, run_und hk]
    simp [execOp, hop, hx', ry, eqGuard, binOp, Op.equal, Op.maxDepth, heq 9999]
   ·exact h.elim
  ·exact h.elim
 ·rename_i hx hy
  rw [hx, RepA, RepD] at rx
  rw [hy, RepA, RepD] at ry
  split at h
  ·rename_i e0 s1 s2 z bk hT
   have hk := (hP.ty T _ hT).kind
   simp only [TKOK] at hk
   have heq : ∀ d, (Op.equalIn (d + 1) T (.slice none 0 0) (.slice none 0 0)).run P w = .ok true w := fun d => by simp [Op.equalIn, run_und hk]
   split at h
   ·refine fin_put hF hd (v := .bool true) ?_ m (by unfold boolRes; rw [RepA, RepD]) hdst h
    simp [execOp, hop, rx, ry, eqGuard, binOp, Op.equal, Op.maxDepth, heq 9999]
   ·refine fin_put hF hd (v := .bool false) ?_ m (by unfold boolRes; rw [RepA, RepD]) hdst h
    simp [execOp, hop, rx, ry, eqGuard, binOp, Op.equal, Op.maxDepth, heq 9999]
   ·exact h.elim
  ·exact h.elim
 ·exact h.elim
theorem snd_unOp {op : UnOp} {T : TypeId} {x : Operand} (hop : oper.op = .unOp op T x) (h : effOp tb (Con P tb Wn Y) (.unOp op T x) oper.dst g o nid K) : ∃ e, K e ∧ Does tb X P F n g o a w oper e := by
 have hd : ∀ c, oper.op ≠ .defer c := by simp [hop]
 have rx := m.eval x
 simp only [effOp] at h
 split at h
 ·split at h
  ·rename_i b hx
   rw [hx, RepA, RepD] at rx
   refine fin_put hF hd (v := .bool (!b)) ?_ m (by unfold boolRes; rw [RepA, RepD]) hdst h
   simp [execOp, hop, rx, Op.unary]
  ·exact h.elim
 ·unfold isInt at h
  split at h
  ·rename_i k q hx
   rw [hx, RepA, RepD] at rx
   refine fin_put hF hd (v := .int k (k.wrap (0 - q))) ?_ m (by unfold intRes; rw [RepA, RepD]) hdst h
   simp [execOp, hop, rx, Op.unary, Op.intArith]
  ·exact h.elim
 ·exact h.elim
theorem snd_extract {t : Operand} {i : Nat} (hop : oper.op = .extract t i) (h : effOp tb (Con P tb Wn Y) (.extract t i) oper.dst g o nid K) : ∃ e, K e ∧ Does tb X P F n g o a w oper e := by
 have hd : ∀ c, oper.op ≠ .defer c := by simp [hop]
 have rx := m.eval t
 simp only [effOp] at h
 split at h
 ·rename_i xs hx
  rw [hx, RepA] at rx
  obtain ⟨vs, hu, r⟩ := rx
  split at h
  ·rename_i y hy
   obtain ⟨v, hv, rv⟩ := RepAL.at r hy
   refine fin_put hF hd (v := v) ?_ m rv hdst h
   have : vs[i]? = some v := by simpa using hv
   simp [execOp, hop, hu, Instr.extract, this]
  ·exact h.elim
 ·rename_i xs hx
  rw [hx, RepA, RepD] at rx
  obtain ⟨vs, hu, r⟩ := rx
  split at h
  ·rename_i y hy
   obtain ⟨v, hv, rv⟩ := RepL.at r hy
   refine fin_put hF hd (v := v) ?_ m (by rw [RepA]; exact rv) hdst h
   have : vs[i]? = some v := by simpa using hv
   simp [execOp, hop, hu, Instr.extract, this]
  ·exact h.elim
 ·exact h.elim
end
end Go.Ev


namespace Go.Ev
open RowKit
theorem toDs_map : ∀ r : List D, toDs (r.map A.d) = some r
 | [] => rfl
 | a :: r => by simp [toDs, toDs_map r]
theorem aggA_map (ds : List D) : aggA (ds.map A.d) = .d (.agg ds) := by unfold aggA; rw [toDs_map]
theorem struct_field {P : Program} {t : TypeId} {fs : List (Nat × TypeId)} (h : TKOK (P.underlying t) (.struct fs)) {f off : Nat} {ft : TypeId} (hf : fs[f]? = some (off, ft)) :
  ∃ fields fld, P.underlying t = some (.struct fields) ∧ fields[f]? = some fld ∧ fld.offset = off ∧ fld.type = ft := by
 obtain ⟨fields, h1, rfl⟩ := h
 rw [List.getElem?_map] at hf
 obtain ⟨fld, h2, h3⟩ := Option.map_eq_some_iff.1 hf
 simp only [Prod.mk.injEq] at h3
 exact ⟨fields, fld, h1, by simpa using h2, h3.1, h3.2⟩
theorem run_mapM {α β : Type} {P : Program} {w : World} (r : α → Sem β) (s : α → β) : ∀ (l : List α), (∀ f ∈ l, (r f).run P w = .ok (s f) w) → (l.mapM r).run P w = .ok (l.map s) w
 | [], _ => by simp
 | f :: l, hl => by
  rw [List.mapM_cons, Sem.run_bind, hl f (by simp), Result.andThen_ok, Sem.run_bind, run_mapM r s l (fun f hf => hl f (by simp [hf]))]
  rfl
section
variable {tb : TB} {X : Ctx} {P : Program} {Wn : Nat} {Y : Nat → List D → Bool → Prop} {F : Fence} {n : Nat} {g : Nat → A} {o : Nat → Option Ob} {a : Act} {w : World} {G : Nat → Option GR} {I : Nat → Prop} {oper : Oper} {K : Eff → Prop} {nid : Nat}
variable (hP : PG P tb) (hF : Wide F) (m : Mod tb X g o a w G I) (hdst : ∀ d, oper.dst = some d → d < X.nt)
include hP hF m hdst
theorem snd_fieldAddr {T : TypeId} {x : Operand} {f : Nat} (hop : oper.op = .fieldAddr T x f) (h : effOp tb (Con P tb Wn Y) (.fieldAddr T x f) oper.dst g o nid K) : ∃ e, K e ∧ Does tb X P F n g o a w oper e := by
 have hd : ∀ c, oper.op ≠ .defer c := by simp [hop]
 have rx := m.eval x
 simp only [effOp] at h
 split at h
 ·rename_i fs s1 s2 z bk hT
  split at h
  ·rename_i off ft hf
   split at h
   ·rename_i y hy
    obtain ⟨fields, fld, hu, hfld, ho1, ho2⟩ := struct_field (hP.ty T _ hT).kind hf
    have hsz := (hP.ty ft y hy).size (w := w)
    by_cases hz : Nat.beq y.size 0 = true
    ·rw [hz] at h; exact h.elim
    ·rw [Bool.not_eq_true] at hz
     rw [hz] at h
     have hz' : y.size ≠ 0 := fun e => by rw [e] at hz; cases hz
     have hrun : ∀ b q, a.eval x = .pointer (some ⟨b, q, none⟩) → (execOp a.eval oper).run P w = .ok (.value (.pointer (some ⟨b, q + off, none⟩))) w := by
      intro b q hq
      have hpl : (fieldPlace ⟨b, q, none⟩ fld).run P w = .ok ⟨b, q + off, none⟩ w := by
       unfold fieldPlace
       rw [Sem.run_bind, ho2, hsz, Result.andThen_ok, if_neg hz', ho1, addr_add]; rfl
      simp [execOp, hop, Instr.fieldAt, run_und hu, hfld, hq, Instr.sureAddr, hpl]
     simp only [cond_false] at h
     split at h
     ·rename_i i q hx
      rw [hx, RepA] at rx
      obtain ⟨b, hg, hu⟩ := rx
      exact fin_put hF hd (hrun _ _ hu) m (by rw [RepA]; exact ⟨b, hg, rfl⟩) hdst h
     ·rename_i cs hx
      rw [hx, RepA, RepD] at rx
      obtain ⟨b, q, c, T', fr, hu, hIb, hc, hr⟩ := rx
      refine fin_put hF hd (hrun _ _ hu) m ?_ hdst h
      rw [RepA, RepD]
      refine ⟨b, q + off, c, T', fr, rfl, hIb, hc, ?_⟩
      have := hr.drop off
      rwa [List.drop_take, List.drop_drop, ← List.length_drop] at this
     ·rename_i cs n0 hx
      rw [hx, RepA, RepD] at rx
      obtain ⟨b, q, c, T', fr, hu, hIb, hc, hr⟩ := rx
      refine fin_put hF hd (hrun _ _ hu) m ?_ hdst h
      rw [RepA, RepD]
      exact ⟨b, q, c, T', fr, by rw [Nat.add_assoc], hIb, hc, hr⟩
     ·rename_i i k sz q hx
      rw [hx, RepA] at rx
      obtain ⟨b, z0, len, cap, hg, hu⟩ := rx
      refine fin_put hF hd (hrun _ _ hu) m ?_ hdst h
      rw [RepA]
      exact ⟨b, z0, len, cap, hg, by rw [Nat.add_assoc]⟩
     ·exact h.elim
   ·exact h.elim
  ·exact h.elim
 ·exact h.elim
theorem snd_indexAddr {T : TypeId} {x ix : Operand} (hop : oper.op = .indexAddr T x ix) (h : effOp tb (Con P tb Wn Y) (.indexAddr T x ix) oper.dst g o nid K) : ∃ e, K e ∧ Does tb X P F n g o a w oper e := by
 have hd : ∀ c, oper.op ≠ .defer c := by simp [hop]
 have rx := m.eval x
 have ri := m.eval ix
 simp only [effOp] at h
 split at h
 ·rename_i e s1 s2 z bk hT
  have hk := (hP.ty T _ hT).kind
  simp only [TKOK] at hk
  split at h
  ·rename_i y hy
   have hsz := (hP.ty e y hy).size (w := w)
   have hrun : ∀ b q len cap kk (nn : Nat), a.eval x = .slice (some ⟨b, q, none⟩) len cap → a.eval ix = .int kk nn → nn < len → (execOp a.eval oper).run P w = .ok (.value (.pointer (some ⟨b, q + nn * y.size, none⟩))) w := by
    intro b q len cap kk nn h1 h2 h3
    simp [execOp, hop, Instr.indexAt, h1, h2, asIntOf, run_und hk, hsz, addr_add, h3]
   split at h
   ·rename_i es hx
    unfold isInt at h
    split at h
    ·rename_i kk q hi
     rw [hi, RepA, RepD] at ri
     obtain ⟨nn, el, rfl, hel, hlen, h⟩ := h
     rw [hx, RepA, RepD] at rx
     obtain ⟨ad, len, cap, hu, h1, h2, h3⟩ := rx
     have hnn : nn < es.length := (List.getElem?_eq_some_iff.1 hel).1
     rcases h3 with h3 | ⟨sz, b, off, c, T', fr, rfl, hIb, hc, hr⟩
     ·omega
     ·obtain ⟨e1, e2, _⟩ := RepR.at hr hel
      have : sz = y.size := by omega
      subst this
      refine fin_put hF hd (hrun _ _ _ _ _ _ hu ri (by omega)) m ?_ hdst h
      rw [RepA, RepD]
      refine ⟨b, _, c, T', fr, rfl, hIb, hc, ?_⟩
      rw [List.drop_drop] at e2
      rw [hlen]
      exact e2
    ·exact h.elim
   ·rename_i i hx
    rw [hx, RepA] at rx
    obtain ⟨⟨gr, hg, hu⟩, _⟩ := rx
    split at h
    ·rename_i T' es ho
     unfold isInt at h
     split at h
     ·rename_i kk q hi
      rw [hi, RepA, RepD] at ri
      obtain ⟨nn, rfl, hnn, h⟩ := h
      obtain ⟨y', hy', hob⟩ := m.objs i _ ho
      rcases hob with ⟨rfl, h2⟩ | ⟨b, z0, cap, c, h2, h3, h4, h5, h6, h7⟩
      ·simp at hnn
      ·rw [hg] at h2; cases h2
       refine fin_put hF hd (hrun _ _ _ _ _ _ hu ri hnn) m ?_ hdst h
       rw [RepA]
       exact ⟨b, z0, _, cap, hg, by simp⟩
     ·exact h.elim
    ·rename_i T' cs ho
     unfold isInt at h
     split at h
     ·rename_i kk q hi
      rw [hi, RepA, RepD] at ri
      obtain ⟨nn, rfl, hnn, h⟩ := h
      obtain ⟨us, r1, y', hy', hob⟩ := m.objs i _ ho
      have hul : (rawE us).length = cs.length := by unfold rawE; simp [RepAL.length r1]
      rcases hob with ⟨h1, h2⟩ | ⟨b, z0, cap, c, h2, h3, h4, h5, h6, h7⟩
      ·rw [h1] at hul; simp at hul; omega
      ·rw [hg] at h2; cases h2
       refine fin_put hF hd (hrun _ _ _ _ _ _ hu ri (by rw [hul]; exact hnn)) m ?_ hdst h
       rw [RepA]
       exact ⟨b, z0, _, cap, hg, by simp⟩
     ·exact h.elim
    ·exact h.elim
   ·rename_i cs hx
    unfold isInt at h
    split at h
    ·rename_i kk q hi
     rw [hi, RepA, RepD] at ri
     obtain ⟨nn, c1, rfl, hel, hlen, h⟩ := h
     rw [hx, RepA] at rx
     obtain ⟨b, c, T', fr, hu, hIb, hc, hr⟩ := rx
     have hnn : nn < cs.length := (List.getElem?_eq_some_iff.1 hel).1
     obtain ⟨v, hv, rv⟩ := RepAL.at hr hel
     refine fin_put hF hd (hrun _ _ _ _ _ _ hu ri hnn) m ?_ hdst h
     rw [RepA]
     exact ⟨b, 0 + nn * y.size, c, T', fr, v, rfl, hIb, hc, by rw [hlen, Nat.mul_one, Nat.zero_add, ← Array.getElem?_toList]; exact hv, rv⟩
    ·exact h.elim
   ·exact h.elim
  ·exact h.elim
 ·rename_i len e s1 s2 z bk hT
  have hk := (hP.ty T _ hT).kind
  simp only [TKOK] at hk
  split at h
  ·rename_i y hy
   have hsz := (hP.ty e y hy).size (w := w)
   split at h
   ·rename_i i off hx
    rw [hx, RepA] at rx
    obtain ⟨b, hg, hu⟩ := rx
    unfold isInt at h
    split at h
    ·rename_i kk q hi
     rw [hi, RepA, RepD] at ri
     obtain ⟨nn, rfl, hnn, h⟩ := h
     refine fin_put hF hd (v := .pointer (some ⟨b, off + nn * y.size, none⟩)) ?_ m (by rw [RepA]; exact ⟨b, hg, rfl⟩) hdst h
     simp [execOp, hop, Instr.indexAt, hu, ri, asIntOf, run_und hk, hsz, addr_add, hnn, Instr.sureAddr]
    ·exact h.elim
   ·rename_i cs hx
    rw [hx, RepA, RepD] at rx
    obtain ⟨b, off, c, T', fr, hu, hIb, hc, hr⟩ := rx
    unfold isInt at h
    split at h
    ·rename_i kk q hi
     rw [hi, RepA, RepD] at ri
     obtain ⟨nn, rfl, hnn, h⟩ := h
     refine fin_put hF hd (v := .pointer (some ⟨b, off + nn * y.size, none⟩)) ?_ m (by rw [RepA, RepD]; exact ⟨b, off, c, T', fr, rfl, hIb, hc, hr⟩) hdst h
     simp [execOp, hop, Instr.indexAt, hu, ri, asIntOf, run_und hk, hsz, addr_add, hnn, Instr.sureAddr]
    ·exact h.elim
   ·rename_i cs n0 hx
    rw [hx, RepA, RepD] at rx
    obtain ⟨b, off, c, T', fr, hu, hIb, hc, hr⟩ := rx
    unfold isInt at h
    split at h
    ·rename_i kk q hi
     rw [hi, RepA, RepD] at ri
     obtain ⟨nn, rfl, hnn, h⟩ := h
     refine fin_put hF hd (v := .pointer (some ⟨b, off + n0 + nn * y.size, none⟩)) ?_ m (by rw [RepA, RepD]; exact ⟨b, off, c, T', fr, by rw [Nat.add_assoc], hIb, hc, hr⟩) hdst h
     simp [execOp, hop, Instr.indexAt, hu, ri, asIntOf, run_und hk, hsz, addr_add, hnn, Instr.sureAddr]
    ·exact h.elim
   ·rename_i i k sz q0 hx
    rw [hx, RepA] at rx
    obtain ⟨b, z0, ln, cap, hg, hu⟩ := rx
    unfold isInt at h
    split at h
    ·rename_i kk q hi
     rw [hi, RepA, RepD] at ri
     obtain ⟨nn, rfl, hnn, h⟩ := h
     refine fin_put hF hd (v := .pointer (some ⟨b, z0 + k * sz + q0 + nn * y.size, none⟩)) ?_ m (by rw [RepA]; exact ⟨b, z0, ln, cap, hg, by rw [Nat.add_assoc]⟩) hdst h
     simp [execOp, hop, Instr.indexAt, hu, ri, asIntOf, run_und hk, hsz, addr_add, hnn, Instr.sureAddr]
    ·exact h.elim
   ·exact h.elim
  ·exact h.elim
 ·exact h.elim
omit hP hF m hdst in
theorem foldl_put : ∀ (vs : List Value) (off k : Nat) (cells : Array Value), off + k + vs.length ≤ cells.size →
  ((vs.zipIdx k).foldl (fun cs (p : Value × Nat) => cs.setIfInBounds (off + p.2) p.1) cells).toList = cells.toList.take (off + k) ++ vs ++ cells.toList.drop (off + k + vs.length)
 | [], off, k, cells, _ => by simp
 | v :: vs, off, k, cells, hl => by
  simp only [List.length_cons] at hl
  have ih := foldl_put vs off (k + 1) (cells.setIfInBounds (off + k) v) (by simp; omega)
  simp only [List.zipIdx_cons, List.foldl_cons]
  rw [ih]
  have hs := list_seg_step cells.toList (off + k) v vs (by simp; omega)
  simp only [Array.toList_setIfInBounds, List.length_cons]
  rw [← Nat.add_assoc off k 1]
  exact hs
omit hP hF m hdst in
theorem fillA_sound (tb : TB) (fs : List (Nat × TypeId)) (place : Nat → Option (Nat × Nat)) (hpl : ∀ i off t y, fs[i]? = some (off, t) → tb t = some y → place i = some (off, y.size)) :
  ∀ (ps : List (Nat × A)) (qs : List (Nat × Value)) (cells : List A) (vc : Array Value) (K : List A → Prop),
   qs.map (·.1) = ps.map (·.1) → (∀ (k : Nat) (x : Nat × A) (v : Nat × Value), ps[k]? = some x → qs[k]? = some v → RepA G I w.heap x.2 v.2) → RepAL G I w.heap cells vc.toList → fillA tb fs cells ps K →
   ∃ cs vs, Instr.fill place vc qs = some vs ∧ RepAL G I w.heap cs vs.toList ∧ K cs
 | [], qs, cells, vc, K, hq, _, hr, h => by
  have : qs = [] := by simpa using hq
  subst this
  exact ⟨cells, vc, rfl, hr, h⟩
 | (i, x) :: ps, qs, cells, vc, K, hq, hx, hr, h => by
  cases qs with
  | nil => simp at hq
  | cons jv qs =>
  obtain ⟨j, v⟩ := jv
  simp only [List.map_cons, List.cons.injEq] at hq
  obtain ⟨rfl, hq⟩ := hq
  have rv : RepA G I w.heap x v := hx 0 _ _ rfl rfl
  simp only [fillA] at h
  split at h
  ·rename_i off t hf
   split at h
   ·rename_i y hy
    rw [withCells_eq] at h
    obtain ⟨xs, hc, h⟩ := h
    by_cases hb : (Nat.beq xs.length y.size && Nat.ble (off + xs.length) cells.length) = true
    ·rw [hb] at h
     simp only [cond_true, fL_eq] at h
     rw [Bool.and_eq_true] at hb
     have h1 := Nat.eq_of_beq_eq_true hb.1
     have h2 := Nat.le_of_ble_eq_true hb.2
     have rc := cellsOf_rep hc rv
     have hl := RepAL.length rc
     have hcl := RepAL.length hr
     simp only [Array.length_toList] at hl hcl
     have hp := hpl _ off t y hf hy
     have hfold := foldl_put v.cells.toList off 0 vc (by simp; omega)
     have hr2 : RepAL G I w.heap (putAt cells off xs) ((v.cells.zipIdx.foldl (fun cs (p : Value × Nat) => cs.setIfInBounds (off + p.2) p.1) vc)).toList := by
      have e1 : (v.cells.zipIdx.foldl (fun cs (p : Value × Nat) => cs.setIfInBounds (off + p.2) p.1) vc) = ((v.cells.toList.zipIdx 0).foldl (fun cs (p : Value × Nat) => cs.setIfInBounds (off + p.2) p.1) vc) := by
       rw [← Array.foldl_toList, Array.toList_zipIdx]
      rw [e1, hfold]
      unfold putAt
      simp only [Nat.add_zero]
      refine RepAL.append (RepAL.append (hr.take off) rc) ?_
      rw [show v.cells.toList.length = xs.length by simpa using hl]
      exact hr.drop _
     obtain ⟨cs, vs, g1, g2, g3⟩ := fillA_sound tb fs place hpl ps qs _ _ K hq (fun k x v hk hv => hx (k + 1) x v (by simpa using hk) (by simpa using hv)) hr2 h
     refine ⟨cs, vs, ?_, g2, g3⟩
     simp only [Instr.fill, hp]
     rw [if_neg (by simp; omega)]
     exact g1
    ·rw [Bool.not_eq_true] at hb; rw [hb] at h; exact h.elim
   ·exact h.elim
  ·exact h.elim
omit hP hF m hdst in
theorem fillA_mono (tb : TB) (fs : List (Nat × TypeId)) : ∀ (ps : List (Nat × A)) (cells : List A) {K K' : List A → Prop}, fillA tb fs cells ps K → (∀ cs, K cs → K' cs) → fillA tb fs cells ps K'
 | [], cells, K, K', h, hk => hk _ h
 | (i, x) :: ps, cells, K, K', h, hk => by
  simp only [fillA] at h ⊢
  split at h
  ·split at h
   ·rw [withCells_eq] at h ⊢
    obtain ⟨xs, hc, h⟩ := h
    refine ⟨xs, hc, ?_⟩
    rename_i y hy
    cases hb : (Nat.beq xs.length y.size && Nat.ble (_ + xs.length) cells.length) with
    | true => rw [hb] at h; simp only [cond_true, fL_eq] at h ⊢; exact fillA_mono tb fs ps _ h hk
    | false => rw [hb] at h; exact h.elim
   ·exact h.elim
  ·exact h.elim
omit hP hF m hdst in
theorem arrFs_get {sz : Nat} {e : TypeId} : ∀ {n off i o' : Nat} {t : TypeId}, (arrFs sz e n off)[i]? = some (o', t) → o' = off + i * sz ∧ t = e
 | 0, off, i, o', t, h => by simp [arrFs] at h
 | n + 1, off, 0, o', t, h => by simp [arrFs] at h; exact ⟨by omega, h.2.symm⟩
 | n + 1, off, i + 1, o', t, h => by
  simp only [arrFs, List.getElem?_cons_succ] at h
  obtain ⟨h1, h2⟩ := arrFs_get h
  refine ⟨?_, h2⟩
  rw [h1, Nat.succ_mul]; omega
theorem snd_build {T : TypeId} {ps : Array (Nat × Operand)} (hop : oper.op = .build T ps) (h : effOp tb (Con P tb Wn Y) (.build T ps) oper.dst g o nid K) : ∃ e, K e ∧ Does tb X P F n g o a w oper e := by
 have hd : ∀ c, oper.op ≠ .defer c := by simp [hop]
 simp only [effOp] at h
 split at h
 ·rename_i fs s1 s2 z bk hT
  by_cases hall : (fs.all fun p => (tb p.2).isSome) = true
  ·rw [hall] at h
   simp only [cond_true, fL_eq] at h
   have hTy := hP.ty T _ hT
   have h : ∃ x : List A → A, (∀ (cs : List A) (vs : List Value), RepAL G I w.heap cs vs → RepA G I w.heap (x cs) (.agg vs.toArray)) ∧ fillA tb fs (z.map fun v => .d (.v v)) (ps.toList.map fun p => (p.1, opA g p.2)) fun cs => effPut oper.dst (x cs) [] K := by
    cases hbz : (bk.1 && z.all intV) with
    | true =>
     rw [hbz] at h
     simp only [cond_true] at h
     obtain ⟨ds, hc, h⟩ := h
     refine ⟨aggA, fun cs vs r => RepA.aggA r, fillA_mono tb fs _ _ hc fun cs' e => by subst e; rw [aggA_map]; exact h⟩
    | false =>
    rw [hbz] at h
    simp only [cond_false] at h
    cases hbk : bk.1 with
    | true =>
     rw [hbk] at h
     simp only [cond_true] at h
     obtain ⟨cs, hc, h⟩ := h
     refine ⟨.agg, fun cs vs r => by rw [RepA]; exact ⟨vs.toArray, rfl, r⟩, fillA_mono tb fs _ _ hc fun cs' e => by subst e; exact h⟩
    | false =>
     rw [hbk] at h
     simp only [cond_false] at h
     exact ⟨aggA, fun cs vs r => RepA.aggA r, h⟩
   obtain ⟨x, hx, h⟩ := h
   obtain ⟨i, zv, h1, h2, h3, h4, h5⟩ := hTy.info
   have hk := hTy.kind
   obtain ⟨fields, hu, hfs⟩ := hk
   have hfl : ∀ f ∈ fields.toList, ∃ y, tb f.type = some y := by
    intro f hf
    rw [List.all_eq_true] at hall
    have : (f.offset, f.type) ∈ fs := by rw [← hfs]; exact List.mem_map.2 ⟨f, hf, rfl⟩
    exact Option.isSome_iff_exists.1 (hall _ this)
   have hplaces : (Array.mapM (fun f : Field => (Prod.mk f.offset <$> sizeOf f.type : Sem (Nat × Nat))) fields).run P w = .ok (fields.map fun f => (f.offset, ((tb f.type).map (·.size)).getD 0)) w := by
    rw [Array.mapM_eq_mapM_toList, Sem.run_map, run_mapM _ (fun f : Field => (f.offset, ((tb f.type).map (·.size)).getD 0)) fields.toList (fun f hf => by
     obtain ⟨y, hy⟩ := hfl f hf
     have := (hP.ty f.type y hy).size (w := w)
     simp [this, hy])]
    simp only [Result.andThen_ok]
    congr 1
    apply Array.ext'
    simp
   obtain ⟨cs, vs, g1, g2, g3⟩ := fillA_sound (w := w) (G := G) (I := I) tb fs ((fields.map fun f => (f.offset, ((tb f.type).map (·.size)).getD 0))[·]?) (fun i off t y hi hy => by
     obtain ⟨fields', fld, hu', hfld, ho1, ho2⟩ := struct_field (P := P) ⟨fields, hu, hfs⟩ hi
     rw [hu] at hu'; cases hu'
     simp [hfld, ho1, ho2, hy]) (ps.toList.map fun p => (p.1, opA g p.2)) (ps.toList.map fun p => (p.1, a.eval p.2)) _ zv.cells _
    (by simp) (fun k x v hk hv => by
     simp only [List.getElem?_map] at hk hv
     obtain ⟨p, hp, rfl⟩ := Option.map_eq_some_iff.1 hk
     rw [hp] at hv; cases hv
     exact m.eval p.2) (by rw [h5]; exact zero_rep (y := ⟨.struct fs, s1, s2, z, bk⟩)) h
   refine fin_put hF hd (v := .agg vs) ?_ m (by simpa using hx _ _ g2) hdst g3
   simp only [Array.getElem?_map] at g1
   simp [execOp, hop, Instr.build, run_zero h1 h4, run_und hu, hplaces, g1]
  ·rw [Bool.not_eq_true] at hall; rw [hall] at h; exact h.elim
 ·rename_i len e s1 s2 z bk hT
  split at h
  ·rename_i y hy
   have hTy := hP.ty T _ hT
   have hY := hP.ty e y hy
   have hk := hTy.kind
   simp only [TKOK] at hk
   obtain ⟨i, zv, h1, h2, h3, h4, h5⟩ := hTy.info
   simp only [fL_eq] at h
   obtain ⟨cs, vs, g1, g2, g3⟩ := fillA_sound (w := w) (G := G) (I := I) tb (arrFs y.size e len 0) (fun i => some (i * y.size, y.size)) (fun i off t y' hi hy' => by
     obtain ⟨ho, ht⟩ := arrFs_get hi
     subst ht
     rw [hy] at hy'; cases hy'
     rw [ho, Nat.zero_add]) (ps.toList.map fun p => (p.1, opA g p.2)) (ps.toList.map fun p => (p.1, a.eval p.2)) _ zv.cells _
    (by simp) (fun k x v hk hv => by
     simp only [List.getElem?_map] at hk hv
     obtain ⟨p, hp, rfl⟩ := Option.map_eq_some_iff.1 hk
     rw [hp] at hv; cases hv
     exact m.eval p.2) (by rw [h5]; exact zero_rep (y := ⟨.arr len e, s1, s2, z, bk⟩)) h
   refine fin_put hF hd (v := .agg vs) ?_ m (by have := RepA.aggA g2; simpa using this) hdst g3
   simp [execOp, hop, Instr.build, run_zero h1 h4, run_und hk, hY.size, g1]
  ·exact h.elim
 ·exact h.elim
omit hP hF m hdst in
theorem run_partT {t : TypeId} {y : Ty} (h : TyOK P t y) {cs : Array Value} {off : Nat} {v : Value}
  (hv : (y.k.agg = true ∧ ((cs.toList.drop off).take y.size).length = y.size ∧ v = .agg ((cs.toList.drop off).take y.size).toArray) ∨ (y.k.agg = false ∧ cs[off]? = some v)) : (part t cs off).run P w = .ok v w := by
 rcases hv with ⟨h1, h2, rfl⟩ | ⟨h1, h2⟩
 ·have e : cs.extract off (off + y.size) = ((cs.toList.drop off).take y.size).toArray := by
   apply Array.ext'
   simp [List.take_drop]
  simp [part, h.isAgg, h1, h.size, e]
 ·simp [part, h.isAgg, h1, h2]
theorem snd_field {T : TypeId} {x : Operand} {f : Nat} (hop : oper.op = .field T x f) (h : effOp tb (Con P tb Wn Y) (.field T x f) oper.dst g o nid K) : ∃ e, K e ∧ Does tb X P F n g o a w oper e := by
 have hd : ∀ c, oper.op ≠ .defer c := by simp [hop]
 have rx := m.eval x
 simp only [effOp] at h
 split at h
 ·rename_i fs s1 s2 z bk hT
  split at h
  ·rename_i off ft hf
   split at h
   ·rename_i y hy
    have hY := hP.ty ft y hy
    obtain ⟨fields, fld, hu, hfld, ho1, ho2⟩ := struct_field (hP.ty T _ hT).kind hf
    have run : ∀ (cs : Array Value) (v : Value), a.eval x = .agg cs → (part ft cs off).run P w = .ok v w → (execOp a.eval oper).run P w = .ok (.value v) w := by
     intro cs v hx hp
     have e1 : (Instr.field T (a.eval x) f).run P w = .ok v w := by
      rw [hx]
      simp [Instr.field, run_und hu, hfld, asAgg, ho1, ho2, hp]
     simp [execOp, hop, e1]
    split at h
    ·rename_i ds hx
     rw [hx, RepA, RepD] at rx
     obtain ⟨vs, hv, r⟩ := rx
     unfold partD at h
     cases ha : y.k.agg with
     | true =>
      rw [ha] at h
      simp only at h
      cases hb : Nat.beq ((ds.drop off).take y.size).length y.size with
      | false => rw [hb] at h; exact h.elim
      | true =>
       rw [hb, cond_true] at h
       have r2 := (r.drop off).take y.size
       refine fin_put hF hd (v := .agg ((vs.toList.drop off).take y.size).toArray) (run vs _ hv (run_partT hY (.inl ⟨ha, ?_, rfl⟩))) m (by rw [RepA, RepD]; exact ⟨_, rfl, r2⟩) hdst h
       rw [RepL.length r2]
       exact Nat.eq_of_beq_eq_true hb
     | false =>
      rw [ha] at h
      simp only at h
      split at h
      ·rename_i c hc
       obtain ⟨v, hv2, rv⟩ := RepL.at r hc
       exact fin_put hF hd (v := v) (run vs _ hv (run_partT hY (.inr ⟨ha, by simpa using hv2⟩))) m (by rw [RepA]; exact rv) hdst h
      ·exact h.elim
    ·rename_i cs hx
     rw [hx, RepA] at rx
     obtain ⟨vs, hv, r⟩ := rx
     cases ha : y.k.agg with
     | true =>
      rw [ha] at h
      simp only [cond_true, fL_eq] at h
      cases hb : Nat.beq ((cs.drop off).take y.size).length y.size with
      | false => rw [hb] at h; exact h.elim
      | true =>
       rw [hb, cond_true] at h
       have r2 := (r.drop off).take y.size
       refine fin_put hF hd (v := .agg ((vs.toList.drop off).take y.size).toArray) (run vs _ hv (run_partT hY (.inl ⟨ha, ?_, rfl⟩))) m (RepA.aggA r2) hdst h
       rw [RepAL.length r2]
       exact Nat.eq_of_beq_eq_true hb
     | false =>
      rw [ha] at h
      simp only [cond_false] at h
      split at h
      ·rename_i c hc
       obtain ⟨v, hv2, rv⟩ := RepAL.at r hc
       exact fin_put hF hd (v := v) (run vs _ hv (run_partT hY (.inr ⟨ha, by simpa using hv2⟩))) m rv hdst h
      ·exact h.elim
    ·exact h.elim
   ·exact h.elim
  ·exact h.elim
 ·exact h.elim
theorem snd_index {T : TypeId} {x ix : Operand} (hop : oper.op = .index T x ix) (h : effOp tb (Con P tb Wn Y) (.index T x ix) oper.dst g o nid K) : ∃ e, K e ∧ Does tb X P F n g o a w oper e := by
 have hd : ∀ c, oper.op ≠ .defer c := by simp [hop]
 have rx := m.eval x
 have ri := m.eval ix
 simp only [effOp] at h
 split at h
 ·rename_i len e s1 s2 z bk hT
  have hk := (hP.ty T _ hT).kind
  simp only [TKOK] at hk
  split at h
  ·rename_i y hy
   have hY := hP.ty e y hy
   split at h
   ·rename_i ds hx
    rw [hx, RepA, RepD] at rx
    obtain ⟨vs, hv, r⟩ := rx
    unfold isInt at h
    split at h
    ·rename_i q k hix
     rw [hix, RepA, RepD] at ri
     obtain ⟨j, rfl, hj, h⟩ := h
     have run : ∀ (v : Value), (part e vs (j * y.size)).run P w = .ok v w → (execOp a.eval oper).run P w = .ok (.value v) w := by
      intro v hp
      have e1 : (Instr.index T (a.eval x) (a.eval ix)).run P w = .ok v w := by
       rw [hv, ri]
       have h0 : (0 : Int) ≤ (j : Int) ∧ (j : Int) < (len : Int) := by omega
       simp [Instr.index, asIntOf, run_und hk, hY.size, hj, hp]
      simp [execOp, hop, e1]
     cases ha : y.k.agg with
     | true =>
      rw [ha] at h
      simp only [cond_true] at h
      obtain ⟨hb, h⟩ := h
      have r2 := (r.drop (j * y.size)).take y.size
      refine fin_put hF hd (v := .agg ((vs.toList.drop (j * y.size)).take y.size).toArray) (run _ (run_partT hY (.inl ⟨ha, ?_, rfl⟩))) m (by rw [RepA, RepD]; exact ⟨_, rfl, r2⟩) hdst h
      rw [RepL.length r2]
      exact hb
     | false =>
      rw [ha] at h
      simp only [cond_false] at h
      obtain ⟨c, hc, h⟩ := h
      obtain ⟨v, hv2, rv⟩ := RepL.at r hc
      exact fin_put hF hd (v := v) (run _ (run_partT hY (.inr ⟨ha, by simpa using hv2⟩))) m (by rw [RepA]; exact rv) hdst h
    ·exact h.elim
   ·exact h.elim
  ·exact h.elim
 ·exact h.elim
end
end Go.Ev


namespace Go.Ev
open RowKit
section
variable {tb : TB} {G : Nat → Option GR} {I : Nat → Prop} {h : Array Obj} {o : Nat → Option Ob}
theorem RepR.len : ∀ {sz : Nat} {es : List (List D)} {vs : List Value}, RepR I h sz es vs → es.length * sz ≤ vs.length
 | _, [], _, _ => by simp
 | sz, e :: es, vs, r => by
  rw [RepR] at r
  obtain ⟨r1, r2, r3, r4⟩ := r
  have h1 := RepL.length r2
  have h2 := RepR.len r4
  simp only [List.length_take, List.length_drop] at h1 h2
  simp only [List.length_cons, Nat.add_mul, Nat.one_mul]
  omega
def ZOK (o : Nat → Option Ob) (z : List (Nat × D)) : Prop := ∀ p ∈ z, ∃ T es, o p.1 = some (.arr T es) ∧ p.2 = .seq es
theorem lookD_mem : ∀ {z : List (Nat × D)} {i : Nat} {d : D}, lookD z i = some d → (i, d) ∈ z
 | [], i, d, h => by simp [lookD] at h
 | (k, x) :: r, i, d, h => by
  simp only [lookD] at h
  cases hb : Nat.beq k i with
  | true => rw [hb] at h; simp at h; rw [Nat.eq_of_beq_eq_true hb, h]; simp
  | false => rw [hb] at h; exact List.mem_cons_of_mem _ (lookD_mem (by simpa using h))
theorem mem_lookD : ∀ {z : List (Nat × D)} {i : Nat} {d : D}, (i, d) ∈ z → ∃ d', lookD z i = some d'
 | [], i, d, h => by simp at h
 | (k, x) :: r, i, d, h => by
  simp only [lookD]
  cases hb : Nat.beq k i with
  | true => exact ⟨x, by simp⟩
  | false =>
   rcases List.mem_cons.1 h with h | h
   ·simp only [Prod.mk.injEq] at h; rw [h.1, beq_self] at hb; cases hb
   ·simpa using mem_lookD h
theorem ZOK.frz {z : List (Nat × D)} (hz : ZOK o z) : FrzOK o z := fun i d hd => hz _ (lookD_mem hd)
theorem handA_zok {cv : Bool} (x : A) : ZOK o (handA cv o x).2 := by
 intro p hp
 unfold handA at hp
 split at hp
 ·split at hp
  ·rename_i i T es ho
   simp only [List.mem_singleton] at hp
   subst hp
   exact ⟨T, es, ho, rfl⟩
  ·simp at hp
 ·split at hp
  ·rename_i i hi T es ho
   simp only [List.mem_singleton] at hp
   subst hp
   exact ⟨T, es, ho, rfl⟩
  ·simp at hp
 ·cases cv <;> simp at hp
 ·simp at hp
theorem handL_zok {cv : Bool} : ∀ (l : List A), ZOK o (handL cv o l).2
 | [] => by intro p hp; simp [handL] at hp
 | x :: l => by
  intro p hp
  have ih := handL_zok (cv := cv) l
  unfold handL at hp
  split at hp
  ·simp at hp
  ·rename_i cs r he
   simp only [List.cons.injEq] at he
   obtain ⟨rfl, rfl⟩ := he
   rcases List.mem_append.1 hp with hp | hp
   ·obtain ⟨y, hy, hp⟩ := List.mem_flatMap.1 hp
    exact handA_zok y p hp
   ·exact ih p hp
  ·rename_i cs r he
   simp only [List.cons.injEq] at he
   obtain ⟨rfl, rfl⟩ := he
   exact ih p hp
  ·rename_i y r _ _ he
   simp only [List.cons.injEq] at he
   obtain ⟨rfl, rfl⟩ := he
   rcases List.mem_append.1 hp with hp | hp
   ·exact handA_zok _ p hp
   ·exact ih p hp
theorem handA_rep {cv : Bool} {z : List (Nat × D)} (hz : ZOK o z) (hob : ∀ i ob, o i = some ob → ObOK tb G I h i ob) {x : A} {v : Value} (hsub : ∀ p ∈ (handA cv o x).2, p ∈ z) (r : RepA G I h x v) : RepA G (frzI G I z) h (handA cv o x).1 v := by
 unfold handA at hsub ⊢
 split
 ·rename_i i
  split
  ·rename_i T es ho
   simp only [ho] at hsub
   obtain ⟨d, hd⟩ := mem_lookD (hsub (i, .seq es) (by simp))
   have := frz_seq hz.frz hob hd r
   obtain ⟨T', es', ho', rfl⟩ := hz.frz i d hd
   rw [ho] at ho'; cases ho'
   rw [RepA]; exact this
  ·exact RepA.mono (fun _ _ h => h) (fun _ h => .inl h) (fun _ _ => rfl) _ _ r
 ·rename_i i hi
  split
  ·rename_i T es ho
   simp only [ho] at hsub
   obtain ⟨d, hd⟩ := mem_lookD (hsub (i, .seq es) (by simp))
   rw [RepA] at r
   obtain ⟨gr, a, len, cap, hg, hv, hl, rfl⟩ := r
   have := frz_seq hz.frz hob hd (u := gr.val) (by rw [RepA]; exact ⟨⟨gr, hg, rfl⟩, by rw [hv]; rfl⟩)
   obtain ⟨T', es', ho', rfl⟩ := hz.frz i d hd
   rw [ho] at ho'; cases ho'
   rw [hv, RepD] at this
   obtain ⟨a', len', cap', e, q1, q2, q3⟩ := this
   cases e
   rw [RepA, RepD]
   refine ⟨a, hi, cap, rfl, by simp; omega, by omega, ?_⟩
   rcases Nat.eq_zero_or_pos hi with e0 | e0
   ·exact .inl e0
   ·right
    rcases q3 with q3 | ⟨sz, b, off, c, T', fr, r1, r2, r3, r4⟩
    ·omega
    ·exact ⟨sz, b, off, c, T', fr, r1, r2, r3, RepR.takes r4 hi⟩
  ·exact RepA.mono (fun _ _ h => h) (fun _ h => .inl h) (fun _ _ => rfl) _ _ r
 ·rw [RepA, RepD] at r
  cases cv with
  | true =>
   simp only
   rw [RepA, RepD]
   exact ⟨none, 0, 0, r, rfl, Nat.le_refl _, .inl rfl⟩
  | false =>
   simp only
   rw [RepA, RepD]
   exact r
 ·exact RepA.mono (fun _ _ h => h) (fun _ h => .inl h) (fun _ _ => rfl) _ _ r
theorem handAL_rep {cv : Bool} {z : List (Nat × D)} (hz : ZOK o z) (hob : ∀ i ob, o i = some ob → ObOK tb G I h i ob) : ∀ {l : List A} {vs : List Value}, (∀ x ∈ l, ∀ p ∈ (handA cv o x).2, p ∈ z) → RepAL G I h l vs →
  RepAL G (frzI G I z) h (l.map fun x => (handA cv o x).1) vs
 | [], vs, _, r => by rw [RepAL] at r; subst r; exact RepAL.nil
 | x :: l, vs, hs, r => by
  obtain ⟨v, q, rfl, r1, r2⟩ := r.uncons
  exact RepAL.cons (handA_rep hz hob (hs x (by simp)) r1) (handAL_rep hz hob (fun y hy => hs y (by simp [hy])) r2)
theorem handL_rep {cv : Bool} {z : List (Nat × D)} (hz : ZOK o z) (hob : ∀ i ob, o i = some ob → ObOK tb G I h i ob) : ∀ {l : List A} {vs : List Value}, (∀ p ∈ (handL cv o l).2, p ∈ z) → RepAL G I h l vs →
  RepAL G (frzI G I z) h (handL cv o l).1 vs
 | [], vs, _, r => by rw [RepAL] at r; subst r; exact RepAL.nil
 | x :: l, vs, hs, r => by
  obtain ⟨v, q, rfl, r1, r2⟩ := r.uncons
  unfold handL at hs ⊢
  split
  ·rename_i he; simp at he
  ·rename_i cs r' he
   simp only [List.cons.injEq] at he
   obtain ⟨rfl, rfl⟩ := he
   simp only at hs
   rw [RepA] at r1
   obtain ⟨us, rfl, r1⟩ := r1
   refine RepAL.cons ?_ (handL_rep hz hob (fun p hp => hs p (List.mem_append_right _ hp)) r2)
   have := RepA.aggA (handAL_rep hz hob (fun x hx p hp => hs p (List.mem_append_left _ (List.mem_flatMap.2 ⟨x, hx, hp⟩))) r1)
   simpa using this
  ·rename_i cs r' he
   simp only [List.cons.injEq] at he
   obtain ⟨rfl, rfl⟩ := he
   exact RepAL.cons (RepA.mono (fun _ _ h => h) (fun _ h => .inl h) (fun _ _ => rfl) _ _ r1) (handL_rep hz hob hs r2)
  ·rename_i y r' _ _ he
   simp only [List.cons.injEq] at he
   obtain ⟨rfl, rfl⟩ := he
   simp only at hs
   exact RepAL.cons (handA_rep hz hob (fun p hp => hs p (List.mem_append_left _ hp)) r1) (handL_rep hz hob (fun p hp => hs p (List.mem_append_right _ hp)) r2)
mutual
theorem frzA_nil : ∀ (x : A), frzA [] x = x
 | .d x => by rw [frzA]
 | .ref i off => by rw [frzA]
 | .own i => by rw [frzA]; rfl
 | .eref i k sz off => by rw [frzA]; rfl
 | .pre i hi => by rw [frzA]; rfl
 | .sub i ysz off sz n => by rw [frzA]; rfl
 | .fn f a b => by rw [frzA, frzAL_nil, frzAL_nil]
 | .agg cs => by rw [frzA, frzAL_nil]
 | .tup cs => by rw [frzA, frzAL_nil]
 | .lst cs => by rw [frzA, frzAL_nil]
 | .lptr x => by rw [frzA, frzA_nil]
 | .unk => by rw [frzA]
theorem frzAL_nil : ∀ (x : List A), frzAL [] x = x
 | [] => by rw [frzAL]
 | x :: l => by rw [frzAL, frzA_nil, frzAL_nil]
end
theorem frzO_nil (x : Ob) : frzO [] x = x := by cases x <;> simp [frzO, frzAL_nil]
end
section
variable {tb : TB} {X : Ctx} {P : Program} {Wn : Nat} {Y : Nat → List D → Bool → Prop} {F : Fence} {n : Nat} {g : Nat → A} {o : Nat → Option Ob} {a : Act} {w : World} {G : Nat → Option GR} {I : Nat → Prop} {oper : Oper} {K : Eff → Prop} {nid : Nat}
variable (hP : PG P tb) (hF : Wide F) (m : Mod tb X g o a w G I) (hdst : ∀ d, oper.dst = some d → d < X.nt)
theorem lookO_dead : ∀ (z : List (Nat × D)) (i : Nat), lookO (z.map fun p => (p.1, Ob.dead)) i = (lookD z i).map fun _ => .dead
 | [], i => rfl
 | (k, x) :: r, i => by
  simp only [List.map_cons, lookO, lookD, lookO_dead r i]
  cases Nat.beq k i <;> rfl
mutual
theorem clrA_nil : ∀ (x : A), clrA [] x = x
 | .d x => by rw [clrA]
 | .ref i off => by rw [clrA]; rfl
 | .own i => by rw [clrA]; rfl
 | .eref i k sz off => by rw [clrA]; rfl
 | .pre i hi => by rw [clrA]; rfl
 | .sub i ysz off sz n => by rw [clrA]; rfl
 | .fn f a b => by rw [clrA, clrAL_nil, clrAL_nil]
 | .agg cs => by rw [clrA, clrAL_nil]
 | .tup cs => by rw [clrA, clrAL_nil]
 | .lst cs => by rw [clrA, clrAL_nil]
 | .lptr x => by rw [clrA, clrA_nil]
 | .unk => by rw [clrA]
theorem clrAL_nil : ∀ (x : List A), clrAL [] x = x
 | [] => by rw [clrAL]
 | x :: l => by rw [clrAL, clrA_nil, clrAL_nil]
end
theorem clrO_nil (x : Ob) : clrO [] x = x := by cases x <;> simp [clrO, clrAL_nil, memN]
theorem trA_eq (e : Eff) (x : A) : trA e x = clrA e.clr (frzA e.frz x) := by
 unfold trA
 cases h1 : e.frz <;> cases h2 : e.clr <;> simp [frzA_nil, clrA_nil]
theorem trO_eq (e : Eff) (x : Ob) : trO e x = clrO e.clr (frzO e.frz x) := by
 unfold trO
 cases h1 : e.frz <;> cases h2 : e.clr <;> simp [frzO_nil, clrO_nil]
theorem appO_call {slot : Option (Nat × A)} {z : List (Nat × D)} : appO ⟨slot, z.map fun p => (p.1, .dead), z.map (·.1), 0, z, []⟩ o = frzObs o z := by
 funext i
 simp only [appO, lookO_dead, frzObs]
 cases lookD z i with
 | some d => rfl
 | none =>
  simp only [Option.map_none]
  congr 1
  funext x
  rw [trO_eq, clrO_nil]
theorem trA_call {slot : Option (Nat × A)} {z : List (Nat × D)} {obs : List (Nat × Ob)} {rd : List Nat} {k : Nat} : trA ⟨slot, obs, rd, k, z, []⟩ = frzA z := by
 funext x
 rw [trA_eq, clrA_nil]
theorem hideO_some {ρ : List Nat} {i : Nat} {x : Ob} (h : hideO ρ o i = some x) : o i = some x := by
 unfold hideO at h
 cases e : ρ.any (fun j => Nat.beq j i) with
 | true => rw [e] at h; cases h
 | false => rw [e] at h; exact h
theorem arrIds_of {post : List (Nat × Ob)} : ∀ {ρ : List Nat} {pre : List Ob} {k i j : Nat}, ρ[i]? = some j → preBa pre i = true → deadIn post (k + i) = false → j ∈ arrIds post k ρ pre
 | [], pre, k, i, j, h, _, _ => by simp at h
 | q :: r, [], k, i, j, _, h, _ => by simp [preBa] at h
 | q :: r, x :: s, k, i, j, h, hb, hd => by
  cases i with
  | zero =>
   simp at h; subst h
   cases x <;> simp [preBa] at hb
   rw [Nat.add_zero] at hd
   simp [arrIds, hd]
  | succ i =>
   have := arrIds_of (post := post) (ρ := r) (pre := s) (k := k + 1) (i := i) (j := j) (by simpa using h) (by simpa [preBa] using hb) (by rw [← hd]; congr 1; omega)
   cases x <;> simp only [arrIds] <;> first | exact this | (cases deadIn post k <;> simp [this])
theorem of_arrIds {post : List (Nat × Ob)} : ∀ {ρ : List Nat} {pre : List Ob} {k j : Nat}, j ∈ arrIds post k ρ pre → ∃ (i : Nat) (T : TypeId) (es : List (List D)), ρ[i]? = some j ∧ pre[i]? = some (.arr T es)
 | [], pre, k, j, h => by cases pre <;> simp [arrIds] at h
 | q :: r, [], k, j, h => by simp [arrIds] at h
 | q :: r, x :: s, k, j, h => by
  have go : j ∈ arrIds post (k + 1) r s → ∃ (i : Nat) (T : TypeId) (es : List (List D)), (q :: r)[i]? = some j ∧ (x :: s)[i]? = some (.arr T es) := fun h => by
   obtain ⟨i, T, es, h1, h2⟩ := of_arrIds h
   exact ⟨i + 1, T, es, by simpa using h1, by simpa using h2⟩
  cases x with
  | arr T es =>
   simp only [arrIds] at h
   cases hd : deadIn post k with
   | true => rw [hd] at h; exact go h
   | false =>
    rw [hd, cond_false, List.mem_cons] at h
    rcases h with rfl | h
    ·exact ⟨0, T, es, rfl, rfl⟩
    ·exact go h
  | _ => exact go h
theorem RepL.of_flat {I I' : Nat → Prop} {h : Array Obj} : ∀ {ds : List D} {vs : List Value}, (∀ d ∈ ds, flatD d = true) → RepL I h ds vs → RepL I' h ds vs
 | [], _, _, r => by rw [RepL] at r ⊢; exact r
 | d :: ds, _, hf, r => by
  rw [RepL] at r ⊢
  obtain ⟨v, q, h1, h2, h3⟩ := r
  refine ⟨v, q, h1, ?_, RepL.of_flat (fun x hx => hf x (List.mem_cons_of_mem _ hx)) h3⟩
  have := hf d (List.mem_cons_self ..)
  cases d with
  | v x => rw [RepD] at h2 ⊢; exact h2
  | _ => simp [flatD] at this
theorem RepR.of_flat {I I' : Nat → Prop} {h : Array Obj} {sz : Nat} : ∀ {es : List (List D)} {vs : List Value}, (∀ el ∈ es, ∀ d ∈ el, flatD d = true) → RepR I h sz es vs → RepR I' h sz es vs
 | [], _, _, _ => by rw [RepR]; trivial
 | e :: es, _, hf, r => by
  rw [RepR] at r ⊢
  obtain ⟨h1, h2, h3, h4⟩ := r
  exact ⟨h1, RepL.of_flat (hf e (List.mem_cons_self ..)) h2, h3, RepR.of_flat (fun x hx => hf x (List.mem_cons_of_mem _ hx)) h4⟩
theorem cover_spec {n : Nat} {post : List (Nat × Ob)} (h : coverB n post = true) {i : Nat} (hi : i < n) : (lookO post i).isSome = true := by
 have h1 := List.all_eq_true.1 h i (List.mem_range.2 hi)
 clear h
 rw [memK_eq] at h1
 induction post with
 | nil => simp at h1
 | cons p post ih =>
  obtain ⟨k, x⟩ := p
  rw [lookO]
  cases e : Nat.beq k i with
  | true => rfl
  | false => rw [List.any_cons, e, Bool.false_or] at h1; exact ih h1
omit hP hF m hdst in
theorem RepD.of_flatR {I I' : Nat → Prop} {h : Array Obj} : ∀ {d : D} {v : Value}, flatR d = true → RepD I h d v → RepD I' h d v := by
 have hl : ∀ {l : List D} {vs : List Value}, (∀ d ∈ l, ∀ v, RepD I h d v → RepD I' h d v) → RepL I h l vs → RepL I' h l vs := by
  intro l
  induction l with
  | nil => intro vs _ r; rw [RepL] at r ⊢; exact r
  | cons d l ih =>
   intro vs hh r
   rw [RepL] at r ⊢
   obtain ⟨v, q, e, r1, r2⟩ := r
   exact ⟨v, q, e, hh d (by simp) v r1, ih (fun d hd => hh d (by simp [hd])) r2⟩
 have h0 : ∀ {d : D} {v : Value}, flatD d = true → RepD I h d v → RepD I' h d v := by
  intro d v hf r
  cases d with
  | v x => rw [RepD] at r ⊢; exact r
  | _ => simp [flatD] at hf
 have h1 : ∀ {xs : List D} {v : Value}, xs.all flatD = true → RepD I h (.agg xs) v → RepD I' h (.agg xs) v := by
  intro xs v hf r
  rw [RepD] at r ⊢
  obtain ⟨x, e, r⟩ := r
  exact ⟨x, e, hl (fun d hd v r => h0 (List.all_eq_true.1 hf d hd) r) r⟩
 intro d v hf r
 cases d with
 | v x => rw [RepD] at r ⊢; exact r
 | agg xs => exact h1 hf r
 | tup xs =>
  rw [RepD] at r ⊢
  obtain ⟨x, e, r⟩ := r
  refine ⟨x, e, hl (fun d hd v r => ?_) r⟩
  have := List.all_eq_true.1 hf d hd
  cases d with
  | v x => rw [RepD] at r ⊢; exact r
  | agg zs => exact h1 this r
  | _ => simp at this
 | _ => simp [flatR] at hf
omit hP hF m hdst in
theorem lend_rep {I : Nat → Prop} {h : Array Obj} (hI : ∀ b, I b → b < h.size) (hob : ∀ i ob, o i = some ob → ObOK tb G I h i ob) : ∀ {x : A} {y : D} {u : Value}, lendA tb o x y → RepA G I h x u → RepD (fun b => b < h.size) h y u := by
 intro x y u hl r
 have lt : ∀ {b : Nat} {z : Obj}, h[b]? = some z → b < h.size := fun e => (Array.getElem?_eq_some_iff.1 e).1
 cases x with
 | d x =>
  have hl : y = x := hl
  subst hl
  rw [RepA] at r
  exact RepD.mono hI (fun _ _ => rfl) _ _ r
 | own i =>
  simp only [lendA] at hl
  split at hl
  ·rename_i T es ho
   subst hl
   obtain ⟨yT, hy, hb⟩ := hob i _ ho
   rw [RepA] at r
   obtain ⟨⟨gr, hg, rfl⟩, _⟩ := r
   rw [RepD]
   rcases hb with ⟨rfl, h2⟩ | ⟨b, z0, cap, c, h2, h3, h4, h5, h6, h7⟩
   ·rw [hg] at h2; cases h2; exact ⟨none, 0, 0, rfl, rfl, Nat.le_refl _, .inl rfl⟩
   ·rw [hg] at h2; cases h2
    exact ⟨_, _, cap, rfl, rfl, h4, .inr ⟨yT.size, b, z0, c, T, (0, 0), rfl, lt h3, h3, RepR.mono hI (fun _ _ => rfl) _ _ _ h7⟩⟩
  ·exact hl.elim
 | pre i hi =>
  simp only [lendA] at hl
  split at hl
  ·rename_i T es ho
   subst hl
   obtain ⟨yT, hy, hb⟩ := hob i _ ho
   rw [RepA] at r
   obtain ⟨gr, ad, len, cap, hg, hv, hle, rfl⟩ := r
   rw [RepD]
   rcases hb with ⟨rfl, h2⟩ | ⟨b, z0, cap0, c, h2, h3, h4, h5, h6, h7⟩
   ·rw [hg] at h2; cases h2; cases hv
    have : hi = 0 := by omega
    subst this
    exact ⟨none, 0, 0, rfl, rfl, Nat.le_refl _, .inl rfl⟩
   ·rw [hg] at h2; cases h2; cases hv
    exact ⟨_, _, cap, rfl, by rw [List.length_take]; omega, by omega, .inr ⟨yT.size, b, z0, c, T, (0, 0), rfl, lt h3, h3, RepR.mono hI (fun _ _ => rfl) _ _ _ (RepR.takes h7 hi)⟩⟩
  ·exact hl.elim
 | sub i ysz off sz n =>
  simp only [lendA] at hl
  split at hl
  ·rename_i T es ho
   split at hl
   ·rename_i t ht
    obtain ⟨hsz, rows, rfl, hfl, hrl, hel⟩ := hl
    obtain ⟨yT, hy, hb⟩ := hob i _ ho
    rw [ht] at hy; cases hy
    rw [RepA] at r
    obtain ⟨ad, cp, rfl, hcp, r⟩ := r
    rw [RepD]
    refine ⟨ad, n, cp, rfl, hrl, hcp, r.imp id ?_⟩
    rintro (⟨b, z, len, cap, hg, rfl, hbd⟩ | ⟨b, _, hg, _⟩)
    rotate_left
    ·rcases hb with ⟨rfl, h2⟩ | ⟨b', z', cap', c, h2, h3, h4, h5, h6, h7⟩ <;> rw [hg] at h2 <;> cases h2
    rcases hb with ⟨rfl, h2⟩ | ⟨b', z', cap', c, h2, h3, h4, h5, h6, h7⟩
    ·rw [hg] at h2; cases h2
    ·rw [hg] at h2; cases h2
     have hl0 := RepR.len h7
     obtain ⟨f1, f2⟩ := RepR.flat h7 hl0
     have f3 := (f1.drop off).take (n * sz)
     rw [hfl, List.drop_take, List.drop_drop, List.take_take, Nat.min_eq_left (by rw [hsz]; omega)] at f3
     have f4 : ∀ v ∈ (c.toList.drop (z + off)).take (n * sz), v.oneCell' = true := fun v hv => by
      refine f2 v ?_
      have : (c.toList.drop (z + off)).take (n * sz) = (((c.toList.drop z).take (es.length * t.size)).drop off).take (n * sz) := by
       rw [List.drop_take, List.drop_drop, List.take_take, Nat.min_eq_left (by rw [hsz]; omega)]
      rw [this] at hv
      exact List.mem_of_mem_drop (List.mem_of_mem_take hv)
     have f5 := RepR.mk (ws := (c.toList.drop (z + off)).drop (n * sz)) hel f3 f4
     rw [List.take_append_drop] at f5
     exact ⟨sz, b, z + off, c, T, (0, 0), rfl, lt h3, h3, RepR.mono hI (fun _ _ => rfl) _ _ _ f5⟩
   ·exact hl.elim
  ·exact hl.elim
 | _ => exact (show False from hl).elim
omit hP hF m hdst in
theorem lendL_rep {I : Nat → Prop} {h : Array Obj} (hI : ∀ b, I b → b < h.size) (hob : ∀ i ob, o i = some ob → ObOK tb G I h i ob) : ∀ {xs : List A} {ys : List D} {us : List Value}, lendL tb o xs ys → RepAL G I h xs us → RepL (fun b => b < h.size) h ys us
 | [], ys, us, hl, r => by
  have hl : ys = [] := hl
  subst hl
  rw [RepAL] at r; subst r; exact RepL.nil
 | x :: xs, ys, us, hl, r => by
  obtain ⟨d, q, rfl, h1, h2⟩ := hl
  rw [RepAL] at r
  obtain ⟨v, s, rfl, r1, r2⟩ := r
  rw [RepL]
  exact ⟨v, s, rfl, lend_rep hI hob h1 r1, lendL_rep hI hob h2 r2⟩
omit hP hF m hdst in
theorem lendC_rep {I : Nat → Prop} {h : Array Obj} (hI : ∀ b, I b → b < h.size) (hob : ∀ i ob, o i = some ob → ObOK tb G I h i ob) : ∀ {xs : List A} {ys : List D} {us : List Value}, lendC o xs ys → RepAL G I h xs us → RepL (fun b => b < h.size) h ys us
 | [], ys, us, hl, r => by
  have hl : ys = [] := hl
  subst hl
  rw [RepAL] at r; subst r; exact RepL.nil
 | x :: xs, ys, us, hl, r => by
  rw [RepAL] at r
  obtain ⟨v, s, rfl, r1, r2⟩ := r
  cases x with
  | d x =>
   obtain ⟨q, rfl, hl⟩ := hl
   exact RepL.cons (lend_rep (tb := tb) hI hob (x := .d x) (y := x) rfl r1) (lendC_rep hI hob hl r2)
  | own j =>
   simp only [lendC] at hl
   split at hl
   ·rename_i T es ho
    obtain ⟨q, rfl, hl⟩ := hl
    exact RepL.cons (lend_rep (tb := tb) hI hob (x := .own j) (y := .seq es) (by simp only [lendA]; rw [ho]) r1) (lendC_rep hI hob hl r2)
   ·exact hl.elim
  | _ => exact (show False from hl).elim
omit hP hF m hdst in
theorem lendV_rep {I : Nat → Prop} {h : Array Obj} (hI : ∀ b, I b → b < h.size) (hob : ∀ i ob, o i = some ob → ObOK tb G I h i ob) : ∀ {xs : List A} {ys : List D} {us : List Value}, lendV o xs ys → RepAL G I h xs us → RepL (fun b => b < h.size) h ys us
 | [], ys, us, hl, r => by
  have hl : ys = [] := hl
  subst hl
  rw [RepAL] at r; subst r; exact RepL.nil
 | x :: xs, ys, us, hl, r => by
  rw [RepAL] at r
  obtain ⟨v, s, rfl, r1, r2⟩ := r
  cases x with
  | d x =>
   obtain ⟨q, rfl, hl⟩ := hl
   exact RepL.cons (lend_rep (tb := tb) hI hob (x := .d x) (y := x) rfl r1) (lendV_rep hI hob hl r2)
  | ref i off =>
   cases off with
   | succ off => exact (show False from hl).elim
   | zero =>
    simp only [lendV] at hl
    split at hl
    ·rename_i bk T cs ho
     obtain ⟨c', q, rfl, hc, hl⟩ := hl
     refine RepL.cons ?_ (lendV_rep hI hob hl r2)
     obtain ⟨b, c, g1, g2, g3, g4⟩ := hob i _ ho
     rw [RepA] at r1
     obtain ⟨b', k1, k2⟩ := r1
     rw [g1] at k1; cases k1
     have r3 := lendC_rep hI hob hc g3
     rw [RepD]
     refine ⟨b, 0, c, T, (0, 0), k2, (Array.getElem?_eq_some_iff.1 g2).1, g2, ?_⟩
     rw [List.drop_zero, List.take_of_length_le (Nat.le_of_eq (RepL.length r3))]
     exact r3
    ·exact hl.elim
  | _ => exact (show False from hl).elim
omit hP hF m hdst in
theorem effPure_cases {w : Nat} {dst : Option Tmp} {frz : List (Nat × D)} {r : D} {K : Eff → Prop} : effPure w dst frz r K →
  (frz = [] ∧ (match dst with
   | some d => fA (.d r) fun x => K ⟨some (d, x), [], [], 0, [], []⟩
   | none => K ⟨none, [], [], 0, [], []⟩)) ∨
  (flatR r = true ∧ (match dst with
   | some d => fA (.d r) fun x => K ⟨some (d, x), [], frz.map (·.1), 0, [], []⟩
   | none => K ⟨none, [], frz.map (·.1), 0, [], []⟩)) ∨
  (match dst with
   | some d => fA (.d r) fun x => K ⟨some (d, x), frz.map fun p => (p.1, .dead), frz.map (·.1), 0, bif Nat.beq w 8 then [] else frz, []⟩
   | none => K ⟨none, frz.map fun p => (p.1, .dead), frz.map (·.1), 0, bif Nat.beq w 8 then [] else frz, []⟩) := by
 intro h
 unfold effPure at h
 split at h
 ·exact .inl ⟨rfl, h⟩
 ·rcases h with h | h
  ·exact .inr (.inl h)
  ·exact .inr (.inr h)
include hP hF m hdst
omit hP hF m hdst in
theorem sameO_mem {ρ : List Nat} {j : Nat} {x : Ob} (hj : j ∈ ρ) (hx : o j = some x) : (j, x) ∈ sameO o ρ := by
 induction ρ with
 | nil => cases hj
 | cons q r ih =>
  rw [sameO]
  rcases List.mem_cons.1 hj with rfl | hj
  ·rw [hx]; exact List.mem_cons_self
  ·cases o q with
   | none => exact ih hj
   | some y => exact List.mem_cons_of_mem _ (ih hj)
omit hP hF m hdst in
theorem lookO_dropO {i j : Nat} (h : Nat.beq i j = false) : ∀ l : List (Nat × Ob), lookO (dropO i l) j = lookO l j
 | [] => rfl
 | (k, x) :: r => by
  rw [dropO]
  cases hk : Nat.beq k i with
  | true =>
   have := Nat.eq_of_beq_eq_true hk
   subst this
   rw [cond_true, lookO_dropO h r]
   show _ = (bif Nat.beq k j then some x else lookO r j)
   rw [h]; rfl
  | false =>
   rw [cond_false]
   show (bif Nat.beq k j then some x else lookO (dropO i r) j) = (bif Nat.beq k j then some x else lookO r j)
   rw [lookO_dropO h r]
omit hP hF m hdst in
theorem rows_raw {I : Nat → Prop} {h : Array Obj} {sz : Nat} : ∀ (ds : List D) (vs : List Value), RepR I h sz (ds.map fun d => [d]) vs → ∃ us, RepL I h ds us ∧ RepR I h sz (rawE us) vs
 | [], vs, _ => ⟨[], by rw [RepL], by simp [rawE, RepR]⟩
 | d :: ds, vs, r => by
  rw [List.map_cons, RepR] at r
  obtain ⟨p1, p2, p3, p4⟩ := r
  obtain ⟨us, q1, q2⟩ := rows_raw ds _ p4
  rw [RepL] at p2
  obtain ⟨v, q, h1, h2, h3⟩ := p2
  rw [RepL] at h3
  subst h3
  refine ⟨v :: us, RepL.cons h2 q1, ?_⟩
  show RepR I h sz ([D.v v] :: rawE us) vs
  rw [RepR]
  refine ⟨p1, ?_, p3, q2⟩
  rw [h1]
  exact RepL.cons (by rw [RepD]) (by rw [RepL])
omit hP hF m hdst in
theorem raw_rows {I : Nat → Prop} {h : Array Obj} {sz : Nat} : ∀ (us : List Value) (ds : List D) (vs : List Value), RepL I h ds us → RepR I h sz (rawE us) vs → RepR I h sz (ds.map fun d => [d]) vs
 | [], ds, vs, r, _ => by
  cases ds with
  | nil => simp [RepR]
  | cons d ds => rw [RepL] at r; obtain ⟨v, q, h, _⟩ := r; cases h
 | u :: us, ds, vs, r, rr => by
  cases ds with
  | nil => rw [RepL] at r; cases r
  | cons d ds =>
   rw [RepL] at r
   obtain ⟨v, q, h, ra, rb⟩ := r
   cases h
   have rr : RepR I _ sz ([D.v u] :: rawE us) vs := rr
   rw [RepR] at rr
   obtain ⟨p1, p2, p3, p4⟩ := rr
   rw [RepL] at p2
   obtain ⟨v', q', h1, h2, h3⟩ := p2
   rw [RepD] at h2
   rw [RepL] at h3
   subst h2 h3
   rw [List.map_cons, RepR]
   exact ⟨p1, by rw [h1]; exact RepL.cons ra (by rw [RepL]), p3, raw_rows us ds _ rb p4⟩
omit hP hF m hdst in
theorem Mod.resayO {tb : TB} {X : Ctx} {g : Nat → A} {o : Nat → Option Ob} {a : Act} {w : World} {G : Nat → Option GR} {I : Nat → Prop} (m : Mod tb X g o a w G I) {i : Nat} {x y : Ob} (hi : o i = some x) (hx : x.live = true) (hy : ObOK tb G I w.heap i y) (he : ∀ k, y ≠ .env k) (hb : ∀ T es, y = .arr T es → i < X.nb → X.ba i = true) :
  Mod tb X g (updO o i y) a w G I := by
 have hlv : ∀ j z, updO o i y j = some z → z.live = true → ∃ z', o j = some z' ∧ z'.live = true := by
  intro j z hz hl
  by_cases e : i = j
  ·subst e; exact ⟨_, hi, hx⟩
  ·rw [updO_ne e] at hz; exact ⟨z, hz, hl⟩
 exact { m with
  objs := fun j z hz => by
   by_cases e : i = j
   ·subst e; rw [updO_self] at hz; cases hz; exact hy
   ·rw [updO_ne e] at hz; exact m.objs j z hz
  dom := fun j gr hg => by
   by_cases e : i = j
   ·subst e; rw [updO_self]; rfl
   ·rw [updO_ne e]; exact m.dom j gr hg
  sep := fun j k oj ok gj gk b h1 h2 h3 h4 => by
   obtain ⟨y1, q1, q2⟩ := hlv j oj h1 h3
   obtain ⟨y2, p1, p2⟩ := hlv k ok h2 h4
   exact m.sep j k y1 y2 gj gk b q1 p1 q2 p2
  own := fun j oj gj b h1 h2 => by
   obtain ⟨y1, q1, q2⟩ := hlv j oj h1 h2
   exact m.own j y1 gj b q1 q2
  barr := fun j T' es hj hba hz => by
   by_cases e : i = j
   ·subst e; rw [updO_self] at hz; cases hz
    rw [hb T' es rfl hj] at hba; cases hba
   ·rw [updO_ne e] at hz; exact m.barr j T' es hj hba hz
  env := by
   obtain ⟨k, Ft, f1, f2, f3, f4⟩ := m.env
   refine ⟨k, Ft, f1, f2, fun j oj gj b h1 h2 => ?_, fun j k' hz => ?_⟩
   ·obtain ⟨y1, q1, q2⟩ := hlv j oj h1 h2
    exact f3 j y1 gj b q1 q2
   ·by_cases e : i = j
    ·subst e; rw [updO_self] at hz; cases hz; exact absurd rfl (he k')
    ·rw [updO_ne e] at hz; exact f4 j k' hz }
omit hP hF m hdst in
theorem Mod.toArw {tb : TB} {X : Ctx} {g : Nat → A} {o : Nat → Option Ob} {a : Act} {w : World} {G : Nat → Option GR} {I : Nat → Prop} (m : Mod tb X g o a w G I) {i : Nat} {T : TypeId} {ds : List D} (hi : o i = some (.arr T (ds.map fun d => [d]))) : Mod tb X g (updO o i (.arw T (ds.map A.d))) a w G I := by
 refine m.resayO hi rfl ?_ (fun k h => by cases h) (fun T' es h => by cases h)
 obtain ⟨y, hy, hob⟩ := m.objs i _ hi
 rcases hob with ⟨h1, h2⟩ | ⟨b, z, cap, c, q1, q2, q3, q4, q5, q6⟩
 ·have hd : ds = [] := by cases ds with
   | nil => rfl
   | cons d ds => cases h1
  subst hd
  exact ⟨[], RepAL.of_d.2 (by rw [RepL]), y, hy, .inl ⟨rfl, h2⟩⟩
 ·obtain ⟨us, r1, r2⟩ := rows_raw ds _ q6
  have hl : (rawE us).length = (ds.map fun d => [d]).length := by unfold rawE; simp [RepL.length r1]
  exact ⟨us, RepAL.of_d.2 r1, y, hy, .inr ⟨b, z, cap, c, by rw [hl]; exact q1, q2, by rw [hl]; exact q3, q4, q5, r2⟩⟩
omit hP hF m hdst in
theorem Mod.toArrB {tb : TB} {X : Ctx} {g : Nat → A} {o : Nat → Option Ob} {a : Act} {w : World} {G : Nat → Option GR} {I : Nat → Prop} (m : Mod tb X g o a w G I) {i : Nat} {T : TypeId} {ds : List D} (hi : o i = some (.arw T (ds.map A.d))) (hn : i < X.nb → X.ba i = true) : Mod tb X g (updO o i (.arr T (ds.map fun d => [d]))) a w G I := by
 refine m.resayO hi rfl ?_ (fun k h => by cases h) (fun T' es h => hn)
 obtain ⟨us, r1, y, hy, hob⟩ := m.objs i _ hi
 have r1 := RepAL.of_d.1 r1
 have hl : (ds.map fun d => [d]).length = (rawE us).length := by unfold rawE; simp [RepL.length r1]
 refine ⟨y, hy, ?_⟩
 rcases hob with ⟨h1, h2⟩ | ⟨b, z, cap, c, q1, q2, q3, q4, q5, q6⟩
 ·refine .inl ⟨List.eq_nil_of_length_eq_zero (by rw [hl, h1]; rfl), h2⟩
 ·exact .inr ⟨b, z, cap, c, by rw [hl]; exact q1, q2, by rw [hl]; exact q3, q4, q5, raw_rows us ds _ r1 q6⟩
set_option maxHeartbeats 2000000 in
theorem snd_call (hE : EnvOK P X.E Y) {c : Call} {f : Operand} (hop : oper.op = .call c) (hc : c.callee = .value f) (hsome : (getFn (opA g f)).isSome = true) (hnb : X.nb ≤ nid) (hw : ∀ k, k < Wn → o (nid + k) = none) (h : effOp tb (Con P tb Wn Y) (.call c) oper.dst g o nid K) : (∃ e, K e ∧ Does tb X P F n g o a w oper e) ∨ (True ∧ ∃ e, K e ∧ Pans tb X P F n g o a w oper e) := by
 have hd : ∀ c, oper.op ≠ .defer c := by simp [hop]
 simp only [effOp, hc] at h
 split at h
 ·rename_i fid first caps hfn
  have hval : ∃ x y, a.eval f = .func (.func fid) x y ∧ RepAL G I w.heap first x.toList ∧ RepAL G I w.heap caps y.toList := by
   have rf := m.eval f
   unfold getFn at hfn
   split at hfn
   ·rename_i f' p q hx
    simp only [Option.some.injEq, Prod.mk.injEq] at hfn
    obtain ⟨rfl, rfl, rfl⟩ := hfn
    rw [hx, RepA, RepD] at rf
    obtain ⟨x, y, h1, h2, h3⟩ := rf
    exact ⟨x, y, h1, RepAL.of_d.2 h2, RepAL.of_d.2 h3⟩
   ·rename_i f' p q hx
    simp only [Option.some.injEq, Prod.mk.injEq] at hfn
    obtain ⟨rfl, rfl, rfl⟩ := hfn
    rw [hx, RepA] at rf
    obtain ⟨x, y, h1, h2, h3⟩ := rf
    exact ⟨x, y, h1, h2, h3⟩
   ·cases hfn
  obtain ⟨x, y, hx, h1, h2⟩ := hval
  have hargs : RepAL G I w.heap (c.args.toList.map (opA g)) (c.args.toList.map a.eval) := by
   generalize c.args.toList = l
   induction l with
   | nil => exact RepAL.nil
   | cons z l ih => exact RepAL.cons (m.eval z) ih
  have hall := RepAL.append (RepAL.append h1 hargs) h2
  have hrun : ∀ (hok : FnOK P fid), (execOp a.eval oper).run P w = .ok (.enter fid (x.toList ++ c.args.toList.map a.eval ++ y.toList).toArray) w := by
   rintro ⟨fn, hfn1, hfn2, hfn3⟩
   have e1 : (x.toList ++ c.args.toList.map a.eval ++ y.toList).toArray = x ++ (c.args.map a.eval ++ y) := by
    apply Array.ext'; simp
   have q1 : fn.name ≠ "runtime.NumGoroutine" := by simpa using hfn2
   have q2 : fn.body ≠ none := fun e => by rw [e] at hfn3; cases hfn3
   rw [e1]
   simp [execOp, hop, resolve, hc, hx, Deferred.ofValue, invoke, callFunc, hfn1, q1, q2]
  have borCase : ∀ (o : Nat → Option Ob) (K : Eff → Prop), Mod tb X g o a w G I → (∀ k, k < Wn → o (nid + k) = none) → effArg (Con P tb Wn Y) fid oper.dst o nid (first ++ c.args.toList.map (opA g) ++ caps) K → ∃ e, K e ∧ Does tb X P F n g o a w oper e := by
   rintro o K m hw ⟨ρ, N, r, post, _, rfl, hS, h⟩
   obtain ⟨as, frz, hh⟩ : ∃ as frz, handL false (hideO ρ o) (first ++ c.args.toList.map (opA g) ++ caps) = (as, frz) := ⟨_, _, rfl⟩
   rw [hh] at h hS
   simp only at h hS
   have hz0 : ZOK (hideO ρ o) frz := by have := handL_zok (cv := false) (o := hideO ρ o) (first ++ c.args.toList.map (opA g) ++ caps); rwa [hh] at this
   have hz : ZOK o frz := fun p hp => by
    obtain ⟨T, es, h1, h2⟩ := hz0 p hp
    exact ⟨T, es, hideO_some h1, h2⟩
   have hrep := handL_rep (cv := false) hz0 (fun i ob hi => m.objs i ob (hideO_some hi)) (by rw [hh]; exact fun p hp => hp) hall
   rw [hh] at hrep
   simp only at hrep
   have m1 := m.freeze hz.frz
   obtain ⟨hok, hbor⟩ := hS
   obtain ⟨rd0, hrd0⟩ : ∃ rd0, rd0 = ρ ++ frz.map (·.1) ++ ownIds (first ++ (c.args.toList.map (opA g)) ++ caps) := ⟨_, rfl⟩
   obtain ⟨js, hjs⟩ : ∃ js, js = arrIds post 0 ρ (pres o frz ρ) := ⟨_, rfl⟩
   rw [← hrd0, ← hjs] at h
   cases hbB : borB ρ nid N Wn (pres o frz ρ) post with
   | false =>
    have h : (bif borB ρ nid N Wn (pres o frz ρ) post then (bif frB Wn frz then effFr oper.dst ρ nid rd0 r post K else effBor oper.dst ρ nid N frz rd0 js r (dropRo (pres o frz ρ) post) K) else False) := h
    rw [hbB] at h; exact h.elim
   | true =>
    have h : (bif borB ρ nid N Wn (pres o frz ρ) post then (bif frB Wn frz then effFr oper.dst ρ nid rd0 r post K else effBor oper.dst ρ nid N frz rd0 js r (dropRo (pres o frz ρ) post) K) else False) := h
    rw [hbB, cond_true] at h
    simp only [borB, postB_eq, Nat.zero_le, true_and, Bool.and_eq_true, List.all_eq_true, Nat.blt_eq, Nat.ble_eq, Bool.not_eq_true'] at hbB
    obtain ⟨⟨⟨⟨⟨⟨b0, b1⟩, b2⟩, b3⟩, b4⟩, b5⟩, b6⟩ := hbB
    obtain ⟨oz, hoz⟩ : ∃ oz : Nat → Option Ob, oz = fun j => match lookD frz j with | some _ => some .dead | none => o j := ⟨_, rfl⟩
    have hpres : pres o frz ρ = ρ.map fun j => invO ρ (oz j) := by
     rw [hoz]; unfold pres
     cases frz with
     | nil => rfl
     | cons p q => rfl
    have hlen : (pres o frz ρ).length = ρ.length := by rw [hpres]; simp
    have hozob : ∀ i ob, oz i = some ob → ObOK tb G (frzI G I frz) w.heap i ob := by
     intro i ob hi
     rw [hoz] at hi
     simp only at hi
     split at hi
     ·cases hi; trivial
     ·exact ObOK.mono (fun _ _ h => h) (fun _ h => .inl h) (fun _ _ => rfl) (fun _ _ _ _ _ => rfl) (m.objs i ob hi)
    have hob : ∀ i ob j, (pres o frz ρ)[i]? = some ob → ρ[i]? = some j → ObOK tb (subG ρ G) (frzI G I frz) w.heap i ob ∧ (ob.live = true → ∃ oj, frzObs o frz j = some oj ∧ oj.live = true) := by
     intro i ob j hi hj
     rw [hpres, List.getElem?_map, hj] at hi
     simp only [Option.map_some, Option.some.injEq] at hi
     subst hi
     refine ⟨ObOK.invO hozob hj, fun hlv => ?_⟩
     rw [hoz] at hlv
     simp only at hlv
     unfold frzObs
     cases e : lookD frz j with
     | some d => rw [e] at hlv; simp [invO, Ob.live] at hlv
     | none =>
      rw [e] at hlv
      cases e2 : o j with
      | none => rw [e2] at hlv; simp [invO, Ob.live] at hlv
      | some oj =>
       rw [e2] at hlv
       refine ⟨_, rfl, ?_⟩
       rw [frzO_live]
       cases oj <;> simp_all [invO, Ob.live]
    have mL := m1.lend hlen b1 b5 hob
    have harr : ∀ (i j : Nat) (T : TypeId) (es : List (List D)), (pres o frz ρ)[i]? = some (Ob.arr T es) → ρ[i]? = some j → ∃ T es, frzObs o frz j = some (Ob.arr T es) := by
     intro i j T es hi hj
     rw [hpres, List.getElem?_map, hj] at hi
     simp only [Option.map_some, Option.some.injEq] at hi
     rw [hoz] at hi
     simp only at hi
     unfold frzObs
     cases e : lookD frz j with
     | some d => rw [e] at hi; simp [invO] at hi
     | none =>
      rw [e] at hi
      cases e2 : o j with
      | none => rw [e2] at hi; simp [invO] at hi
      | some oj => rw [e2] at hi; cases oj with | iter q1 q2 q3 => (simp only [invO] at hi; split at hi <;> cases hi) | arr T' es' => exact ⟨_, _, rfl⟩ | _ => simp [invO] at hi
    have hba : ∀ i j, ρ[i]? = some j → baD (pres o frz ρ) post i = true → memN js j = true ∧ ∃ T es, frzObs o frz j = some (Ob.arr T es) := by
     intro i j hj hb
     simp only [baD, Bool.and_eq_true, Bool.not_eq_true'] at hb
     refine ⟨memN_iff.2 (by rw [hjs]; exact arrIds_of hj hb.1 (by rw [Nat.zero_add]; exact hb.2)), ?_⟩
     replace hb := hb.1
     unfold preBa at hb
     split at hb
     ·rename_i T es he; exact harr i j T es he hj
     ·cases hb
    have hjs' : ∀ j, memN js j = true → j ∈ ρ ∧ ∃ T es, frzObs o frz j = some (Ob.arr T es) := by
     intro j hj
     rw [memN_iff, hjs] at hj
     obtain ⟨i, T, es, h1, h2⟩ := of_arrIds hj
     exact ⟨List.mem_of_getElem? h1, harr i j T es h2 h1⟩
    have hcall := hbor w (frzI G I frz) (subG ρ G) _ mL (RepAL.inv (ρ := ρ) _ _ hrep)
    have hfree : ∀ k, k < N - ρ.length → frzObs o frz (nid + k) = none := fun k hk => by
     have h0 := hw k (by omega)
     unfold frzObs
     cases e : lookD frz (nid + k) with
     | some d => obtain ⟨T, es, h1, _⟩ := hz.frz _ _ e; rw [h0] at h1; cases h1
     | none => simp only [h0]; rfl
    by_cases hfr : frB Wn frz = true
    ·rw [hfr, cond_true] at h
     simp only [frB, Bool.and_eq_true] at hfr
     have hW : Wn = 8 := Nat.eq_of_beq_eq_true hfr.1
     unfold effFr at h
     split at h
     ·rename_i _ _ _ T es _
      obtain ⟨hflat, h⟩ := h
      have hp0 : (pres o frz []).length = 0 := by unfold pres; cases frz <;> rfl
      have hfr0 : o nid = none := hw 0 (by omega)
      have hrun := hrun hok
      have key : ∀ v w'', (∃ G' I', Mod tb (Ctx.callD w (frzI G I frz) (pres o frz []) [(0, .arr T es)] (subG [] G) 0) noG (lookO [(0, .arr T es)]) noAct w'' G' I' ∧ RepA G' I' w''.heap (.own 0) v) →
        ∃ G2, Mod tb X (slotG oper.dst (.own nid) g) (updO o nid (.arr T es)) (a.put oper.dst v) w'' G2 I := by
       rintro v w'' ⟨G', I', mc, rr⟩
       have hbel : RowKit.Below w.heap.size w w'' := ⟨mc.os, mc.tape, mc.output, mc.wsz, fun b hb => mc.frame b hb (.inr ⟨fun q => q.elim, fun ⟨i, _, q, _⟩ => by rw [hp0] at q; omega⟩)⟩
       rw [RepA] at rr
       obtain ⟨⟨gr, hgr, rfl⟩, hone⟩ := rr
       obtain ⟨y, hy, hob⟩ := mc.objs 0 (.arr T es) rfl
       have hsize : ∀ b, gr.blk = some b → w.heap.size ≤ b ∧ b < w''.heap.size := by
        intro b hb
        obtain ⟨_, q2, q3⟩ := mc.own 0 (.arr T es) gr b rfl rfl hgr hb
        refine ⟨?_, q2⟩
        rcases q3 with q3 | ⟨i, _, q, _⟩
        ·exact q3
        ·rw [hp0] at q; omega
       have hobn : ObOK tb (updG G nid gr) I w''.heap nid (.arr T es) := by
        refine ⟨y, hy, ?_⟩
        rcases hob with ⟨e1, e2⟩ | ⟨b, z0, cap, c, e1, e2, e3, e4, e5, e6⟩
        ·rw [hgr] at e2; cases e2
         exact .inl ⟨e1, updG_self⟩
        ·rw [hgr] at e1; cases e1
         exact .inr ⟨b, z0, cap, c, updG_self, e2, e3, e4, e5, RepR.of_flat hflat e6⟩
       have m2 := m.mk' (i := nid) (gr := gr) (ob := .arr T es) hfr0 hnb hbel hsize hobn (by intro k q; cases q)
       exact ⟨_, m2.slotE hdst (by rw [RepA]; exact ⟨⟨gr, updG_self, rfl⟩, hone⟩)⟩
      have fin : ∀ slot, K ⟨slot, [(nid, .arr T es)], rd0, 1, [], []⟩ → appG ⟨slot, [(nid, .arr T es)], rd0, 1, [], []⟩ g = slotG oper.dst (.own nid) g →
        ∃ e, K e ∧ Does tb X P F n g o a w oper e := by
       intro slot hK hg
       refine ⟨_, hK, fun next Q hN => wpIn_enter hF hd hrun hcall fun v w'' hr => ?_⟩
       obtain ⟨G2, m3⟩ := key v w'' hr
       refine hN _ _ G2 I ?_
       rw [hg]
       have e2 : appO ⟨slot, [(nid, .arr T es)], rd0, 1, [], []⟩ o = updO o nid (.arr T es) := by
        funext i
        simp only [appO, lookO, updO, trO]
        cases Nat.beq nid i with
        | true => rfl
        | false => simp only [cond_false]; cases o i <;> rfl
       rw [e2]
       exact m3
      cases hd' : oper.dst with
      | some d =>
       simp only [hd'] at h
       refine fin _ h ?_
       rw [hd']
       funext t
       simp only [appG, trA_id (e := ⟨some (d, .own nid), [(nid, .arr T es)], rd0, 1, [], []⟩) rfl rfl, id, slotG]
      | none =>
       simp only [hd'] at h
       refine fin _ h ?_
       rw [hd']
       funext t
       simp only [appG, trA_id (e := ⟨none, [(nid, .arr T es)], rd0, 1, [], []⟩) rfl rfl, id, slotG]
     ·exact h.elim
    rw [Bool.not_eq_true] at hfr
    rw [hfr, cond_false] at h
    obtain ⟨post', hpost'⟩ : ∃ post', post' = dropRo (pres o frz ρ) post := ⟨_, rfl⟩
    rw [← hpost'] at h
    have hinj : ∀ k k', k < N → k' < N → outI ρ nid k = outI ρ nid k' → k = k' := by
     intro k k' hk hk' he
     unfold outI at he
     cases e1 : ρ[k]? with
     | some j =>
      cases e2 : ρ[k']? with
      | some j' => simp only [e1, e2] at he; subst he; exact nodupB_spec b1 e1 e2
      | none => simp only [e1, e2] at he; have := b2 j (List.mem_of_getElem? e1); omega
     | none =>
      have h1 := List.getElem?_eq_none_iff.1 e1
      cases e2 : ρ[k']? with
      | some j' => simp only [e1, e2] at he; have := b2 j' (List.mem_of_getElem? e2); omega
      | none => have h2 := List.getElem?_eq_none_iff.1 e2; simp only [e1, e2] at he; omega
    have hro1 : ∀ i, lookO (post'.map fun p => (outI ρ nid p.1, outO ρ nid p.2)) i = none → (lookO (post.map fun p => (outI ρ nid p.1, outO ρ nid p.2)) i).isSome = true → ∃ T cs, frzObs o frz i = some (.ro T cs) := by
     intro i hn hs
     obtain ⟨y, hy⟩ := Option.isSome_iff_exists.1 hs
     obtain ⟨k, ob, r1, r2, r3⟩ := lookS_of hy
     have hk : roB (pres o frz ρ) k = true := by
      cases e : roB (pres o frz ρ) k with
      | true => rfl
      | false =>
       have : lookO post' k = some ob := by rw [hpost', lookO_drop, e]; exact r1
       have := lookI_of (f := outI ρ nid) (q := outO ρ nid) this
       rw [r2, hn] at this; cases this
     unfold roB at hk
     split at hk
     ·rename_i T cs he
      rw [hpres, List.getElem?_map] at he
      obtain ⟨j, hj, he⟩ := Option.map_eq_some_iff.1 he
      have hji : j = i := by rw [← r2]; simp [outI, hj]
      subst hji
      rw [hoz] at he
      simp only at he
      unfold frzObs
      cases e : lookD frz j with
      | some d => rw [e] at he; simp [invO] at he
      | none =>
       rw [e] at he
       cases e2 : o j with
       | none => rw [e2] at he; simp [invO] at he
       | some oj =>
        rw [e2] at he
        cases oj with
        | iter q1 q2 q3 => simp only [invO] at he; split at he <;> cases he
        | ro T' cs' => exact ⟨_, _, rfl⟩
        | _ => simp [invO] at he
     ·cases hk
    have hsame : ∀ i x, lookO (post'.map fun p => (outI ρ nid p.1, outO ρ nid p.2)) i = some x → lookO (post.map fun p => (outI ρ nid p.1, outO ρ nid p.2)) i = some x := by
     intro i x hx
     obtain ⟨k, ob, r1, r2, r3⟩ := lookS_of hx
     rw [hpost', lookO_drop] at r1
     cases e : roB (pres o frz ρ) k with
     | true => rw [e] at r1; cases r1
     | false =>
      rw [e, cond_false] at r1
      obtain ⟨y, hy⟩ := Option.isSome_iff_exists.1 (lookI_of (f := outI ρ nid) (q := outO ρ nid) r1)
      rw [r2] at hy
      obtain ⟨k', ob', s1, s2, s3⟩ := lookS_of hy
      have := hinj k k' (b6 _ (lookO_mem r1)).1 (b6 _ (lookO_mem s1)).1 (by rw [r2, s2])
      subst this
      rw [r1] at s1; cases s1
      rw [hy, s3, r3]
    have key : ∀ v w'', (∃ G' I', Mod tb (Ctx.callD w (frzI G I frz) (pres o frz ρ) post (subG ρ G) 0) noG (lookO post) noAct w'' G' I' ∧ RepA G' I' w''.heap r v) →
      ∃ G2 I', Mod tb X (slotG oper.dst (outA ρ nid r) fun t => clrA js (frzA frz (g t))) (fun i => match lookO (post'.map fun p => (outI ρ nid p.1, outO ρ nid p.2)) i with | some x => some x | none => (frzObs o frz i).map (clrO js)) (a.put oper.dst v) w'' G2 I' := by
     rintro v w'' ⟨G', I', mc, rr⟩
     obtain ⟨G2, hG2, m2, hro2⟩ := m1.back hlen b1 b5 hob hba hjs' (fun i hi => cover_spec b0 hi) b2 b3 (fun p hp => b6 p hp) hnb hfree mc
     have m3 := m2.rekeep (o' := fun i => match lookO (post'.map fun p => (outI ρ nid p.1, outO ρ nid p.2)) i with | some x => some x | none => (frzObs o frz i).map (clrO js)) (fun i x hx => by
      split at hx
      ·rename_i y hy
       cases hx
       left
       rw [hsame i _ hy]
      ·rename_i hn
       cases e : lookO (post.map fun p => (outI ρ nid p.1, outO ρ nid p.2)) i with
       | none => left; exact hx
       | some z =>
        right
        obtain ⟨T, cs, hr⟩ := hro1 i hn (by rw [e]; rfl)
        rw [hr] at hx
        simp only [Option.map_some, Option.some.injEq] at hx
        subst hx
        exact ⟨⟨T, _, rfl⟩, hro2 i T cs hr⟩) (fun i hi => by
      split
      ·rfl
      ·rename_i hn
       cases e : lookO (post.map fun p => (outI ρ nid p.1, outO ρ nid p.2)) i with
       | none => rw [e] at hi; exact hi
       | some z =>
        obtain ⟨T, cs, hr⟩ := hro1 i hn (by rw [e]; rfl)
        rw [hr]; rfl)
     exact ⟨G2, I', m3.slotE hdst (RepA.out hG2 _ _ rr)⟩
    have hrun := hrun hok
    have fin : ∀ slot, K ⟨slot, (post'.map fun p => (outI ρ nid p.1, outO ρ nid p.2)) ++ frz.map fun p => (p.1, .dead), rd0, N - ρ.length, frz, js⟩ →
      appG ⟨slot, (post'.map fun p => (outI ρ nid p.1, outO ρ nid p.2)) ++ frz.map fun p => (p.1, .dead), rd0, N - ρ.length, frz, js⟩ g = (slotG oper.dst (outA ρ nid r) fun t => clrA js (frzA frz (g t))) →
      ∃ e, K e ∧ Does tb X P F n g o a w oper e := by
     intro slot hK hg
     refine ⟨_, hK, fun next Q hN => wpIn_enter hF hd hrun hcall fun v w'' hr => ?_⟩
     obtain ⟨G2, I', m3⟩ := key v w'' hr
     refine hN _ _ G2 I' ?_
     rw [hg]
     have e2 : appO ⟨slot, (post'.map fun p => (outI ρ nid p.1, outO ρ nid p.2)) ++ frz.map fun p => (p.1, .dead), rd0, N - ρ.length, frz, js⟩ o =
       (fun i => match lookO (post'.map fun p => (outI ρ nid p.1, outO ρ nid p.2)) i with | some x => some x | none => (frzObs o frz i).map (clrO js)) := by
      funext i
      simp only [appO]
      rw [lookO_append]
      cases lookO (post'.map fun p => (outI ρ nid p.1, outO ρ nid p.2)) i with
      | some x => rfl
      | none =>
       simp only [lookO_dead, frzObs]
       cases lookD frz i with
       | some d => rfl
       | none =>
        simp only [Option.map_none, Option.map_map]
        congr 1
        funext x
        rw [trO_eq]; rfl
     rw [e2]
     exact m3
    unfold effBor at h
    cases hd' : oper.dst with
    | some d =>
     simp only [hd', forceA_eq, outObs_eq] at h
     refine fin _ h ?_
     rw [hd']
     funext t
     simp only [appG, trA_eq, slotG]
    | none =>
     simp only [hd', outObs_eq] at h
     refine fin _ h ?_
     rw [hd']
     funext t
     simp only [appG, trA_eq, slotG]
  rw [Ch3.iff] at h
  rcases h with h | ⟨hW, ρ, v, hS, h⟩ | h
  ·left
   unfold effInp at h
   cases hW : Nat.beq (Con P tb Wn Y).w 8 with
   | true => rw [hW, cond_true] at h; exact h.elim
   | false =>
    rw [hW, cond_false] at h
    rcases h with h | ⟨i, T, es, ds, hoi, hes, h⟩ | h
    rotate_left
    ·have hbi : i < X.nb → X.ba i = true := fun hi => by
      cases hb : X.ba i with
      | true => rfl
      | false => exact absurd hoi (m.barr i T es hi hb)
     have m' := m.toArw (ds := ds) (by rw [hoi, hes])
     obtain ⟨e, ⟨hl, hK⟩, hD⟩ := borCase _ _ m' (fun k hk => by
      have h0 := hw k hk
      rw [updO]
      cases hb : Nat.beq i (nid + k) with
      | true => have := Nat.eq_of_beq_eq_true hb; rw [← this, hoi] at h0; cases h0
      | false => exact h0) h
     refine ⟨_, hK, fun next Q hN => hD next Q fun a' w' G' I' mm => hN a' w' G' I' ?_⟩
     have m3 := mm.toArrB (i := i) (T := T) (ds := ds) (by unfold appO; rw [hl]) hbi
     have e1 : appO ⟨e.slot, (i, .arr T es) :: dropO i e.obs, e.rd, e.new, e.frz, e.clr⟩ o = updO (appO e (updO o i (.arw T (ds.map A.d)))) i (.arr T (ds.map fun d => [d])) := by
      funext j
      rw [hes]
      simp only [appO, updO, lookO]
      cases hb : Nat.beq i j with
      | true => rfl
      | false =>
       rw [lookO_dropO hb]
       rfl
     rw [e1]
     exact m3
    ·unfold effSub at h
     split at h
     ·rename_i k ho
      obtain ⟨ρ, N, r, k', post, pre, rfl, ⟨hok, hsub⟩, h⟩ := h
      cases hb : subB (0 :: ρ) nid N Wn (ρ.map fun j => invO (0 :: ρ) (o j)) ((0, .env k') :: post) with
      | false =>
       have h : (bif subB (0 :: ρ) nid N Wn (ρ.map fun j => invO (0 :: ρ) (o j)) ((0, .env k') :: post) then _ else False) := h
       rw [hb] at h; exact h.elim
      | true =>
       have h : (bif subB (0 :: ρ) nid N Wn (ρ.map fun j => invO (0 :: ρ) (o j)) ((0, .env k') :: post) then
        (match oper.dst with
        | some d => forceA (outA (0 :: ρ) nid r) fun x => outObs (0 :: ρ) nid post fun obs => K ⟨some (d, x), (0, .env k') :: obs, 0 :: ρ, N - (0 :: ρ).length, [], []⟩
        | none => outObs (0 :: ρ) nid post fun obs => K ⟨none, (0, .env k') :: obs, 0 :: ρ, N - (0 :: ρ).length, [], []⟩) else False) := h
       rw [hb, cond_true] at h
       simp only [subB, postB_eq, List.drop_succ_cons, List.drop_zero, Nat.zero_le, Bool.and_eq_true, List.all_eq_true, Nat.blt_eq, Nat.ble_eq, Bool.not_eq_true'] at hb
       obtain ⟨⟨⟨⟨⟨⟨b0, b1⟩, b2⟩, b3⟩, b4⟩, b5⟩, b6⟩ := hb
       have hfree : ∀ q, q < N - (0 :: ρ).length → o (nid + q) = none := fun q hq => hw q (by omega)
       have hpost : ∀ p ∈ (0, Ob.env k') :: post, p.1 < N := fun p hp => by
        rcases List.mem_cons.1 hp with rfl | hp
        ·simp only [List.length_cons] at b3; show 0 < N; omega
        ·exact (b6 p hp).1.2
       obtain ⟨lent, mL, hback⟩ := m.sub ho b1 b5 b2 b3 hnb hfree (fun i hi => cover_at b0 hi) hpost
       have hcall := hsub { X.E with base := [] } lent hE w I (subG (0 :: ρ) G) _ mL (RepAL.inv (ρ := 0 :: ρ) _ _ hall)
       have hrun := hrun hok
       obtain ⟨obs, hobs⟩ : ∃ obs, obs = post.map fun p => (outI (0 :: ρ) nid p.1, outO (0 :: ρ) nid p.2) := ⟨_, rfl⟩
       have fin : ∀ slot, K ⟨slot, (0, .env k') :: obs, 0 :: ρ, N - (0 :: ρ).length, [], []⟩ → appG ⟨slot, (0, .env k') :: obs, 0 :: ρ, N - (0 :: ρ).length, [], []⟩ g = slotG oper.dst (outA (0 :: ρ) nid r) g →
         ∃ e, K e ∧ Does tb X P F n g o a w oper e := by
        intro slot hK hg
        refine ⟨_, hK, fun next Q hN => wpIn_enter hF hd hrun hcall fun v w'' hr => ?_⟩
        obtain ⟨G', I', mc, rr⟩ := hr
        obtain ⟨G2, hG2, m2⟩ := hback w'' G' I' mc
        have m3 := m2.slotE hdst (RepA.out hG2 _ _ rr)
        refine hN _ _ G2 I' ?_
        rw [hg]
        have e2 : appO ⟨slot, (0, .env k') :: obs, 0 :: ρ, N - (0 :: ρ).length, [], []⟩ o =
          (fun i => match lookO (((0, Ob.env k') :: post).map fun p => (outI (0 :: ρ) nid p.1, outO (0 :: ρ) nid p.2)) i with | some x => some x | none => o i) := by
         funext i
         rw [hobs]
         have etr : trO ⟨slot, (0, .env k') :: post.map fun p => (outI (0 :: ρ) nid p.1, outO (0 :: ρ) nid p.2), 0 :: ρ, N - (0 :: ρ).length, [], []⟩ = id := by unfold trO; rfl
         simp only [appO, etr, List.map_cons]
         show (match lookO ((0, Ob.env k') :: _) i with | some x => some x | none => Option.map id (o i)) = (match lookO ((0, Ob.env k') :: _) i with | some x => some x | none => o i)
         cases lookO ((0, Ob.env k') :: post.map fun p => (outI (0 :: ρ) nid p.1, outO (0 :: ρ) nid p.2)) i with
         | some x => rfl
         | none => show Option.map id (o i) = o i; rw [Option.map_id]; rfl
        rw [e2]
        exact m3
       cases hd' : oper.dst with
       | some d =>
        simp only [hd', forceA_eq, outObs_eq] at h
        refine fin _ (by rw [hobs]; exact h) ?_
        rw [hd']
        funext t
        simp only [appG, trA_id (e := ⟨some (d, outA (0 :: ρ) nid r), (0, .env k') :: obs, 0 :: ρ, N - (0 :: ρ).length, [], []⟩) rfl rfl, id, slotG]
       | none =>
        simp only [hd', outObs_eq] at h
        refine fin _ (by rw [hobs]; exact h) ?_
        rw [hd']
        funext t
        simp only [appG, trA_id (e := ⟨none, (0, .env k') :: obs, 0 :: ρ, N - (0 :: ρ).length, [], []⟩) rfl rfl, id, slotG]
     ·exact h.elim
    split at h
    ·rename_i i r hl
     split at h
     ·rename_i ds T es hds hi
      obtain ⟨es', ⟨hok, hin⟩, h⟩ := h
      rw [hl, toDs_eq hds] at hall
      have hcall := hin X g o a w G I i _ m hi hall
      have key : ∀ slot, K ⟨slot, [(i, .arr T es')], [i], 0, [], []⟩ → appG ⟨slot, [(i, .arr T es')], [i], 0, [], []⟩ g = slotG oper.dst (.d (.tup [])) g → ∃ e, K e ∧ Does tb X P F n g o a w oper e := by
       intro slot hK hg
       refine ⟨_, hK, fun next Q hN => wpIn_enter hF hd (hrun hok) hcall fun v w'' hr => ?_⟩
       obtain ⟨rfl, m2⟩ := hr
       have m3 := m2.slotE hdst (x := .d (.tup [])) (v := .tuple #[]) (by rw [RepA, RepD]; exact ⟨#[], rfl, by rw [RepL]⟩)
       refine hN _ _ G I ?_
       rw [hg, appO_one rfl rfl rfl]
       exact m3
      cases hd' : oper.dst with
      | some d =>
       simp only [hd'] at h
       refine key _ h ?_
       rw [hd']
       funext t
       simp only [appG, trA, slotG, id]
      | none =>
       simp only [hd'] at h
       refine key _ h ?_
       rw [hd']
       funext t
       simp only [appG, trA, slotG, id]
     ·exact h.elim
    ·exact h.elim
  ·right
   refine ⟨hW, ?_⟩
   have hS : Pan tb P fid (invAL ρ (first ++ c.args.toList.map (opA g) ++ caps)) (pres o [] ρ) v := hS
   obtain ⟨hok, hpan⟩ := hS
   split at h
   ·rename_i d hdd
    by_cases hb : (nodupB ρ && (ρ.all fun j => Nat.blt j nid) && (pres o [] ρ).all Ob.sure) = true
    ·rw [hb, cond_true] at h
     simp only [Bool.and_eq_true] at hb
     obtain ⟨⟨b1, _⟩, b5⟩ := hb
     have hpres : pres o [] ρ = ρ.map fun j => invO ρ (o j) := rfl
     have hlen : (pres o [] ρ).length = ρ.length := by rw [hpres]; simp
     have hsure : ∀ j ∈ ρ, (invO ρ (o j)).sure = true := fun j hj => List.all_eq_true.1 b5 _ (by rw [hpres]; exact List.mem_map.2 ⟨j, hj, rfl⟩)
     have hρ : ∀ j ∈ ρ, ∃ x, o j = some x ∧ (x.live = true ∨ ∃ T cs, x = .ro T cs) := by
      intro j hj
      have := hsure j hj
      cases e : o j with
      | none => rw [e] at this; simp [invO, Ob.sure] at this
      | some x =>
       rw [e] at this
       refine ⟨x, rfl, ?_⟩
       cases x with
       | ro T cs => exact .inr ⟨T, cs, rfl⟩
       | env k => simp [invO, Ob.sure] at this
       | dead => simp [invO, Ob.sure] at this
       | pan v => simp [invO, Ob.sure] at this
       | _ => exact .inl rfl
     have hob : ∀ i ob j, (pres o [] ρ)[i]? = some ob → ρ[i]? = some j → ObOK tb (subG ρ G) I w.heap i ob ∧ (ob.live = true → ∃ oj, o j = some oj ∧ oj.live = true) := by
      intro i ob j hi hj
      rw [hpres, List.getElem?_map, hj] at hi
      simp only [Option.map_some, Option.some.injEq] at hi
      subst hi
      refine ⟨ObOK.invO m.objs hj, fun hlv => ?_⟩
      obtain ⟨x, q1, q2⟩ := hρ j (List.mem_of_getElem? hj)
      refine ⟨x, q1, ?_⟩
      rcases q2 with q2 | ⟨T, cs, rfl⟩
      ·exact q2
      ·rw [q1] at hlv; simp [invO, Ob.live] at hlv
     have mL := m.lend hlen b1 (fun ob hob => List.all_eq_true.1 b5 ob hob) hob
     have hcall := hpan w I (subG ρ G) _ mL (RepAL.inv (ρ := ρ) _ _ hall)
     refine ⟨_, h, nid, v, List.mem_cons_self, fun next Q hQ => wpIn_enterP hF hd (hrun hok) hcall fun w'' hr => ?_⟩
     obtain ⟨h1, h2, h3, h4, h5⟩ := hr
     refine hQ w'' G I fun os hos => m.pan (ρ := ρ) h1 h2 h3 h4 (fun b hb hx => h5 b hb (hx.imp id fun hn ⟨i, gr, hi, hg, hbk⟩ => hn ?_)) hρ fun i hi hir => ?_
     ·obtain ⟨x, q1, _⟩ := hρ i hir
      exact hos i hi (i, x) (List.mem_cons_of_mem _ (sameO_mem hir q1)) rfl
     ·rw [hlen] at hi
      have hri : ρ[i]? = some ρ[i] := List.getElem?_eq_getElem hi
      refine ⟨i, ρ[i], gr, hri, ?_, hbk⟩
      simpa [subG, hri] using hg
    ·rw [Bool.not_eq_true] at hb; rw [hb] at h; exact h.elim
   ·exact h.elim
  left
  rcases h with h | ⟨ρ, N, r, post, hS, h⟩
  ·obtain ⟨as, frz, hh⟩ : ∃ as frz, handL true o (first ++ c.args.toList.map (opA g) ++ caps) = (as, frz) := ⟨_, _, rfl⟩
   rw [hh] at h
   simp only at h
   have hz : ZOK o frz := by have := handL_zok (cv := true) (o := o) (first ++ c.args.toList.map (opA g) ++ caps); rwa [hh] at this
   have hrep := handL_rep (cv := true) hz m.objs (by rw [hh]; exact fun p hp => hp) hall
   rw [hh] at hrep
   simp only at hrep
   have m1 := m.freeze hz.frz
   split at h
   ·rename_i ds hds
    have h : ∃ r, Pure P fid ds r ∧ effPure Wn oper.dst frz r K := h
    obtain ⟨r, ⟨hok, hpure⟩, h⟩ := h
    rw [toDs_eq hds] at hrep
    have hrep := RepAL.of_d.1 hrep
    have hrun := hrun hok
    have hcall := hpure w _ _ m1.isz hrep
    have key : ∀ v w'', (∃ I', RepD I' w''.heap r v ∧ (∀ b, frzI G I frz b → I' b) ∧ (∀ b, I' b → frzI G I frz b ∨ w.heap.size ≤ b) ∧ (∀ b, I' b → b < w''.heap.size) ∧ Below w.heap.size w w'') →
      ∃ I', Mod tb X (slotG oper.dst (.d r) fun t => frzA frz (g t)) (frzObs o frz) (a.put oper.dst v) w'' G I' := by
     rintro v w'' ⟨I', r1, r2, r3, r4, r5⟩
     have m2 := m1.grow r5 r2 r3 r4
     exact ⟨I', m2.slotE hdst (by rw [RepA]; exact r1)⟩
    have fin : ∀ slot, K ⟨slot, frz.map fun p => (p.1, .dead), frz.map (·.1), 0, frz, []⟩ → appG ⟨slot, frz.map fun p => (p.1, .dead), frz.map (·.1), 0, frz, []⟩ g = (slotG oper.dst (.d r) fun t => frzA frz (g t)) →
      ∃ e, K e ∧ Does tb X P F n g o a w oper e := by
     intro slot hK hg
     refine ⟨_, hK, fun next Q hN => wpIn_enter hF hd hrun hcall fun v w'' hr => ?_⟩
     obtain ⟨I', m3⟩ := key v w'' hr
     refine hN _ _ G I' ?_
     rw [hg, appO_call]
     exact m3
    have keep : ∀ slot rd, flatR r = true → K ⟨slot, [], rd, 0, [], []⟩ → appG ⟨slot, [], rd, 0, [], []⟩ g = (slotG oper.dst (.d r) g) → ∃ e, K e ∧ Does tb X P F n g o a w oper e := by
     intro slot rd hfl hK hg
     refine ⟨_, hK, fun next Q hN => wpIn_enter hF hd hrun hcall fun v w'' hr => ?_⟩
     obtain ⟨I', r1, r2, r3, r4, r5⟩ := hr
     have m2 := m.grow r5 (I' := I) (fun _ h => h) (fun _ h => .inl h) (fun b hb => Nat.lt_of_lt_of_le (m.isz b hb) r5.size)
     have m3 := m2.slotE hdst (x := .d r) (v := v) (by rw [RepA]; exact RepD.of_flatR hfl r1)
     refine hN _ _ G I ?_
     rw [hg, appO_id rfl rfl rfl]
     exact m3
    rcases effPure_cases h with ⟨hz0, h9⟩ | ⟨hfl, h9⟩ | h9
    ·subst hz0
     have e0 : frzI G I [] = I := by
      funext b
      simp [frzI, lookD]
     have fin0 : ∀ slot, K ⟨slot, [], [], 0, [], []⟩ → appG ⟨slot, [], [], 0, [], []⟩ g = (slotG oper.dst (.d r) g) → ∃ e, K e ∧ Does tb X P F n g o a w oper e := by
      intro slot hK hg
      refine ⟨_, hK, fun next Q hN => wpIn_enter hF hd hrun hcall fun v w'' hr => ?_⟩
      obtain ⟨I', r1, r2, r3, r4, r5⟩ := hr
      rw [e0] at r2 r3
      have m2 := m.grow r5 r2 r3 r4
      have m3 := m2.slotE hdst (x := .d r) (v := v) (by rw [RepA]; exact r1)
      refine hN _ _ G I' ?_
      rw [hg, appO_id rfl rfl rfl]
      exact m3
     cases hd' : oper.dst with
     | some d =>
      simp only [hd', fA_eq] at h9
      refine fin0 _ h9 ?_
      rw [hd']
      funext t
      simp only [appG, trA, slotG, id]
     | none =>
      simp only [hd'] at h9
      refine fin0 _ h9 ?_
      rw [hd']
      funext t
      simp only [appG, trA, slotG, id]
    ·cases hd' : oper.dst with
     | some d =>
      simp only [hd', fA_eq] at h9
      refine keep _ _ hfl h9 ?_
      rw [hd']
      funext t
      simp only [appG, trA, slotG, id]
     | none =>
      simp only [hd'] at h9
      refine keep _ _ hfl h9 ?_
      rw [hd']
      funext t
      simp only [appG, trA, slotG, id]
    by_cases hWn : Nat.beq Wn 8 = true
    ·rw [hWn] at h9
     simp only [cond_true] at h9
     have mk := m.kill hz.frz
     have key2 : ∀ v w'', (∃ I', RepD I' w''.heap r v ∧ (∀ b, frzI G I frz b → I' b) ∧ (∀ b, I' b → frzI G I frz b ∨ w.heap.size ≤ b) ∧ (∀ b, I' b → b < w''.heap.size) ∧ Below w.heap.size w w'') →
       ∃ I', Mod tb X (slotG oper.dst (.d r) g) (killObs o frz) (a.put oper.dst v) w'' G I' := by
      rintro v w'' ⟨I', r1, r2, r3, r4, r5⟩
      have m2 := mk.grow r5 r2 r3 r4
      exact ⟨I', m2.slotE hdst (by rw [RepA]; exact r1)⟩
     have fin2 : ∀ slot, K ⟨slot, frz.map fun p => (p.1, .dead), frz.map (·.1), 0, [], []⟩ → appG ⟨slot, frz.map fun p => (p.1, .dead), frz.map (·.1), 0, [], []⟩ g = (slotG oper.dst (.d r) g) →
       ∃ e, K e ∧ Does tb X P F n g o a w oper e := by
      intro slot hK hg
      refine ⟨_, hK, fun next Q hN => wpIn_enter hF hd hrun hcall fun v w'' hr => ?_⟩
      obtain ⟨I', m3⟩ := key2 v w'' hr
      refine hN _ _ G I' ?_
      rw [hg]
      have e1 : appO ⟨slot, frz.map fun p => (p.1, .dead), frz.map (·.1), 0, [], []⟩ o = killObs o frz := by
       funext i
       simp only [appO, lookO_dead, killObs, trO]
       cases lookD frz i with
       | some x => rfl
       | none => cases o i <;> rfl
      rw [e1]
      exact m3
     cases hd' : oper.dst with
     | some d =>
      simp only [hd', fA_eq] at h9
      refine fin2 _ h9 ?_
      rw [hd']
      funext t
      simp only [appG, trA, slotG, id]
     | none =>
      simp only [hd'] at h9
      refine fin2 _ h9 ?_
      rw [hd']
      funext t
      simp only [appG, trA, slotG, id]
    ·rw [Bool.not_eq_true] at hWn
     rw [hWn] at h9
     simp only [cond_false] at h9
     cases hd' : oper.dst with
     | some d =>
      simp only [hd', fA_eq] at h9
      refine fin _ h9 ?_
      rw [hd']
      funext t
      simp only [appG, trA_call, slotG]
     | none =>
      simp only [hd'] at h9
      refine fin _ h9 ?_
      rw [hd']
      funext t
      simp only [appG, trA_call, slotG]
   ·have h : (∃ (ds : List D) (r : D), lendL tb o (first ++ (c.args.toList.map (opA g)) ++ caps) ds ∧ Pure P fid ds r ∧ effLend oper.dst (ownIds (first ++ (c.args.toList.map (opA g)) ++ caps)) r K) ∨
      (∃ (ds : List D) (T : TypeId) (es : List (List D)), Nat.blt 0 Wn = true ∧ lendV o (first ++ (c.args.toList.map (opA g)) ++ caps) ds ∧ Bor tb P fid (ds.map A.d) [] 1 (.own 0) [(0, .arr T es)] ∧ (∀ el ∈ es, ∀ d ∈ el, flatD d = true) ∧
       (match oper.dst with
       | some d => K ⟨some (d, .own nid), [(nid, .arr T es)], viewIds o (first ++ (c.args.toList.map (opA g)) ++ caps), 1, [], []⟩
       | none => False)) := h
    rcases h with h | ⟨ds, T, es, hw0, hlend, ⟨hok, hbor⟩, hflat, h⟩
    rotate_left
    ·have hrep2 := lendV_rep m.isz m.objs hlend hall
     have hrun := hrun hok
     have mi : Mod tb (Ctx.call w (fun b => b < w.heap.size) [] (fun _ => none) 0) noG (fun i => ([] : List Ob)[i]?) noAct w (fun _ => none) (fun b => b < w.heap.size) :=
      ⟨rfl, fun t => by rw [RepA]; trivial, fun i ob h => (nomatch h), fun i gr h => (nomatch h), fun i j oi oj gi gj b h => (nomatch h), fun i oi gi b h => (nomatch h), fun i hi _ => rfl, fun b h => h, fun b h => h, fun b h => .inl h, fun b _ _ => rfl, rfl, rfl, rfl, Nat.le_refl _, fun i T es hi => (nomatch hi), ⟨0, fun _ => False, trivM _ _ _ _, fun b hf => hf.elim, fun _ _ _ _ _ _ _ _ hf => hf, fun i k h => (nomatch h)⟩, fun _ => rfl⟩
     have hcall := hbor w _ _ _ mi (RepAL.of_d.2 hrep2)
     have hfr0 : o nid = none := hw 0 (by have := Nat.le_of_ble_eq_true hw0; omega)
     cases hd' : oper.dst with
     | none => simp only [hd'] at h
     | some d =>
      simp only [hd'] at h
      refine ⟨_, h, fun next Q hN => wpIn_enter hF hd hrun hcall fun v w'' hr => ?_⟩
      obtain ⟨G', I', mc, rr⟩ := hr
      have hbel : RowKit.Below w.heap.size w w'' := ⟨mc.os, mc.tape, mc.output, mc.wsz, fun b hb => mc.frame b hb (.inl hb)⟩
      rw [RepA] at rr
      obtain ⟨⟨gr, hgr, rfl⟩, hone⟩ := rr
      obtain ⟨y, hy, hob⟩ := mc.objs 0 (.arr T es) rfl
      have hsize : ∀ b, gr.blk = some b → w.heap.size ≤ b ∧ b < w''.heap.size := by
       intro b hb
       obtain ⟨_, q2, q3⟩ := mc.own 0 (.arr T es) gr b rfl rfl hgr hb
       refine ⟨?_, q2⟩
       rcases q3 with q3 | ⟨i, _, q, _⟩
       ·exact q3
       ·exact absurd q (Nat.not_lt_zero _)
      have hobn : ObOK tb (updG G nid gr) I w''.heap nid (.arr T es) := by
       refine ⟨y, hy, ?_⟩
       rcases hob with ⟨e1, e2⟩ | ⟨b, z0, cap, c, e1, e2, e3, e4, e5, e6⟩
       ·rw [hgr] at e2; cases e2
        exact .inl ⟨e1, updG_self⟩
       ·rw [hgr] at e1; cases e1
        exact .inr ⟨b, z0, cap, c, updG_self, e2, e3, e4, e5, RepR.of_flat hflat e6⟩
      have m2 := m.mk' (i := nid) (gr := gr) (ob := .arr T es) hfr0 hnb hbel hsize hobn (by intro k q; cases q)
      have m3 := m2.put (d := d) (x := .own nid) (v := gr.val) (hdst d hd') (by rw [RepA]; exact ⟨⟨gr, updG_self, rfl⟩, hone⟩)
      rw [hd']
      refine hN _ _ (updG G nid gr) I ?_
      rw [appO_one rfl rfl rfl]
      exact m3
    obtain ⟨ds, r, hlend, ⟨hok, hpure⟩, hfl, h⟩ := h
    have hrep2 := lendL_rep m.isz m.objs hlend hall
    have hrun := hrun hok
    have hcall := hpure w _ _ (fun b hb => hb) hrep2
    have keep : ∀ slot rd, K ⟨slot, [], rd, 0, [], []⟩ → appG ⟨slot, [], rd, 0, [], []⟩ g = (slotG oper.dst (.d r) g) → ∃ e, K e ∧ Does tb X P F n g o a w oper e := by
     intro slot rd hK hg
     refine ⟨_, hK, fun next Q hN => wpIn_enter hF hd hrun hcall fun v w'' hr => ?_⟩
     obtain ⟨I', r1, r2, r3, r4, r5⟩ := hr
     have m2 := m.grow r5 (I' := I) (fun _ h => h) (fun _ h => .inl h) (fun b hb => Nat.lt_of_lt_of_le (m.isz b hb) r5.size)
     have m3 := m2.slotE hdst (x := .d r) (v := v) (by rw [RepA]; exact RepD.of_flatR hfl r1)
     refine hN _ _ G I ?_
     rw [hg, appO_id rfl rfl rfl]
     exact m3
    cases hd' : oper.dst with
    | some d =>
     simp only [hd', fA_eq] at h
     refine keep _ _ h ?_
     rw [hd']
     funext t
     simp only [appG, trA, slotG, id]
    | none =>
     simp only [hd'] at h
     refine keep _ _ h ?_
     rw [hd']
     funext t
     simp only [appG, trA, slotG, id]
  ·exact borCase o K m hw ⟨ρ, N, r, post, _, rfl, hS, h⟩
 ·rename_i hn; rw [hn] at hsome; cases hsome
omit hP hF m hdst in
theorem RepE.length {h : Array Obj} : ∀ {es : List (D × D)} {ents : List MapEntry}, RepE I h es ents → ents.length = es.length
 | [], _, r => by rw [RepE] at r; subst r; rfl
 | (k, v) :: es, _, r => by
  rw [RepE] at r
  obtain ⟨e, s, rfl, _, _, r⟩ := r
  simp [RepE.length r]
theorem snd_len {c : Call} (hop : oper.op = .call c) (hc : c.callee = .builtin .len) (h : effOp tb (Con P tb Wn Y) (.call c) oper.dst g o nid K) : ∃ e, K e ∧ Does tb X P F n g o a w oper e := by
 have hd : ∀ c, oper.op ≠ .defer c := by simp [hop]
 simp only [effOp, hc] at h
 split at h
 ·rename_i x T hx hT
  have hargs : c.args = #[x] := by apply Array.ext'; simpa using hx
  have htys : c.argTypes = #[T] := by apply Array.ext'; simpa using hT
  split at h
  ·rename_i ke ee s1 s2 z bk hTy
   have hk := (hP.ty T _ hTy).kind
   simp only [TKOK] at hk
   split at h
   ·rename_i i hxx
    split at h
    ·rename_i k' e' es ho
     obtain ⟨b, ents, clock, r1, r2, r3, _⟩ := m.objs i _ ho
     have rx := m.eval x
     rw [hxx, RepA] at rx
     obtain ⟨⟨gr, hg, hu⟩, _⟩ := rx
     rw [hg] at r1; cases r1
     have hl : ents.size = es.length := by simpa using RepE.length r3
     refine fin_put hF hd (v := .int .i64 es.length) ?_ m (by unfold intRes; rw [RepA, RepD]) hdst h
     simp [execOp, hop, resolve, hc, hargs, htys, invoke, builtin, Builtin.len_, run_und hk, hu, goInt, getObj, Sem.run, r2, hl]
    ·exact h.elim
   ·exact h.elim
  ·rename_i e s1 s2 z bk hTy
   have hk := (hP.ty T _ hTy).kind
   simp only [TKOK] at hk
   split at h
   ·rename_i es rd hel
    have rx := m.eval x
    have hv : ∃ ad cap, a.eval x = .slice ad es.length cap := by
     unfold elemsOf at hel
     split at hel
     ·rename_i es' hxx
      simp only [Option.some.injEq, Prod.mk.injEq] at hel
      obtain ⟨rfl, _⟩ := hel
      rw [hxx, RepA, RepD] at rx
      obtain ⟨ad, len, cap, hu, h1, _⟩ := rx
      exact ⟨ad, cap, by rw [hu, h1]⟩
     ·rename_i hxx
      simp only [Option.some.injEq, Prod.mk.injEq] at hel
      obtain ⟨rfl, _⟩ := hel
      rw [hxx, RepA, RepD] at rx
      exact ⟨none, 0, by rw [rx]; rfl⟩
     ·rename_i i hxx
      split at hel
      ·rename_i T' es' ho
       simp only [Option.some.injEq, Prod.mk.injEq] at hel
       obtain ⟨rfl, _⟩ := hel
       rw [hxx, RepA] at rx
       obtain ⟨⟨gr, hg, hu⟩, _⟩ := rx
       obtain ⟨y, hy, hob⟩ := m.objs i _ ho
       rcases hob with ⟨rfl, h2⟩ | ⟨b, z0, cap, c, h2, _⟩
       ·rw [hg] at h2; cases h2; exact ⟨none, 0, hu⟩
       ·rw [hg] at h2; cases h2; exact ⟨_, cap, hu⟩
      ·cases hel
     ·rename_i i hi' hxx
      split at hel
      ·rename_i T' es' ho
       simp only [Option.some.injEq, Prod.mk.injEq] at hel
       obtain ⟨rfl, _⟩ := hel
       rw [hxx, RepA] at rx
       obtain ⟨gr, ad, len, cap, hg, hvv, hle, hu⟩ := rx
       obtain ⟨y, hy, hob⟩ := m.objs i _ ho
       have hlen : len = es'.length := by
        rcases hob with ⟨rfl, h2⟩ | ⟨b, z0, cap, c, h2, _⟩
        ·rw [hg] at h2; cases h2; cases hvv; rfl
        ·rw [hg] at h2; cases h2; cases hvv; rfl
       exact ⟨ad, cap, by rw [hu, List.length_take, Nat.min_eq_left (by omega)]⟩
      ·cases hel
     ·cases hel
    obtain ⟨ad, cap, hv⟩ := hv
    refine fin_put hF hd (v := .int .i64 es.length) ?_ m (by unfold intRes; rw [RepA, RepD]) hdst h
    simp [execOp, hop, resolve, hc, hargs, htys, invoke, builtin, Builtin.len_, run_und hk, hv, goInt]
   ·split at h
    ·rename_i i hxx
     split at h
     ·rename_i T' cs ho
      have rx := m.eval x
      rw [hxx, RepA] at rx
      obtain ⟨⟨gr, hg, hu⟩, _⟩ := rx
      obtain ⟨us, r1, y, hy, hob⟩ := m.objs i _ ho
      have hul : (rawE us).length = cs.length := by unfold rawE; simp [RepAL.length r1]
      have hv : ∃ ad cap, a.eval x = .slice ad cs.length cap := by
       rcases hob with ⟨h1, h2⟩ | ⟨b, z0, cap, c, h2, _⟩
       ·rw [h1] at hul
        rw [hg] at h2; cases h2; exact ⟨none, 0, by rw [← hul]; exact hu⟩
       ·rw [hg] at h2; cases h2; exact ⟨_, cap, by rw [← hul]; exact hu⟩
      obtain ⟨ad, cap, hv⟩ := hv
      refine fin_put hF hd (v := .int .i64 cs.length) ?_ m (by unfold intRes; rw [RepA, RepD]) hdst h
      simp [execOp, hop, resolve, hc, hargs, htys, invoke, builtin, Builtin.len_, run_und hk, hv, goInt]
     ·exact h.elim
    ·exact h.elim
  ·exact h.elim
 ·exact h.elim
theorem snd_cap {c : Call} (hop : oper.op = .call c) (hc : c.callee = .builtin .cap) (h : effOp tb (Con P tb Wn Y) (.call c) oper.dst g o nid K) : ∃ e, K e ∧ Does tb X P F n g o a w oper e := by
 have hd : ∀ c, oper.op ≠ .defer c := by simp [hop]
 simp only [effOp, hc] at h
 split at h
 ·rename_i x T hx hT
  have hargs : c.args = #[x] := by apply Array.ext'; simpa using hx
  have htys : c.argTypes = #[T] := by apply Array.ext'; simpa using hT
  split at h
  ·rename_i e s1 s2 z bk hTy hxx
   have hk := (hP.ty T _ hTy).kind
   simp only [TKOK] at hk
   have rx := m.eval x
   rw [hxx, RepA, RepD] at rx
   refine fin_put hF hd (v := .int .i64 0) ?_ m (by unfold intRes; rw [RepA, RepD]) hdst h
   simp [execOp, hop, resolve, hc, hargs, htys, invoke, builtin, Builtin.cap_, run_und hk, rx, goInt]
  ·exact h.elim
 ·exact h.elim
end
end Go.Ev


namespace Go.Ev
open RowKit
theorem RepL.bytes {I : Nat → Prop} {h : Array Obj} {s : ByteArray} : ∀ {vs : List Value}, RepL I h (bytesD s).flatten vs → vs = (s.data.toList.map fun q : UInt8 => (q.toNat : Int)).map (Value.int .u8) := by
 unfold bytesD
 generalize s.data.toList = bs
 induction bs with
 | nil => intro vs r; simp only [List.map_nil, List.flatten_nil] at r; rw [RepL] at r; rw [r]; rfl
 | cons q bs ih =>
  intro vs r
  simp only [List.map_cons, List.flatten_cons, List.singleton_append] at r
  rw [RepL] at r
  obtain ⟨v, r', rfl, h1, h2⟩ := r
  rw [RepD] at h1
  subst h1
  rw [ih h2]
  rfl
def OwnV (e : TypeId) (sz : Nat) (I : Nat → Prop) (h : Array Obj) (es : List (List D)) (v : Value) (blk : Option Nat) : Prop :=
 (es = [] ∧ v = .slice none 0 0 ∧ blk = none) ∨
  ∃ b z cap c, v = .slice (some ⟨b, z, none⟩) es.length cap ∧ blk = some b ∧ h[b]? = some (.cells c e (0, 0)) ∧ es.length ≤ cap ∧ cap ≤ maxLen ∧ z + cap * sz ≤ c.size ∧ RepR I h sz es (c.toList.drop z)
theorem ObOK.ownV {tb : TB} {G : Nat → Option GR} {I : Nat → Prop} {h : Array Obj} {i : Nat} {e : TypeId} {es : List (List D)} {y : Ty} (hy : tb e = some y) (r : ObOK tb G I h i (.arr e es)) : ∃ gr, G i = some gr ∧ OwnV e y.size I h es gr.val gr.blk := by
 obtain ⟨y', hy', r⟩ := r
 rw [hy] at hy'; cases hy'
 rcases r with ⟨rfl, r⟩ | ⟨b, z0, cap, c, r1, r2, r3, r4, r5, r6⟩
 ·exact ⟨_, r, .inl ⟨rfl, rfl, rfl⟩⟩
 ·exact ⟨_, r1, .inr ⟨b, z0, cap, c, rfl, rfl, r2, r3, r4, r5, r6⟩⟩
theorem OwnV.ob {tb : TB} {G : Nat → Option GR} {I : Nat → Prop} {h : Array Obj} {i : Nat} {e : TypeId} {es : List (List D)} {y : Ty} (hy : tb e = some y) {v : Value} {blk : Option Nat} (hg : G i = some ⟨v, blk⟩) (r : OwnV e y.size I h es v blk) : ObOK tb G I h i (.arr e es) := by
 refine ⟨y, hy, ?_⟩
 rcases r with ⟨rfl, rfl, rfl⟩ | ⟨b, z0, cap, c, rfl, rfl, r2, r3, r4, r5, r6⟩
 ·exact .inl ⟨rfl, hg⟩
 ·exact .inr ⟨b, z0, cap, c, hg, r2, r3, r4, r5, r6⟩
theorem OwnV.one {e : TypeId} {sz : Nat} {I : Nat → Prop} {h : Array Obj} {es : List (List D)} {v : Value} {blk : Option Nat} (r : OwnV e sz I h es v blk) : v.oneCell' = true := by
 rcases r with ⟨_, rfl, _⟩ | ⟨b, z0, cap, c, rfl, _⟩ <;> rfl
def SrcV (I : Nat → Prop) (h : Array Obj) (sz : Nat) (ys : List (List D)) (u : Value) : Prop :=
 ∃ ad cap, u = .slice ad ys.length cap ∧ (ys = [] ∨ ∃ b off c T fr, ad = some ⟨b, off, none⟩ ∧ h[b]? = some (.cells c T fr) ∧ RepR I h sz ys (c.toList.drop off))
theorem append_zero {P : Program} {w : World} {T ty e : TypeId} {i : TypeInfo} (hT : P.underlying T = some (.slice e)) (hi : P.info? e = some i) (ad bd : Option Addr) (sLen sCap cap : Nat) (hle : sLen ≤ sCap) :
  (Builtin.append_ #[T, T] ty #[.slice bd sLen sCap, .slice ad 0 cap]).run P w = .ok (.slice bd sLen sCap) w := by
 cases ad <;> cases bd <;> simp [Builtin.append_, run_underlying hT, sizeOf, typeInfo, hi, Builtin.lenOf, Builtin.firstCells, loadCells, loadCellsFrom, hle, storeCells]
theorem run_append_room_at {P : Program} (w : World) (t ty e : TypeId) (i : TypeInfo) (ht : P.underlying t = some (.slice e)) (hi : P.info? e = some i)
  (g z sLen sCap : Nat) (cur : Array Value) (hg : w.heap[g]? = some (.cells cur e (0, 0)))
  (a : Addr) (m c : Nat) (news : List Value) (hl : news.length = m * i.size) (hnews : ∀ j u, news[j]? = some u → w.cell? (a.add j) = some u) (h1 : ∀ u ∈ news, u.oneCell' = true)
  (hroom : sLen + m ≤ sCap) (hfit : z + sLen * i.size + news.length ≤ cur.size) :
  (Builtin.append_ #[t, t] ty #[.slice (some ⟨g, z, none⟩) sLen sCap, .slice (some a) m c]).run P w =
   .ok (.slice (some ⟨g, z, none⟩) (sLen + m) sCap) (w.setRow g (cur.toList.take (z + sLen * i.size) ++ news ++ cur.toList.drop (z + sLen * i.size + news.length)).toArray) := by
 have hf := run_firstCells_some (P := P) w i.size m a m c news hl hnews
 have hst := run_storeCells_at P g (z + sLen * i.size) e news 0 cur w hg (by simpa using hfit) h1
 simp only [Nat.add_zero] at hst
 simp [Builtin.append_, run_underlying ht, sizeOf, typeInfo, hi, Builtin.lenOf, hroom, hf, Addr.add_lit, hst]
theorem append_core {P : Program} {w : World} {T T2 ty e : TypeId} {y : Ty} {i : TypeInfo} {z : Value} (hi1 : i.size = y.size) (hi2 : i.bytes = y.bytes) (hi4 : z.cells.toList = y.zero) (hy : y.zero.length = y.size) (hb : 0 < y.bytes) {I : Nat → Prop} (hI : ∀ b, I b → b < w.heap.size)
  {es ys : List (List D)} {v u : Value} {blk : Option Nat} (hv : OwnV e y.size I w.heap es v blk) (hnI : ∀ b, blk = some b → ¬ I b ∧ b < w.heap.size) {news : List Value} (hnewsz : news.length = ys.length * y.size) (f2 : ∀ v ∈ news, v.oneCell' = true) (hrys : RepR I w.heap y.size ys news) (hbytes : (es.length + ys.length) * y.bytes ≤ 140737488355328)
  (H0 : ys.length = 0 → ∀ (bd : Option Addr) (sLen sCap : Nat), sLen ≤ sCap → (Builtin.append_ #[T, T2] ty #[.slice bd sLen sCap, u]).run P w = .ok (.slice bd sLen sCap) w)
  (H1 : 0 < ys.length → (ys.length : Int) ≤ 9223372036854775807 → ys.length * i.bytes ≤ 281474976710656 → (Builtin.append_ #[T, T2] ty #[.slice none 0 0, u]).run P w =
   .ok (.slice (some ⟨w.heap.size, 0, none⟩) ys.length (grownCap w ys.length 0 e)) (w.drew.alloc (.cells (news.toArray ++ Builtin.zeroCells z.cells (grownCap w ys.length 0 e - ys.length)) e)))
  (H2 : 0 < ys.length → ∀ (g z0 sLen sCap : Nat) (cur : Array Value), w.heap[g]? = some (.cells cur e (0, 0)) → sLen + ys.length ≤ sCap → z0 + sLen * i.size + news.length ≤ cur.size → (Builtin.append_ #[T, T2] ty #[.slice (some ⟨g, z0, none⟩) sLen sCap, u]).run P w =
   .ok (.slice (some ⟨g, z0, none⟩) (sLen + ys.length) sCap) (w.setRow g (cur.toList.take (z0 + sLen * i.size) ++ news ++ cur.toList.drop (z0 + sLen * i.size + news.length)).toArray))
  (H3 : 0 < ys.length → ∀ (b : Addr) (sLen sCap : Nat) (olds : List Value), olds.length = sLen * i.size → (∀ j v, olds[j]? = some v → w.cell? (b.add j) = some v) → sCap < sLen + ys.length → ((sLen + ys.length : Nat) : Int) ≤ 9223372036854775807 → Builtin.nextslicecap (sLen + ys.length) sCap * i.bytes ≤ 281474976710656 →
   (Builtin.append_ #[T, T2] ty #[.slice (some b) sLen sCap, u]).run P w = .ok (.slice (some ⟨w.heap.size, 0, none⟩) (sLen + ys.length) (grownCap w (sLen + ys.length) sCap e))
    (w.drew.alloc (.cells (olds.toArray ++ news.toArray ++ Builtin.zeroCells z.cells (grownCap w (sLen + ys.length) sCap e - (sLen + ys.length))) e))) :
  ∃ v' w' blk', (Builtin.append_ #[T, T2] ty #[v, u]).run P w = .ok v' w' ∧ OwnV e y.size I w'.heap (es ++ ys) v' blk' ∧ (∀ b, blk' = some b → blk = some b ∨ (w.heap.size ≤ b ∧ b < w'.heap.size)) ∧
   w.heap.size ≤ w'.heap.size ∧ (∀ k, k < w.heap.size → blk ≠ some k → w'.heap[k]? = w.heap[k]?) ∧ w'.os = w.os ∧ w'.tape = w.tape ∧ w'.output = w.output := by
 have hlen : z.cells.size = y.size := by rw [← hi4] at hy; simpa using hy
 have hmax : es.length + ys.length ≤ maxLen := by
  have : es.length + ys.length ≤ (es.length + ys.length) * y.bytes := Nat.le_mul_of_pos_right _ hb
  simp only [maxLen]; omega
 have h63 : ((es.length + ys.length : Nat) : Int) ≤ 9223372036854775807 := by simp only [maxLen] at hmax; omega
 have hnl : news.length = ys.length * i.size := by rw [hnewsz, hi1]
 by_cases hy0 : ys.length = 0
 ·have hy1 : ys = [] := List.eq_nil_of_length_eq_zero hy0
  subst hy1
  rw [List.append_nil]
  rcases hv with ⟨rfl, rfl, rfl⟩ | ⟨b, z0, cap0, c, rfl, rfl, r2, r3, r4, r5, r6⟩
  ·exact ⟨_, w, none, H0 rfl none 0 0 (Nat.le_refl _), .inl ⟨rfl, rfl, rfl⟩, by simp, Nat.le_refl _, fun _ _ _ => rfl, rfl, rfl, rfl⟩
  ·exact ⟨_, w, some b, H0 rfl _ _ cap0 r3, .inr ⟨b, z0, cap0, c, rfl, rfl, r2, r3, r4, r5, r6⟩, fun b' h => .inl h, Nat.le_refl _, fun _ _ _ => rfl, rfl, rfl, rfl⟩
 ·-- a new row of cells
  have grown : ∀ (xs : List Value) (old : Nat), xs.length = es.length * y.size → RepR I w.heap y.size es xs → es.length + ys.length ≤ maxLen →
    OwnV e y.size I (w.drew.alloc (.cells (xs.toArray ++ news.toArray ++ Builtin.zeroCells z.cells (grownCap w (es.length + ys.length) old e - (es.length + ys.length))) e)).heap (es ++ ys)
     (.slice (some ⟨w.heap.size, 0, none⟩) (es.length + ys.length) (grownCap w (es.length + ys.length) old e)) (some w.heap.size) := by
   intro xs old hx hxr hm
   have hge := grownCap_ge w (es.length + ys.length) old e
   have hcm : grownCap w (es.length + ys.length) old e ≤ maxLen := grownCap_le_maxLen w _ old e hm
   refine .inr ⟨w.heap.size, 0, _, _, by rw [List.length_append], rfl, heap_alloc_new w.drew _, by rw [List.length_append]; exact hge, hcm, ?_, ?_⟩
   ·rw [Nat.zero_add]
    refine Nat.le_of_eq (Eq.symm ?_)
    simp only [Array.size_append, List.size_toArray, size_zeroCells, hlen, hx, hnewsz, ← Nat.add_mul]
    congr 1; omega
   ·refine RepR.mono (fun _ h => h) (fun b hb' => heap_alloc_old w.drew _ (hI b hb')) _ _ _ ?_
    rw [List.drop_zero]
    simp only [Array.toList_append, List.append_assoc]
    rw [← List.append_assoc]
    have r0 := RepR.append hxr hx hrys
    have r1 := RepR.flat r0 (RepR.len r0)
    rw [List.length_append, show (es.length + ys.length) * y.size = (xs ++ news).length by rw [List.length_append, hx, hnewsz, Nat.add_mul], List.take_length] at r1
    exact RepR.mk (RepR.lens r0) r1.1 r1.2
  rcases hv with ⟨rfl, rfl, rfl⟩ | ⟨b, z0, cap0, c, rfl, rfl, r2, r3, r4, r5, r6⟩
  ·by_cases h0 : ys.length = 0
   ·exact absurd h0 hy0
   ·have hr := H1 (by omega) (by simpa using h63) (by simp at hbytes; rw [hi2]; omega)
    have hgr := grown [] 0 (by simp) (by rw [RepR]; trivial) (by simpa using hmax)
    simp only [List.length_nil, Nat.zero_add, List.nil_append, Array.empty_append] at hgr
    refine ⟨_, _, some w.heap.size, hr, by simpa using hgr, fun b' h => .inr (by cases h; exact ⟨Nat.le_refl _, by simp⟩), by simp, fun k hk _ => heap_alloc_old w.drew _ hk, rfl, rfl, rfl⟩
  ·by_cases hroom : es.length + ys.length ≤ cap0
   ·have hfit : z0 + es.length * i.size + news.length ≤ c.size := by
     have : (es.length + ys.length) * y.size ≤ cap0 * y.size := Nat.mul_le_mul_right _ hroom
     rw [Nat.add_mul] at this
     rw [hnl, hi1]; omega
    have hr := H2 (by omega) b z0 es.length cap0 c r2 hroom hfit
    have hpre : RepR I w.heap y.size es ((c.toList.drop z0).take (es.length * y.size)) := RepR.pref _ r6 (Nat.le_refl _)
    have hpl : ((c.toList.drop z0).take (es.length * y.size)).length = es.length * y.size := by
     have := RepR.len r6
     rw [List.length_take]; omega
    have r0 := RepR.append hpre hpl hrys
    have r1 := RepR.flat r0 (RepR.len r0)
    rw [List.length_append, show (es.length + ys.length) * y.size = ((c.toList.drop z0).take (es.length * y.size) ++ news).length by rw [List.length_append, hpl, hnewsz, Nat.add_mul], List.take_length] at r1
    refine ⟨_, _, some b, hr, .inr ⟨b, z0, cap0, _, by rw [List.length_append], rfl, setRow_heap w b c _ e _ r2, by rw [List.length_append]; exact hroom, r4, ?_, ?_⟩, fun b' h => .inl h, by simp, fun k _ hk => setRow_other w b k _ (fun e => hk (by rw [e])), rfl, rfl, rfl⟩
    ·simp only [List.size_toArray, List.length_append, List.length_take, List.length_drop, Array.length_toList]
     rw [hi1] at hfit
     rw [hi1]
     omega
    ·rw [List.toList_toArray, hi1, drop_mid c.toList news (by have := c.length_toList; omega)]
     refine RepR.mono (fun _ h => h) (fun k hk => setRow_other w b k _ (fun e => (hnI b rfl).1 (e ▸ hk))) _ _ _ ?_
     exact RepR.mk (RepR.lens r0) r1.1 r1.2
   ·have hpl : ((c.toList.drop z0).take (es.length * y.size)).length = es.length * y.size := by
     have := RepR.len r6
     rw [List.length_take]; omega
    have holds : ∀ j x, ((c.toList.drop z0).take (es.length * y.size))[j]? = some x → w.cell? ((⟨b, z0, none⟩ : Addr).add j) = some x := by
     intro j x hj
     rw [addr_add, cell_at r2]
     rw [List.getElem?_take] at hj
     split at hj
     ·simpa using hj
     ·cases hj
    have hr := H3 (by omega) ⟨b, z0, none⟩ es.length cap0 _ (by rw [hpl, hi1]) holds (by omega) h63 (by rw [hi2]; exact growslice_fits (by omega) hbytes)
    have hgr := grown _ cap0 hpl (RepR.pref _ r6 (Nat.le_refl _)) hmax
    exact ⟨_, _, some w.heap.size, hr, hgr, fun b' h => .inr (by cases h; exact ⟨Nat.le_refl _, by simp⟩), by simp, fun k hk _ => heap_alloc_old w.drew _ hk, rfl, rfl, rfl⟩
theorem append_run {P : Program} {w : World} {T ty e : TypeId} {y : Ty} (hT : P.underlying T = some (.slice e)) (hy : TyOK P e y) (hz : 0 < y.size) (hb : 0 < y.bytes) {I : Nat → Prop} (hI : ∀ b, I b → b < w.heap.size)
  {es ys : List (List D)} {v u : Value} {blk : Option Nat} (hv : OwnV e y.size I w.heap es v blk) (hnI : ∀ b, blk = some b → ¬ I b ∧ b < w.heap.size) (hu : SrcV I w.heap y.size ys u) (hbytes : (es.length + ys.length) * y.bytes ≤ 140737488355328) :
  ∃ v' w' blk', (Builtin.append_ #[T, T] ty #[v, u]).run P w = .ok v' w' ∧ OwnV e y.size I w'.heap (es ++ ys) v' blk' ∧ (∀ b, blk' = some b → blk = some b ∨ (w.heap.size ≤ b ∧ b < w'.heap.size)) ∧
   w.heap.size ≤ w'.heap.size ∧ (∀ k, k < w.heap.size → blk ≠ some k → w'.heap[k]? = w.heap[k]?) ∧ w'.os = w.os ∧ w'.tape = w.tape ∧ w'.output = w.output := by
 obtain ⟨i, z, hi, hi1, hi2, hi3, hi4⟩ := hy.info
 obtain ⟨ad, cap, rfl, hu⟩ := hu
 by_cases hy0 : ys = []
 ·subst hy0
  exact append_core (news := []) (ys := []) hi1 hi2 hi4 hy.len hb hI hv hnI (by simp) (by simp) (by rw [RepR]; trivial) hbytes (fun _ bd sLen sCap hle => append_zero hT hi ad bd sLen sCap cap hle) (fun h => absurd h (by simp))
   (fun h => absurd h (by simp)) (fun h => absurd h (by simp))
 ·obtain ⟨b2, off2, c2, T2, fr2, rfl, hc2, hr2⟩ := hu.resolve_left hy0
  obtain ⟨f1, f2⟩ := RepR.flat hr2 (RepR.len hr2)
  generalize hnews : (c2.toList.drop off2).take (ys.length * y.size) = news at f1 f2
  have hnl : news.length = ys.length * i.size := by
   rw [← hnews, hi1, List.length_take]
   have := RepR.len hr2; omega
  have hget : ∀ j x, news[j]? = some x → w.cell? ((⟨b2, off2, none⟩ : Addr).add j) = some x := by
   intro j x hj
   rw [addr_add, cell_at hc2]
   rw [← hnews, List.getElem?_take] at hj
   split at hj
   ·simpa using hj
   ·cases hj
  have hrys : RepR I w.heap y.size ys news := by
   have := RepR.mk (ws := []) (RepR.lens hr2) f1 f2
   simpa using this
  have hnewsz : news.length = ys.length * y.size := by rw [hnl, hi1]
  exact append_core hi1 hi2 hi4 hy.len hb hI hv hnI hnewsz f2 hrys hbytes (fun h => absurd (List.eq_nil_of_length_eq_zero h) hy0)
   (fun h1 h2 h3 => run_append_nil (P := P) w T ty e i z hT hi hi3 ⟨b2, off2, none⟩ ys.length cap news hnl hget h1 h2 h3)
   (fun _ g z0 sLen sCap cur hg h1 h2 => run_append_room_at (P := P) w T ty e i hT hi g z0 sLen sCap cur hg ⟨b2, off2, none⟩ ys.length cap news hnl hget f2 h1 h2)
   (fun _ b sLen sCap olds h1 h2 h3 h4 h5 => run_append_grow (P := P) w T ty e i z hT hi hi3 b sLen sCap olds h1 h2 ⟨b2, off2, none⟩ ys.length cap news hnl hget h3 h4 h5)
def strCells (s : ByteArray) : List Value := s.data.toList.map fun b => Value.int .u8 b.toNat
theorem str_arr (s : ByteArray) : Array.map (fun b : UInt8 => Value.int IntKind.u8 (b.toNat : Int)) s.data = (strCells s).toArray := by
 apply Array.ext'; simp [strCells]
theorem str_len (s : ByteArray) : (strCells s).length = s.size := by unfold strCells; rw [List.length_map]; rfl
theorem str_take (s : ByteArray) : List.take s.size (strCells s) = strCells s := List.take_of_length_le (Nat.le_of_eq (str_len s))
theorem bytesD_len (s : ByteArray) : (bytesD s).length = s.size := by unfold bytesD; rw [List.length_map]; rfl
theorem run_append_zero_str {P : Program} (w : World) {T U ty e : TypeId} {i : TypeInfo} (hT : P.underlying T = some (.slice e)) (hU : P.underlying U = some .string) (hi : P.info? e = some i) {s : ByteArray} (h0 : s.size = 0) (bd : Option Addr) (sLen sCap : Nat) (hle : sLen ≤ sCap) :
  (Builtin.append_ #[T, U] ty #[.slice bd sLen sCap, .string s]).run P w = .ok (.slice bd sLen sCap) w := by
 have hd : s.data = #[] := Array.eq_empty_of_size_eq_zero h0
 cases bd <;> simp [Builtin.append_, run_underlying hT, run_underlying hU, sizeOf, typeInfo, hi, Builtin.lenOf, Builtin.firstCells, h0, hle, storeCells, hd]
theorem run_append_room_str {P : Program} (w : World) (t U ty e : TypeId) (i : TypeInfo) (ht : P.underlying t = some (.slice e)) (hU : P.underlying U = some .string) (hi : P.info? e = some i)
  (g z sLen sCap : Nat) (cur : Array Value) (hg : w.heap[g]? = some (.cells cur e (0, 0))) (s : ByteArray)
  (hroom : sLen + s.size ≤ sCap) (hfit : z + sLen * i.size + (strCells s).length ≤ cur.size) :
  (Builtin.append_ #[t, U] ty #[.slice (some ⟨g, z, none⟩) sLen sCap, .string s]).run P w =
   .ok (.slice (some ⟨g, z, none⟩) (sLen + s.size) sCap) (w.setRow g (cur.toList.take (z + sLen * i.size) ++ strCells s ++ cur.toList.drop (z + sLen * i.size + (strCells s).length)).toArray) := by
 have hst := run_storeCells_at P g (z + sLen * i.size) e (strCells s) 0 cur w hg (by simpa using hfit) (fun v hv => by unfold strCells at hv; obtain ⟨b, _, rfl⟩ := List.mem_map.1 hv; rfl)
 simp only [Nat.add_zero] at hst
 simp [Builtin.append_, run_underlying ht, run_underlying hU, sizeOf, typeInfo, hi, Builtin.lenOf, hroom, Builtin.firstCells, str_arr, str_take, Addr.add_lit, hst]
theorem run_append_grow_str {P : Program} (w : World) (t U ty e : TypeId) (i : TypeInfo) (z : Value) (ht : P.underlying t = some (.slice e)) (hU : P.underlying U = some .string) (hi : P.info? e = some i) (hz : i.zero = some z)
  (b : Addr) (sLen sCap : Nat) (olds : List Value) (hlo : olds.length = sLen * i.size) (holds : ∀ j v, olds[j]? = some v → w.cell? (b.add j) = some v) (s : ByteArray)
  (hg : sCap < sLen + s.size) (h63 : ((sLen + s.size : Nat) : Int) ≤ 9223372036854775807) (hfit : Builtin.nextslicecap (sLen + s.size) sCap * i.bytes ≤ 281474976710656) :
  (Builtin.append_ #[t, U] ty #[.slice (some b) sLen sCap, .string s]).run P w =
   .ok (.slice (some ⟨w.heap.size, 0, none⟩) (sLen + s.size) (grownCap w (sLen + s.size) sCap e))
    (w.drew.alloc (.cells (olds.toArray ++ (strCells s).toArray ++ Builtin.zeroCells z.cells (grownCap w (sLen + s.size) sCap e - (sLen + s.size))) e)) := by
 have hn : ¬ (sLen + s.size ≤ sCap) := by omega
 have h63' : ¬ (9223372036854775807 < ((sLen : Int) + (s.size : Int))) := by omega
 have h48' : ¬ (281474976710656 < Builtin.nextslicecap (sLen + s.size) sCap * i.bytes) := by omega
 have hfo := run_firstCells_some (P := P) w.drew i.size sLen b sLen sCap olds hlo (by simpa using holds)
 have hlo2 : (loadCells b (sLen * i.size)).run P w.drew = .ok olds.toArray w.drew := by simpa [Builtin.firstCells] using hfo
 simp [Builtin.append_, run_underlying ht, run_underlying hU, sizeOf, typeInfo, zeroValue, hi, hz, Builtin.lenOf, hn, h63', h48', Question.forced, hlo2, newRow, grownCap, Builtin.firstCells, str_arr, str_take]
 congr 2
 apply Array.ext'
 simp [List.append_assoc]
theorem append_str {P : Program} {w : World} {T U ty e : TypeId} {y : Ty} (hT : P.underlying T = some (.slice e)) (hU : P.underlying U = some .string) (hy : TyOK P e y) (hz : y.size = 1) (hb : 0 < y.bytes) {I : Nat → Prop} (hI : ∀ b, I b → b < w.heap.size)
  {es : List (List D)} {v : Value} {blk : Option Nat} (hv : OwnV e y.size I w.heap es v blk) (hnI : ∀ b, blk = some b → ¬ I b ∧ b < w.heap.size) (s : ByteArray) (hbytes : (es.length + s.size) * y.bytes ≤ 140737488355328) :
  ∃ v' w' blk', (Builtin.append_ #[T, U] ty #[v, .string s]).run P w = .ok v' w' ∧ OwnV e y.size I w'.heap (es ++ bytesD s) v' blk' ∧ (∀ b, blk' = some b → blk = some b ∨ (w.heap.size ≤ b ∧ b < w'.heap.size)) ∧
   w.heap.size ≤ w'.heap.size ∧ (∀ k, k < w.heap.size → blk ≠ some k → w'.heap[k]? = w.heap[k]?) ∧ w'.os = w.os ∧ w'.tape = w.tape ∧ w'.output = w.output := by
 obtain ⟨i, z, hi, hi1, hi2, hi3, hi4⟩ := hy.info
 have hbl := bytesD_len s
 refine append_core (news := strCells s) (ys := bytesD s) hi1 hi2 hi4 hy.len hb hI hv hnI (by rw [str_len, hbl, hz, Nat.mul_one]) (fun v hv => by unfold strCells at hv; obtain ⟨b, _, rfl⟩ := List.mem_map.1 hv; rfl) ?_ (by rw [hbl]; exact hbytes)
  (fun h bd sLen sCap hle => run_append_zero_str w hT hU hi (by rw [← hbl]; exact h) bd sLen sCap hle) ?_ ?_ ?_
 ·rw [hz]
  unfold strCells bytesD
  generalize s.data.toList = l
  induction l with
  | nil => simp [RepR]
  | cons q l ih =>
   rw [List.map_cons, List.map_cons, RepR]
   exact ⟨rfl, RepL.cons (by rw [RepD]) RepL.nil, fun v hv => by simp at hv; rw [hv]; rfl, ih⟩
 ·rw [hbl]
  intro h1 h2 h3
  have := run_append_nil_string (P := P) w T U ty e i z hT hU hi hi3 s h1 h2 h3
  rw [str_arr] at this
  exact this
 ·rw [hbl]
  intro _ g z0 sLen sCap cur hg h1 h2
  exact run_append_room_str w T U ty e i hT hU hi g z0 sLen sCap cur hg s h1 h2
 ·rw [hbl]
  intro _ b sLen sCap olds h1 h2 h3 h4 h5
  exact run_append_grow_str w T U ty e i z hT hU hi hi3 b sLen sCap olds h1 h2 s h3 h4 h5
theorem RepR.raw {I : Nat → Prop} {h : Array Obj} : ∀ {ys : List (List D)} {vs : List Value}, RepR I h 1 ys vs → ∃ us, RepL I h ys.flatten us ∧ RepR I h 1 (rawE us) vs ∧ us.length = ys.length
 | [], vs, _ => ⟨[], RepL.nil, by simp [rawE, RepR], rfl⟩
 | el :: ys, vs, r => by
  rw [RepR] at r
  obtain ⟨r1, r2, r3, r4⟩ := r
  obtain ⟨us, q1, q2, q3⟩ := RepR.raw r4
  match el, r1 with
  | [d], _ =>
   obtain ⟨u, q, e1, e2, e3⟩ := RepL.uncons r2
   rw [RepL] at e3
   subst e3
   refine ⟨u :: us, RepL.cons e2 q1, ?_, by rw [List.length_cons, List.length_cons, q3]⟩
   show RepR I h 1 ([.v u] :: rawE us) vs
   rw [RepR]
   exact ⟨rfl, by rw [e1]; exact RepL.cons (by rw [RepD]) RepL.nil, r3, q2⟩
theorem zeroCells_toList (z : Array Value) : ∀ n : Nat, (Builtin.zeroCells z n).toList = (List.replicate n z.toList).flatten
 | 0 => by simp [Builtin.zeroCells]
 | k + 1 => by
  have ih := zeroCells_toList z k
  simp only [Builtin.zeroCells, Array.toList_map, Array.toList_range] at ih ⊢
  rw [Nat.add_mul, Nat.one_mul, Nat.add_comm, List.range_add, List.map_append, List.map_map, List.replicate_succ, List.flatten_cons, ← ih]
  congr 1
  ·apply List.ext_getElem
   ·simp
   ·intro i h1 h2
    simp only [List.length_map, List.length_range] at h1
    simp [Nat.mod_eq_of_lt h1, h1]
  ·apply List.map_congr_left
   intro j _
   simp [Nat.add_mod_left]
theorem rep_repl {I : Nat → Prop} {h : Array Obj} {l : List D} {vs : List Value} (r : RepL I h l vs) : ∀ n : Nat, RepL I h (List.replicate n l).flatten (List.replicate n vs).flatten
 | 0 => by simpa using RepL.nil
 | n + 1 => by
  rw [List.replicate_succ, List.replicate_succ, List.flatten_cons, List.flatten_cons]
  exact RepL.append r (rep_repl r n)
theorem append_count {P : Program} {w : World} {T T' ty e : TypeId} {y : Ty} {k : IntKind} (hT : P.underlying T = some (.slice e)) (hT' : P.underlying T' = some (.int k)) (hy : TyOK P e y) (hz : 0 < y.size) (hb : 0 < y.bytes) (I : Nat → Prop) {n : Nat} (hbytes : n * y.bytes ≤ 140737488355328) (k' : IntKind) :
  ∃ v' w' blk', (Builtin.append_ #[T, T'] ty #[.slice none 0 0, .int k' n]).run P w = .ok v' w' ∧ OwnV e y.size I w'.heap (List.replicate n (y.zero.map D.v)) v' blk' ∧ (∀ b, blk' = some b → w.heap.size ≤ b ∧ b < w'.heap.size) ∧ Below w.heap.size w w' := by
 obtain ⟨i, z, hi, hi1, hi2, hi3, hi4⟩ := hy.info
 have hlen : z.cells.size = y.size := by have := hy.len; rw [← hi4] at this; simpa using this
 have hn : n ≤ 140737488355328 := Nat.le_trans (Nat.le_mul_of_pos_right _ hb) hbytes
 have hw : IntKind.i64.wrap (n : Int) = n := by simp [IntKind.wrap, IntKind.bits, IntKind.signed]; omega
 by_cases h0 : n = 0
 ·subst h0
  refine ⟨.slice none 0 0, w, none, ?_, .inl ⟨rfl, rfl, rfl⟩, by simp, Below.refl _ _⟩
  simp [Builtin.append_, run_underlying hT, run_underlying hT', sizeOf, typeInfo, hi, asInt, asIntOf, IntKind.wrap, IntKind.bits, IntKind.signed]
 ·have h63 : ¬ (9223372036854775807 < (n : Int)) := by omega
  have hmul : (n : Int) * (i.bytes : Int) ≤ 140737488355328 := by rw [hi2, ← Int.natCast_mul]; exact Int.ofNat_le.2 hbytes
  have h48' : ¬ (281474976710656 < Builtin.nextslicecap n 0 * i.bytes) := by rw [nextslicecap_zero (by omega), hi2]; omega
  have h48 : ¬ (281474976710656 < (n : Int) * (i.bytes : Int)) := by omega
  have hns : ¬ (n * i.size = 0) := by rw [hi1]; exact Nat.mul_ne_zero h0 (by omega)
  have hneg : ¬ ((n : Int) < 0) := by omega
  have hpow : (2 : Int) ^ 48 = 281474976710656 := by decide
  have hr : (Builtin.append_ #[T, T'] ty #[.slice none 0 0, .int k' n]).run P w = .ok (.slice (some ⟨w.heap.size, 0, none⟩) n (grownCap w n 0 e)) (w.drew.alloc (.cells (Builtin.zeroCells z.cells n ++ Builtin.zeroCells z.cells (grownCap w n 0 e - n)) e)) := by
   simp [-Int.reducePow, hpow, Builtin.append_, run_underlying hT, run_underlying hT', sizeOf, typeInfo, zeroValue, hi, hi3, asInt, asIntOf, hw, h0, h63, h48, h48', hns, hneg, Question.forced, run_firstCells_none, newRow, grownCap]
  have hge := grownCap_ge w n 0 e
  refine ⟨_, _, some w.heap.size, hr, .inr ⟨w.heap.size, 0, _, _, by rw [List.length_replicate], rfl, heap_alloc_new w.drew _, by rw [List.length_replicate]; exact hge, grownCap_le_maxLen w _ 0 e (by simp only [maxLen]; omega), ?_, ?_⟩, fun b hb => by cases hb; exact ⟨Nat.le_refl _, by simp⟩, ⟨rfl, rfl, rfl, by simp, fun k hk => heap_alloc_old w.drew _ hk⟩⟩
  ·rw [Nat.zero_add]
   refine Nat.le_of_eq (Eq.symm ?_)
   simp only [Array.size_append, size_zeroCells, hlen, ← Nat.add_mul]
   congr 1; omega
  ·rw [List.drop_zero, Array.toList_append, zeroCells_toList]
   have h1 : RepL I (w.drew.alloc (.cells (Builtin.zeroCells z.cells n ++ Builtin.zeroCells z.cells (grownCap w n 0 e - n)) e)).heap (List.replicate n (y.zero.map D.v)).flatten (List.replicate n z.cells.toList).flatten := by
    rw [hi4]
    have : ∀ l : List Value, RepL I (w.drew.alloc (.cells (Builtin.zeroCells z.cells n ++ Builtin.zeroCells z.cells (grownCap w n 0 e - n)) e)).heap (l.map D.v) l := by
     intro l
     induction l with
     | nil => exact RepL.nil
     | cons v l ih => exact RepL.cons (by rw [RepD]) ih
    exact rep_repl (this y.zero) n
   have h2 : ∀ v ∈ (List.replicate n z.cells.toList).flatten, v.oneCell' = true := by
    intro v hv
    obtain ⟨l, hl, hv⟩ := List.mem_flatten.1 hv
    rw [(List.mem_replicate.1 hl).2, hi4] at hv
    exact hy.one v hv
   exact RepR.mk (fun el he => by rw [(List.mem_replicate.1 he).2, List.length_map]; exact hy.len) h1 h2
section
variable {tb : TB} {X : Ctx} {P : Program} {Wn : Nat} {Y : Nat → List D → Bool → Prop} {F : Fence} {n : Nat} {g : Nat → A} {o : Nat → Option Ob} {a : Act} {w : World} {G : Nat → Option GR} {I : Nat → Prop} {oper : Oper} {K : Eff → Prop} {nid : Nat}
variable (hP : PG P tb) (hF : Wide F) (m : Mod tb X g o a w G I) (hdst : ∀ d, oper.dst = some d → d < X.nt)
include hP hF m hdst
omit hP hF hdst in
theorem Mod.src {x : Operand} {ys : List (List D)} {rd : List Nat} (hel : elemsOf o (opA g x) = some (ys, rd)) {sz : Nat} (hsz : ∀ el ∈ ys, el.length = sz) : SrcV I w.heap sz ys (a.eval x) := by
 have rx := m.eval x
 unfold elemsOf at hel
 split at hel
 ·rename_i es' hxx
  simp only [Option.some.injEq, Prod.mk.injEq] at hel
  obtain ⟨rfl, _⟩ := hel
  rw [hxx, RepA, RepD] at rx
  obtain ⟨ad, len, cap, hu, h1, h2, h3⟩ := rx
  refine ⟨ad, cap, by rw [hu, h1], ?_⟩
  rcases h3 with h3 | ⟨sz', b, off, c, T, fr, h4, h5, h6, h7⟩
  ·exact .inl (List.eq_nil_of_length_eq_zero (by omega))
  ·cases es' with
   | nil => exact .inl rfl
   | cons e es' =>
    have e1 := hsz e (by simp)
    have e2 := RepR.lens h7 e (by simp)
    have : sz' = sz := by omega
    subst this
    exact .inr ⟨b, off, c, T, fr, h4, h6, h7⟩
 ·rename_i hxx
  simp only [Option.some.injEq, Prod.mk.injEq] at hel
  obtain ⟨rfl, _⟩ := hel
  rw [hxx, RepA, RepD] at rx
  exact ⟨none, 0, by rw [rx]; rfl, .inl rfl⟩
 ·rename_i i hxx
  split at hel
  ·rename_i T' es' ho
   simp only [Option.some.injEq, Prod.mk.injEq] at hel
   obtain ⟨rfl, _⟩ := hel
   rw [hxx, RepA] at rx
   obtain ⟨⟨gr, hg, hu⟩, _⟩ := rx
   obtain ⟨y, hy, hob⟩ := m.objs i _ ho
   rcases hob with ⟨rfl, h2⟩ | ⟨b, z0, cap, c, h2, h3, h4, h5, h6, h7⟩
   ·rw [hg] at h2; cases h2; exact ⟨none, 0, hu, .inl rfl⟩
   ·rw [hg] at h2; cases h2
    refine ⟨_, cap, hu, ?_⟩
    cases es' with
    | nil => exact .inl rfl
    | cons e es' =>
     have e1 := hsz e (by simp)
     have e2 := RepR.lens h7 e (by simp)
     rw [← e2, e1] at h7
     exact .inr ⟨b, z0, c, T', (0, 0), rfl, h3, h7⟩
  ·cases hel
 ·rename_i i hi' hxx
  split at hel
  ·rename_i T' es' ho
   simp only [Option.some.injEq, Prod.mk.injEq] at hel
   obtain ⟨rfl, _⟩ := hel
   rw [hxx, RepA] at rx
   obtain ⟨gr, ad, len, cap, hg, hvv, hle, hu⟩ := rx
   obtain ⟨y, hy, hob⟩ := m.objs i _ ho
   rcases hob with ⟨rfl, h2⟩ | ⟨b, z0, cap, c, h2, h3, h4, h5, h6, h7⟩
   ·rw [hg] at h2; cases h2; cases hvv
    have : hi' = 0 := by omega
    subst this
    exact ⟨none, 0, hu, .inl rfl⟩
   ·rw [hg] at h2; cases h2; cases hvv
    refine ⟨some ⟨b, z0, none⟩, cap, by rw [hu, List.length_take, Nat.min_eq_left hle], ?_⟩
    have h8 := RepR.takes h7 hi'
    cases e0 : es'.take hi' with
    | nil => exact .inl rfl
    | cons e es2 =>
     rw [e0] at h8 hsz
     have e1 := hsz e (by simp)
     have e2 := RepR.lens h8 e (by simp)
     rw [← e2, e1] at h8
     exact .inr ⟨b, z0, c, T', (0, 0), rfl, h3, h8⟩
  ·cases hel
 ·cases hel
theorem snd_convert {s d : TypeId} {x : Operand} (hop : oper.op = .convert s d x) (h : effOp tb (Con P tb Wn Y) (.convert s d x) oper.dst g o nid K) : ∃ e, K e ∧ Does tb X P F n g o a w oper e := by
 have hd : ∀ c, oper.op ≠ .defer c := by simp [hop]
 have rx := m.eval x
 simp only [effOp] at h
 split at h
 ·rename_i _ _ _ _ _ k _ _ _ _ hs hdd
  have hk1 := (hP.ty s _ hs).kind
  have hk2 := (hP.ty d _ hdd).kind
  simp only [TKOK] at hk1 hk2
  unfold isInt at h
  split at h
  ·rename_i k' q hx
   rw [hx, RepA, RepD] at rx
   refine fin_put hF hd (v := .int k (k.wrap q)) ?_ m (by unfold intRes; rw [RepA, RepD]) hdst h
   simp [execOp, hop, rx, convert, run_und hk1, run_und hk2, Conv.intToInt]
  ·exact h.elim
 ·rename_i e _ _ _ _ _ _ _ _ hs hdd
  have hk1 := (hP.ty s _ hs).kind
  have hk2 := (hP.ty d _ hdd).kind
  simp only [TKOK] at hk1 hk2
  split at h
  ·rename_i _ _ _ _ es rd hte hel
   have hke := (hP.ty e _ hte).kind
   simp only [TKOK] at hke
   obtain ⟨str, hes, h⟩ := h
   have hl1 : ∀ el ∈ es, el.length = 1 := by
    intro el he
    rw [hes] at he
    unfold bytesD at he
    obtain ⟨c, _, rfl⟩ := List.mem_map.1 he
    rfl
   obtain ⟨ad, cap, hu, hsrc⟩ := Mod.src m hel hl1
   have hrun : (execOp a.eval oper).run P w = .ok (.value (.string str)) w := by
    have hc : (convert s d (a.eval x)).run P w = .ok (.string str) w := by
     rw [hu, run_convert_bytes_string w s d e ad es.length cap hk1 hke hk2]
     rcases hsrc with h0 | ⟨b, off, c, T, fr, rfl, hc, hr⟩
     ·have hz : str = ByteArray.empty := by
       rw [h0] at hes
       unfold bytesD at hes
       have := List.map_eq_nil_iff.1 hes.symm
       apply ByteArray.ext
       exact Array.toList_eq_nil_iff.1 this |>.trans rfl
      subst hz
      rw [h0]
      cases ad with
      | none => simp [Conv.bytesToString]
      | some q => simp [Conv.bytesToString, loadCells, loadCellsFrom]
     ·obtain ⟨f1, f2⟩ := RepR.flat hr (RepR.len hr)
      have hload : (loadCells ⟨b, off, none⟩ es.length).run P w = .ok ((str.data.toList.map fun q : UInt8 => (q.toNat : Int)).map (Value.int .u8)).toArray w := by
       have hv : (c.toList.drop off).take (es.length * 1) = (str.data.toList.map fun q : UInt8 => (q.toNat : Int)).map (Value.int .u8) := by
        rw [hes] at f1 ⊢
        exact RepL.bytes f1
       rw [← hv, Nat.mul_one]
       have hlv : ((c.toList.drop off).take es.length).length = es.length := by
        have := RepR.len hr
        rw [List.length_take]; omega
       have := run_loadCells_list (P := P) (w := w) ⟨b, off, none⟩ ((c.toList.drop off).take es.length) (fun j u hj => by
        rw [addr_add, cell_at hc]
        rw [List.getElem?_take] at hj
        split at hj
        ·simpa using hj
        ·cases hj)
       rwa [hlv] at this
      have := run_bytesToString (P := P) w ⟨b, off, none⟩ es.length cap _ hload
      rw [this]
      congr 2
      have key : ∀ (bs : List UInt8) (r : ByteArray), (bs.map fun q : UInt8 => (q.toNat : Int)).foldl (fun r n => r.push (UInt8.ofNat n.toNat)) r = ⟨r.data ++ bs.toArray⟩ := by
       intro bs
       induction bs with
       | nil => intro r; simp
       | cons q bs ih =>
        intro r
        simp only [List.map_cons, List.foldl_cons]
        rw [ih]
        apply ByteArray.ext
        simp [ByteArray.push]
      rw [key]
      apply ByteArray.ext
      simp
    simp [execOp, hop, hc]
   exact fin_put hF hd hrun m (by rw [RepA, RepD]) hdst h
  ·exact h.elim
 ·exact h.elim
theorem snd_append {c : Call} (hop : oper.op = .call c) (hc : c.callee = .builtin .append) (hn : o nid = none) (hnb : X.nb ≤ nid) (h : effOp tb (Con P tb Wn Y) (.call c) oper.dst g o nid K) : ∃ e, K e ∧ Does tb X P F n g o a w oper e := by
 have hd : ∀ c, oper.op ≠ .defer c := by simp [hop]
 simp only [effOp, hc] at h
 split at h
 ·rename_i s x T T' d hx hT hdd
  have hargs : c.args = #[s, x] := by apply Array.ext'; simpa using hx
  have htys : c.argTypes = #[T, T'] := by apply Array.ext'; simpa using hT
  split at h
  ·rename_i e s1 s2 z bk hTy
   have hk := (hP.ty T _ hTy).kind
   simp only [TKOK] at hk
   split at h
   ·rename_i y ys rd hy hel
    by_cases hb : (Nat.beq T T' && Nat.blt 0 y.size && Nat.blt 0 y.bytes) = true
    ·rw [hb] at h
     rw [Bool.and_eq_true, Bool.and_eq_true] at hb
     obtain ⟨⟨hb1, hb2⟩, hb3⟩ := hb
     have hb1 := Nat.eq_of_beq_eq_true hb1
     subst hb1
     have hb2 : 0 < y.size := Nat.le_of_ble_eq_true hb2
     have hb3 : 0 < y.bytes := Nat.le_of_ble_eq_true hb3
     have hTyE := hP.ty e y hy
     have hrun : ∀ v' w', (Builtin.append_ #[T, T] oper.type #[a.eval s, a.eval x]).run P w = .ok v' w' → (execOp a.eval oper).run P w = .ok (.value v') w' := by
      intro v' w' hr
      simp [execOp, hop, resolve, hc, hargs, htys, invoke, builtin, hr]
     have rs := m.eval s
     simp only [cond_true] at h
     split at h
     ·-- onto nil
      rename_i hs
      obtain ⟨h1, h2, h⟩ := h
      rw [hs, RepA, RepD] at rs
      obtain ⟨v', w', blk', g1, g2, g3, g4, g5, g6, g7, g8⟩ := append_run (ty := oper.type) hk hTyE hb2 hb3 m.isz (es := []) (v := a.eval s) (blk := none) (.inl ⟨rfl, rs, rfl⟩) (by simp) (m.src hel h1) (by simpa using h2)
      refine ⟨_, h, fun next Q hK => wpIn_value hF hd (hrun _ _ g1) ?_⟩
      have hbel : Below w.heap.size w w' := ⟨g6, g7, g8, g4, fun k hk => g5 k hk (by simp)⟩
      have m2 := m.mk' hn hnb (gr := ⟨v', blk'⟩) (ob := .arr e ys) hbel (fun b hb => (g3 b hb).resolve_left (by simp)) (OwnV.ob hy updG_self (by simpa using g2))
      have m3 := m2.put (d := d) (x := .own nid) (v := v') (hdst d hdd) (by rw [RepA]; exact ⟨⟨_, updG_self, rfl⟩, g2.one⟩)
      rw [hdd]
      refine hK _ _ (updG G nid ⟨v', blk'⟩) I ?_
      rw [appO_one rfl rfl rfl]
      exact m3
     ·-- onto a slice of the frame's own
      rename_i i hs
      split at h
      ·rename_i e' es ho
       by_cases hb' : (Nat.beq e e' && !rd.contains i) = true
       ·rw [hb'] at h
        rw [Bool.and_eq_true] at hb'
        have he := Nat.eq_of_beq_eq_true hb'.1
        subst he
        obtain ⟨h1, h2, h⟩ := h
        rw [hs, RepA] at rs
        obtain ⟨⟨gr, hg, hu⟩, _⟩ := rs
        obtain ⟨gr', hg', hown⟩ := ObOK.ownV hy (m.objs i _ ho)
        rw [hg] at hg'; cases hg'
        rw [← hu] at hown
        obtain ⟨v', w', blk', g1, g2, g3, g4, g5, g6, g7, g8⟩ := append_run (ty := oper.type) hk hTyE hb2 hb3 m.isz hown (fun b hb => by
         obtain ⟨q1, q2, _⟩ := m.own i _ gr b ho rfl hg hb
         exact ⟨q1, q2⟩) (m.src hel h1) h2
        have h : bif Nat.beq Wn 8 then K ⟨some (d, .own nid), [(nid, .arr e (es ++ ys)), (i, .dead)], i :: rd, 1, [], []⟩
           else K ⟨some (d, .own i), [(i, .arr e (es ++ ys))], i :: rd, 0, [], [i]⟩ := h
        cases hWn : Nat.beq Wn 8 with
        | true =>
        rw [hWn, cond_true] at h
        refine ⟨_, h, fun next Q hK => wpIn_value hF hd (hrun _ _ g1) ?_⟩
        have hin : i ≠ nid := fun e => by subst e; rw [ho] at hn; cases hn
        have m2 := m.move ho rfl hn hnb (gr' := ⟨v', blk'⟩) hg g4 g5 g6 g7 g8 g3 (OwnV.ob hy updG_self g2)
        have m3 := m2.put (d := d) (x := .own nid) (v := v') (hdst d hdd) (by rw [RepA]; exact ⟨⟨_, updG_self, rfl⟩, g2.one⟩)
        rw [hdd]
        refine hK _ _ (updG G nid ⟨v', blk'⟩) I ?_
        have e1 : appO ⟨some (d, .own nid), [(nid, .arr e (es ++ ys)), (i, .dead)], i :: rd, 1, [], []⟩ o = updO (updO o i .dead) nid (.arr e (es ++ ys)) := by
         funext j
         simp only [appO, lookO, updO, trO]
         cases Nat.beq nid j <;> cases Nat.beq i j <;> cases o j <;> rfl
        rw [e1]
        exact m3
        | false =>
        rw [hWn, cond_false] at h
        refine ⟨_, h, fun next Q hK => wpIn_value hF hd (hrun _ _ g1) ?_⟩
        have hib : X.nb ≤ i ∨ X.ba i = true := by
         rcases Nat.lt_or_ge i X.nb with h3 | h3
         ·cases hba : X.ba i with
          | true => exact .inr rfl
          | false => exact absurd ho (m.barr i _ _ h3 hba)
         ·exact .inl h3
        have m2 := m.turn ho rfl hib (gr' := ⟨v', blk'⟩) hg g4 g5 g6 g7 g8 g3 (OwnV.ob hy updG_self g2)
        have m3 := m2.put (d := d) (x := .own i) (v := v') (hdst d hdd) (by rw [RepA]; exact ⟨⟨_, updG_self, rfl⟩, g2.one⟩)
        rw [hdd]
        refine hK _ _ (updG G i ⟨v', blk'⟩) I ?_
        have e1 : appO ⟨some (d, .own i), [(i, .arr e (es ++ ys))], i :: rd, 0, [], [i]⟩ o = updO (fun j => (o j).map (clrO [i])) i (.arr e (es ++ ys)) := by
         funext j
         simp only [appO, lookO, updO, trO]
         cases Nat.beq i j <;> simp
        rw [e1]
        exact m3
       ·rw [Bool.not_eq_true] at hb'; rw [hb'] at h; exact h.elim
      ·-- data onto cells
       rename_i e' cs ho
       by_cases hb' : (Nat.beq e e' && Nat.beq y.size 1 && !rd.contains i && !Nat.beq Wn 8) = true
       ·have hh : bif (Nat.beq e e' && Nat.beq y.size 1 && !rd.contains i && !Nat.beq Wn 8) then _ else False := h
        rw [hb', cond_true] at hh
        clear h
        simp only [Bool.and_eq_true] at hb'
        obtain ⟨⟨⟨b1, b2⟩, b3⟩, b4⟩ := hb'
        have he := Nat.eq_of_beq_eq_true b1
        subst he
        have hsz := Nat.eq_of_beq_eq_true b2
        obtain ⟨h1, h2, cs', hcs', h⟩ := hh
        obtain ⟨ui, r2, hi2⟩ := m.objs i _ ho
        have hil : ui.length = cs.length := RepAL.length r2
        have hrl : ∀ l : List Value, (rawE l).length = l.length := fun l => by unfold rawE; simp
        rw [hs, RepA] at rs
        obtain ⟨⟨gr, hg, hu⟩, _⟩ := rs
        obtain ⟨gr', hg', hown⟩ := ObOK.ownV hy (es := rawE ui) hi2
        rw [hg] at hg'; cases hg'
        rw [← hu] at hown
        obtain ⟨uq, r1, hsrc, hql⟩ : ∃ uq, RepL I w.heap ys.flatten uq ∧ SrcV I w.heap y.size (rawE uq) (a.eval x) ∧ uq.length = ys.length := by
         obtain ⟨ad, cap, hu1, hu2⟩ := m.src hel h1
         rcases hu2 with hu2 | ⟨b, off, c, T0, fr, q1, q2, q3⟩
         ·subst hu2
          exact ⟨[], RepL.nil, ⟨ad, cap, hu1, .inl rfl⟩, rfl⟩
         ·rw [hsz] at q3
          obtain ⟨us, p1, p2, p3⟩ := RepR.raw q3
          exact ⟨us, p1, ⟨ad, cap, by rw [hu1, hrl, p3], .inr ⟨b, off, c, T0, fr, q1, q2, by rw [hsz]; exact p2⟩⟩, p3⟩
        have hG0 : G nid = none := by
         cases h : G nid with
         | none => rfl
         | some x => have := m.dom nid x h; rw [hn] at this; cases this
        have hGm : ∀ gr' j x, G j = some x → updG G nid gr' j = some x := fun gr' j x hx => by
         rw [updG_ne (fun e => by subst e; rw [hG0] at hx; cases hx)]; exact hx
        obtain ⟨v', w', blk', g1, g2, g3, g4, g5, g6, g7, g8⟩ := append_run (ty := oper.type) hk hTyE (by omega) hb3 m.isz hown (fun b hb => by
         obtain ⟨q1, q2, _⟩ := m.own i _ gr b ho rfl hg hb
         exact ⟨q1, q2⟩) hsrc (by simpa [hrl, hql, hil] using h2)
        have hraw : rawE ui ++ rawE uq = rawE (ui ++ uq) := by unfold rawE; simp
        rw [hraw] at g2
        refine ⟨_, h, fun next Q hK => wpIn_value hF hd (hrun _ _ g1) ?_⟩
        have m2 := m.move ho rfl hn hnb (gr' := ⟨v', blk'⟩) hg g4 g5 g6 g7 g8 g3 (ob := .arw e cs')
         ⟨ui ++ uq, by
          rw [← hcs']
          exact RepAL.mono (hGm _) (fun _ h => h) (fun b hb => g5 b (m.isz b hb) (fun e => (m.own i _ gr b ho rfl hg e).1 hb)) _ _ (RepAL.append r2 (RepAL.of_d.2 r1)), OwnV.ob hy updG_self g2⟩
        have m3 := m2.put (d := d) (x := .own nid) (v := v') (hdst d hdd) (by rw [RepA]; exact ⟨⟨_, updG_self, rfl⟩, g2.one⟩)
        rw [hdd]
        refine hK _ _ (updG G nid ⟨v', blk'⟩) I ?_
        have e1 : appO ⟨some (d, .own nid), [(nid, .arw e cs'), (i, .dead)], i :: rd, 1, [], []⟩ o = updO (updO o i .dead) nid (.arw e cs') := by
         funext j
         simp only [appO, lookO, updO, trO]
         cases Nat.beq nid j <;> cases Nat.beq i j <;> cases o j <;> rfl
        rw [e1]
        exact m3
       ·exfalso
        have h : bif (Nat.beq e e' && Nat.beq y.size 1 && !rd.contains i && !Nat.beq Wn 8) then _ else False := h
        rw [Bool.not_eq_true] at hb'; rw [hb'] at h; exact h.elim
      ·exact h.elim
     ·exact h.elim
    ·rw [Bool.not_eq_true] at hb; rw [hb] at h; exact h.elim
   ·rename_i y hy hel
    have hTyE := hP.ty e y hy
    have hrun : ∀ v' w', (Builtin.append_ #[T, T'] oper.type #[a.eval s, a.eval x]).run P w = .ok v' w' → (execOp a.eval oper).run P w = .ok (.value v') w' := by
     intro v' w' hr
     simp [execOp, hop, resolve, hc, hargs, htys, invoke, builtin, hr]
    have rs := m.eval s
    have rx := m.eval x
    split at h
    ·-- a number of zero values
     rename_i kx k hxx
     split at h
     ·rename_i kk _ _ _ _ hs hT2
      by_cases hb : (Nat.blt 0 y.size && Nat.blt 0 y.bytes && !Nat.beq (Con P tb Wn Y).w 8) = true
      ·rw [hb, cond_true] at h
       rw [Bool.and_eq_true] at hb
       have hb := hb.1
       rw [Bool.and_eq_true] at hb
       have hk2 := (hP.ty T' _ hT2).kind
       simp only [TKOK] at hk2
       obtain ⟨n', rfl, h2, es, hes, h⟩ := h
       rw [hs, RepA, RepD] at rs
       rw [hxx, RepA, RepD] at rx
       obtain ⟨v', w', blk', g1, g2, g3, g4⟩ := append_count (ty := oper.type) (w := w) hk hk2 hTyE (Nat.le_of_ble_eq_true hb.1) (Nat.le_of_ble_eq_true hb.2) I h2 kx
       rw [hes] at g2
       refine ⟨_, h, fun next Q hK => wpIn_value hF hd (hrun v' w' (by rw [rs, rx]; exact g1)) ?_⟩
       have m2 := m.mk' hn hnb (gr := ⟨v', blk'⟩) (ob := .arr e es) g4 (fun b hb => g3 b hb) (OwnV.ob hy updG_self g2)
       have m3 := m2.put (d := d) (x := .own nid) (v := v') (hdst d hdd) (by rw [RepA]; exact ⟨⟨_, updG_self, rfl⟩, g2.one⟩)
       rw [hdd]
       refine hK _ _ (updG G nid ⟨v', blk'⟩) I ?_
       rw [appO_one rfl rfl rfl]
       exact m3
      ·rw [Bool.not_eq_true] at hb; rw [hb] at h; exact h.elim
     ·exact h.elim
    ·rename_i q hxx
     split at h
     ·rename_i e2 ys hq
      by_cases hb : (Nat.beq T T' && Nat.beq e e2 && Nat.beq y.size 1 && Nat.blt 0 y.bytes && !Nat.beq Wn 8) = true
      ·have hh : (match opA g s with
         | .d (.v (.slice none 0 0)) => ys.length * y.bytes ≤ 140737488355328 ∧ K ⟨some (d, .own nid), [(nid, .arw e ys)], [q], 1, [], []⟩
         | .own i => (match o i with
          | some (.arw e' cs) => bif Nat.beq e e' && !Nat.beq q i then
            (cs.length + ys.length) * y.bytes ≤ 140737488355328 ∧ ∃ cs', cs ++ ys = cs' ∧ K ⟨some (d, .own nid), [(nid, .arw e cs'), (i, .dead)], [i, q], 1, [], []⟩
           else False
          | _ => False)
         | _ => False) := by
        have h : (bif (Nat.beq T T' && Nat.beq e e2 && Nat.beq y.size 1 && Nat.blt 0 y.bytes && !Nat.beq Wn 8) then _ else False) := h
        rw [hb, cond_true] at h; exact h
       clear h
       simp only [Bool.and_eq_true] at hb
       obtain ⟨⟨⟨⟨b1, b2⟩, b3⟩, b4⟩, b5⟩ := hb
       have b1 := Nat.eq_of_beq_eq_true b1
       have b2 := Nat.eq_of_beq_eq_true b2
       have b3 := Nat.eq_of_beq_eq_true b3
       have b4 : 0 < y.bytes := Nat.le_of_ble_eq_true b4
       subst b1 b2
       obtain ⟨uq, r1, hq2⟩ := m.objs q _ hq
       have hql : uq.length = ys.length := RepAL.length r1
       have hrl : ∀ l : List Value, (rawE l).length = l.length := fun l => by unfold rawE; simp
       rw [hxx, RepA] at rx
       obtain ⟨⟨grq, hgq, huq⟩, _⟩ := rx
       have hsrc : SrcV I w.heap y.size (rawE uq) (a.eval x) := by
        obtain ⟨y', hy', hob⟩ := hq2
        rw [hy] at hy'; cases hy'
        rcases hob with ⟨h1, h2⟩ | ⟨b, z0, cap, c, h2, h3, h4, h5, h6, h7⟩
        ·rw [hgq] at h2; cases h2; rw [h1]; exact ⟨none, 0, huq, .inl rfl⟩
        ·rw [hgq] at h2; cases h2
         exact ⟨_, cap, huq, .inr ⟨b, z0, c, e, (0, 0), rfl, h3, h7⟩⟩
       have hG0 : G nid = none := by
        cases h : G nid with
        | none => rfl
        | some x => have := m.dom nid x h; rw [hn] at this; cases this
       have hGm : ∀ gr' j x, G j = some x → updG G nid gr' j = some x := fun gr' j x hx => by
        rw [updG_ne (fun e => by subst e; rw [hG0] at hx; cases hx)]; exact hx
       split at hh
       ·rename_i hs
        obtain ⟨h2, h⟩ := hh
        rw [hs, RepA, RepD] at rs
        obtain ⟨v', w', blk', g1, g2, g3, g4, g5, g6, g7, g8⟩ := append_run (ty := oper.type) hk hTyE (by omega) b4 m.isz (es := []) (v := a.eval s) (blk := none) (.inl ⟨rfl, rs, rfl⟩) (by simp) hsrc (by simpa [hrl, hql] using h2)
        refine ⟨_, h, fun next Q hK => wpIn_value hF hd (hrun _ _ g1) ?_⟩
        have hbel : Below w.heap.size w w' := ⟨g6, g7, g8, g4, fun k hk => g5 k hk (by simp)⟩
        have m2 := m.mk' hn hnb (gr := ⟨v', blk'⟩) (ob := .arw e ys) hbel (fun b hb => (g3 b hb).resolve_left (by simp))
         ⟨uq, RepAL.mono (hGm _) (fun _ h => h) (fun b hb => hbel.block b (m.isz b hb)) _ _ r1, OwnV.ob hy updG_self (by simpa using g2)⟩
        have m3 := m2.put (d := d) (x := .own nid) (v := v') (hdst d hdd) (by rw [RepA]; exact ⟨⟨_, updG_self, rfl⟩, g2.one⟩)
        rw [hdd]
        refine hK _ _ (updG G nid ⟨v', blk'⟩) I ?_
        rw [appO_one rfl rfl rfl]
        exact m3
       ·rename_i i hs
        split at hh
        ·rename_i e' cs ho
         by_cases hb' : (Nat.beq e e' && !Nat.beq q i) = true
         ·rw [hb', cond_true] at hh
          rw [Bool.and_eq_true] at hb'
          have he := Nat.eq_of_beq_eq_true hb'.1
          subst he
          obtain ⟨h2, cs', hcs', h⟩ := hh
          obtain ⟨ui, r2, hi2⟩ := m.objs i _ ho
          have hil : ui.length = cs.length := RepAL.length r2
          rw [hs, RepA] at rs
          obtain ⟨⟨gr, hg, hu⟩, _⟩ := rs
          obtain ⟨gr', hg', hown⟩ := ObOK.ownV hy (es := rawE ui) hi2
          rw [hg] at hg'; cases hg'
          rw [← hu] at hown
          obtain ⟨v', w', blk', g1, g2, g3, g4, g5, g6, g7, g8⟩ := append_run (ty := oper.type) hk hTyE (by omega) b4 m.isz hown (fun b hb => by
           obtain ⟨q1, q2, _⟩ := m.own i _ gr b ho rfl hg hb
           exact ⟨q1, q2⟩) hsrc (by simpa [hrl, hql, hil] using h2)
          have hraw : rawE ui ++ rawE uq = rawE (ui ++ uq) := by unfold rawE; simp
          rw [hraw] at g2
          refine ⟨_, h, fun next Q hK => wpIn_value hF hd (hrun _ _ g1) ?_⟩
          have m2 := m.move ho rfl hn hnb (gr' := ⟨v', blk'⟩) hg g4 g5 g6 g7 g8 g3 (ob := .arw e cs')
           ⟨ui ++ uq, by
            rw [← hcs']
            exact RepAL.mono (hGm _) (fun _ h => h) (fun b hb => g5 b (m.isz b hb) (fun e => (m.own i _ gr b ho rfl hg e).1 hb)) _ _ (RepAL.append r2 r1), OwnV.ob hy updG_self g2⟩
          have m3 := m2.put (d := d) (x := .own nid) (v := v') (hdst d hdd) (by rw [RepA]; exact ⟨⟨_, updG_self, rfl⟩, g2.one⟩)
          rw [hdd]
          refine hK _ _ (updG G nid ⟨v', blk'⟩) I ?_
          have e1 : appO ⟨some (d, .own nid), [(nid, .arw e cs'), (i, .dead)], [i, q], 1, [], []⟩ o = updO (updO o i .dead) nid (.arw e cs') := by
           funext j
           simp only [appO, lookO, updO, trO]
           cases Nat.beq nid j <;> cases Nat.beq i j <;> cases o j <;> rfl
          rw [e1]
          exact m3
         ·rw [Bool.not_eq_true] at hb'; rw [hb'] at hh; exact hh.elim
        ·exact hh.elim
       ·exact hh.elim
      ·exfalso
       rw [Bool.not_eq_true] at hb
       have h : (bif (Nat.beq T T' && Nat.beq e e2 && Nat.beq y.size 1 && Nat.blt 0 y.bytes && !Nat.beq Wn 8) then _ else False) := h
       rw [hb] at h; exact h.elim
     ·exact h.elim
    ·-- a string's bytes
     rename_i str hxx
     split at h
     ·rename_i i s21 s22 z2 bk2 hs hT2
      split at h
      ·rename_i e' es ho
       by_cases hb : (Nat.beq e e' && Nat.beq y.size 1 && Nat.blt 0 y.bytes && !Nat.beq Wn 8) = true
       ·have hh : bif (Nat.beq e e' && Nat.beq y.size 1 && Nat.blt 0 y.bytes && !Nat.beq Wn 8) then _ else False := h
        rw [hb, cond_true] at hh
        clear h
        simp only [Bool.and_eq_true] at hb
        obtain ⟨⟨⟨b1, b2⟩, b3⟩, b4⟩ := hb
        have he := Nat.eq_of_beq_eq_true b1
        subst he
        have hsz := Nat.eq_of_beq_eq_true b2
        have hb3 : 0 < y.bytes := Nat.le_of_ble_eq_true b3
        have hk2 := (hP.ty T' _ hT2).kind
        simp only [TKOK] at hk2
        obtain ⟨h2, es', hes', h⟩ := hh
        rw [hs, RepA] at rs
        rw [hxx, RepA, RepD] at rx
        obtain ⟨⟨gr, hg, hu⟩, _⟩ := rs
        obtain ⟨gr', hg', hown⟩ := ObOK.ownV hy (m.objs i _ ho)
        rw [hg] at hg'; cases hg'
        rw [← hu] at hown
        obtain ⟨v', w', blk', g1, g2, g3, g4, g5, g6, g7, g8⟩ := append_str (ty := oper.type) hk hk2 hTyE hsz hb3 m.isz hown (fun b hb => by
         obtain ⟨q1, q2, _⟩ := m.own i _ gr b ho rfl hg hb
         exact ⟨q1, q2⟩) str h2
        rw [hes'] at g2
        refine ⟨_, h, fun next Q hK => wpIn_value hF hd (hrun _ _ (by rw [rx]; exact g1)) ?_⟩
        have m2 := m.move ho rfl hn hnb (gr' := ⟨v', blk'⟩) hg g4 g5 g6 g7 g8 g3 (OwnV.ob hy updG_self g2)
        have m3 := m2.put (d := d) (x := .own nid) (v := v') (hdst d hdd) (by rw [RepA]; exact ⟨⟨_, updG_self, rfl⟩, g2.one⟩)
        rw [hdd]
        refine hK _ _ (updG G nid ⟨v', blk'⟩) I ?_
        have e1 : appO ⟨some (d, .own nid), [(nid, .arr e es'), (i, .dead)], [i], 1, [], []⟩ o = updO (updO o i .dead) nid (.arr e es') := by
         funext j
         simp only [appO, lookO, updO, trO]
         cases Nat.beq nid j <;> cases Nat.beq i j <;> cases o j <;> rfl
        rw [e1]
        exact m3
       ·exfalso
        have h : bif (Nat.beq e e' && Nat.beq y.size 1 && Nat.blt 0 y.bytes && !Nat.beq Wn 8) then _ else False := h
        rw [Bool.not_eq_true] at hb; rw [hb] at h; exact h.elim
      ·exact h.elim
     ·exact h.elim
    ·exact h.elim
   ·exact h.elim
  ·exact h.elim
 ·exact h.elim
end
end Go.Ev


namespace Go.Ev
open RowKit
section
variable {tb : TB} {X : Ctx} {P : Program} {Wn : Nat} {Y : Nat → List D → Bool → Prop} {F : Fence} {n : Nat} {g : Nat → A} {o : Nat → Option Ob} {a : Act} {w : World} {G : Nat → Option GR} {I : Nat → Prop} {oper : Oper} {K : Eff → Prop} {nid : Nat}
variable (hP : PG P tb) (hF : Wide F) (m : Mod tb X g o a w G I) (hdst : ∀ d, oper.dst = some d → d < X.nt)
theorem buildRows_cons {sz i k : Nat} {x : A} {r : List (Nat × A)} {K : List (List D) → Prop} (h : effOp.buildRows sz ((i, x) :: r) k K) :
  Nat.beq i k = true ∧ ∃ cs ds, cellsOf x = some cs ∧ toDs cs = some ds ∧ (Nat.beq ds.length sz && cs.all A.one) = true ∧ effOp.buildRows sz r (k + 1) fun es => K (ds :: es) := by
 simp only [effOp.buildRows] at h
 cases hb : Nat.beq i k with
 | false => rw [hb] at h; exact h.elim
 | true =>
  rw [hb, cond_true] at h
  refine ⟨rfl, ?_⟩
  cases hz : Nat.ble 16 sz with
  | true =>
   rw [hz, cond_true] at h
   split at h
   ·rename_i ds
    obtain ⟨h1, h2, h3⟩ := h
    exact ⟨_, ds, rfl, toDs_map ds, by rw [h2, Bool.and_true, h1]; exact Nat.beq_refl _, h3⟩
   ·exact h.elim
  | false =>
   rw [hz, cond_false] at h
   simp only [withCells_eq] at h
   obtain ⟨cs, hc, h⟩ := h
   split at h
   ·rename_i ds hds
    cases hb2 : (Nat.beq ds.length sz && cs.all A.one) with
    | false => rw [hb2] at h; exact h.elim
    | true => rw [hb2, cond_true] at h; exact ⟨cs, ds, hc, hds, hb2, h⟩
   ·exact h.elim
theorem buildRows_mk {sz i k : Nat} {x : A} {r : List (Nat × A)} {K : List (List D) → Prop} {ds : List D} (h0 : Nat.beq i k = true)
  (h : effOp.buildRows sz r (k + 1) fun es => K (ds :: es)) {K0 : List (List D) → Prop} (h1 : effOp.buildRows sz ((i, x) :: r) k K0) {cs : List A} (hc : cellsOf x = some cs) (hds : toDs cs = some ds) : effOp.buildRows sz ((i, x) :: r) k K := by
 simp only [effOp.buildRows] at h1 ⊢
 rw [h0, cond_true] at h1 ⊢
 cases hz : Nat.ble 16 sz with
 | true =>
  rw [hz, cond_true] at h1
  rw [cond_true]
  split at h1
  ·rename_i ds'
   obtain ⟨g1, g2, _⟩ := h1
   simp only [cellsOf, Option.some.injEq] at hc
   rw [← hc, toDs_map, Option.some.injEq] at hds
   subst hds
   exact ⟨g1, g2, h⟩
  ·exact h1.elim
 | false =>
  rw [hz, cond_false] at h1
  rw [cond_false]
  simp only [withCells_eq] at h1 ⊢
  obtain ⟨cs', hc', h1⟩ := h1
  rw [hc] at hc'
  cases hc'
  refine ⟨cs, hc, ?_⟩
  rw [hds] at h1 ⊢
  simp only at h1 ⊢
  cases hb2 : (Nat.beq ds.length sz && cs.all A.one) with
  | false => rw [hb2] at h1; exact h1.elim
  | true => rw [cond_true]; exact h
theorem rows_sound (sz : Nat) : ∀ (ps : List (Nat × A)) (qs : List (Nat × Value)) (k : Nat) (vc : Array Value) (K : List (List D) → Prop),
  qs.map (·.1) = ps.map (·.1) → (∀ (j : Nat) (x : Nat × A) (v : Nat × Value), ps[j]? = some x → qs[j]? = some v → RepA G I w.heap x.2 v.2) → vc.size = (k + ps.length) * sz → effOp.buildRows sz ps k K →
  ∃ es news vs, K es ∧ Instr.fill (fun i => some (i * sz, sz)) vc qs = some vs ∧ vs.toList = vc.toList.take (k * sz) ++ news ∧ RepL I w.heap es.flatten news ∧ (∀ e ∈ es, e.length = sz) ∧ (∀ v ∈ news, v.oneCell' = true) ∧ es.length = ps.length
 | [], qs, k, vc, K, hq, _, hs, h => by
  have : qs = [] := by simpa using hq
  subst this
  refine ⟨[], [], vc, h, rfl, ?_, RepL.nil, by simp, by simp, rfl⟩
  simp only [List.length_nil, Nat.add_zero] at hs
  rw [List.append_nil, List.take_of_length_le (by simp [hs])]
 | (i, x) :: ps, qs, k, vc, K, hq, hx, hs, h => by
  cases qs with
  | nil => simp at hq
  | cons jv qs =>
  obtain ⟨j, v⟩ := jv
  simp only [List.map_cons, List.cons.injEq] at hq
  obtain ⟨rfl, hq⟩ := hq
  have rv : RepA G I w.heap x v := hx 0 _ _ rfl rfl
  obtain ⟨hb, cs, ds, hc, hds, hb2, h⟩ := buildRows_cons h
  have hjk := Nat.eq_of_beq_eq_true hb
  subst hjk
  ·by_cases hb3 : True
   ·rw [Bool.and_eq_true] at hb2
    have hl := Nat.eq_of_beq_eq_true hb2.1
    have rc := cellsOf_rep hc rv
    have hone := RepAL.eq_of_one rc hb2.2
    rw [toDs_eq hds] at rc
    have rc := RepAL.of_d.1 rc
    have hvl := RepL.length rc
    simp only [Array.length_toList] at hvl
    simp only [List.length_cons] at hs
    have hle : j * sz + v.cells.size ≤ vc.size := by
     rw [hs, hvl, hl, ← Nat.succ_mul]; exact Nat.mul_le_mul_right _ (by omega)
    have hfold := foldl_put v.cells.toList (j * sz) 0 vc (by simpa using hle)
    simp only [Nat.add_zero, Array.length_toList] at hfold
    have e1 : (v.cells.zipIdx.foldl (fun cs (p : Value × Nat) => cs.setIfInBounds (j * sz + p.2) p.1) vc) = ((v.cells.toList.zipIdx 0).foldl (fun cs (p : Value × Nat) => cs.setIfInBounds (j * sz + p.2) p.1) vc) := by
     rw [← Array.foldl_toList, Array.toList_zipIdx]
    rw [← e1] at hfold
    generalize hvc2 : (v.cells.zipIdx.foldl (fun cs (p : Value × Nat) => cs.setIfInBounds (j * sz + p.2) p.1) vc) = vc2 at hfold
    have hs2 : vc2.size = (j + 1 + ps.length) * sz := by
     have := congrArg List.length hfold
     simp only [Array.length_toList, List.length_append, List.length_take, List.length_drop] at this
     rw [show (j + 1 + ps.length) = (j + (ps.length + 1)) by omega, ← hs]
     omega
    obtain ⟨es, news, vs, g1, g2, g3, g4, g5, g6, g7⟩ := rows_sound sz ps qs (j + 1) vc2 _ hq (fun q x v hk hv => hx (q + 1) x v (by simpa using hk) (by simpa using hv)) hs2 h
    refine ⟨ds :: es, v.cells.toList ++ news, vs, g1, ?_, ?_, ?_, ?_, ?_, by simp [g7]⟩
    ·simp only [Instr.fill]
     rw [if_neg (by simp; omega), hvc2]
     exact g2
    ·rw [g3, hfold]
     have e2 : (j + 1) * sz = (vc.toList.take (j * sz) ++ v.cells.toList).length := by
      have hjs : j * sz ≤ vc.size := by omega
      simp only [List.length_append, List.length_take, Array.length_toList, Nat.min_eq_left hjs, hvl, hl, Nat.add_mul, Nat.one_mul]
     rw [List.append_assoc (vc.toList.take (j * sz)), ← List.append_assoc, e2, List.take_left, List.append_assoc]
    ·rw [List.flatten_cons]; exact RepL.append rc g4
    ·intro e he
     rcases List.mem_cons.1 he with rfl | he
     ·exact hl
     ·exact g5 e he
    ·intro u hu
     rcases List.mem_append.1 hu with hu | hu
     ·exact hone u hu
     ·exact g6 u hu
   ·exact absurd trivial hb3
theorem frzOf_spec {o : Nat → Option Ob} : ∀ {js : List Nat} {K : List (Nat × D) → Prop}, frzOf o js K → ∃ z, ZOK o z ∧ K z
 | [], K, h => ⟨[], fun p hp => (nomatch hp), h⟩
 | j :: r, K, h => by
  rw [frzOf] at h
  split at h
  ·rename_i T es hj
   obtain ⟨z, h1, h2⟩ := frzOf_spec h
   refine ⟨_, fun p hp => ?_, h2⟩
   rcases List.mem_cons.1 hp with rfl | hp
   ·exact ⟨T, es, hj, rfl⟩
   ·exact h1 p hp
  ·exact h.elim
theorem cells_of_one {x : A} (h : x.one = true) : cellsOf x = some [x] := by
 cases x with
 | d z => cases z with
  | v q => cases q <;> first | rfl | (simp [A.one] at h; done)
  | agg _ => simp [A.one] at h
  | tup _ => simp [A.one] at h
  | _ => rfl
 | agg _ => simp [A.one] at h
 | tup _ => simp [A.one] at h
 | unk => simp [A.one] at h
 | _ => rfl
theorem lst_sound : ∀ (ps : List (Nat × A)) (qs : List (Nat × Value)) (k : Nat) (vc : Array Value) (K : List A → Prop),
  qs.map (·.1) = ps.map (·.1) → (∀ (j : Nat) (x : Nat × A) (v : Nat × Value), ps[j]? = some x → qs[j]? = some v → RepA G I w.heap x.2 v.2) → vc.size = k + ps.length → effOp.buildLst ps k K →
  ∃ cs vs, K cs ∧ Instr.fill (fun i => some (i * 1, 1)) vc qs = some vs ∧ ∃ news, vs.toList = vc.toList.take k ++ news ∧ RepAL G I w.heap cs news ∧ cs.length = ps.length ∧ ∀ u ∈ news, u.oneCell' = true
 | [], qs, k, vc, K, hq, _, hs, h => by
  have : qs = [] := by simpa using hq
  subst this
  refine ⟨[], vc, h, rfl, [], ?_, RepAL.nil, rfl, fun _ hu => (nomatch hu)⟩
  simp only [List.length_nil, Nat.add_zero] at hs
  rw [List.append_nil, List.take_of_length_le (by simp [hs])]
 | (i, x) :: ps, qs, k, vc, K, hq, hx, hs, h => by
  cases qs with
  | nil => simp at hq
  | cons jv qs =>
  obtain ⟨j, v⟩ := jv
  simp only [List.map_cons, List.cons.injEq] at hq
  obtain ⟨rfl, hq⟩ := hq
  have rv : RepA G I w.heap x v := hx 0 _ _ rfl rfl
  simp only [effOp.buildLst] at h
  cases hb : (Nat.beq j k && x.one) with
  | false => rw [hb] at h; exact h.elim
  | true =>
  rw [hb, cond_true, fA_eq] at h
  rw [Bool.and_eq_true] at hb
  have hjk := Nat.eq_of_beq_eq_true hb.1
  subst hjk
  have hc := cells_of_one hb.2
  have rc := cellsOf_rep hc rv
  have hvl := RepAL.length rc
  simp only [Array.length_toList, List.length_cons, List.length_nil] at hvl
  have hvl : v.cells.size = 1 := hvl
  simp only [List.length_cons] at hs
  have hfold := foldl_put v.cells.toList (j * 1) 0 vc (by simp [hvl]; omega)
  simp only [Nat.add_zero, Array.length_toList] at hfold
  have e1 : (v.cells.zipIdx.foldl (fun cs (p : Value × Nat) => cs.setIfInBounds (j * 1 + p.2) p.1) vc) = ((v.cells.toList.zipIdx 0).foldl (fun cs (p : Value × Nat) => cs.setIfInBounds (j * 1 + p.2) p.1) vc) := by
   rw [← Array.foldl_toList, Array.toList_zipIdx]
  rw [← e1] at hfold
  generalize hvc2 : (v.cells.zipIdx.foldl (fun cs (p : Value × Nat) => cs.setIfInBounds (j * 1 + p.2) p.1) vc) = vc2 at hfold
  have hs2 : vc2.size = j + 1 + ps.length := by
   have := congrArg List.length hfold
   simp only [Array.length_toList, List.length_append, List.length_take, List.length_drop] at this
   omega
  obtain ⟨cs, vs, g1, g2, news, g3, g4, g5, g6⟩ := lst_sound ps qs (j + 1) vc2 _ hq (fun q x v hk hv => hx (q + 1) x v (by simpa using hk) (by simpa using hv)) hs2 h
  refine ⟨x :: cs, vs, g1, ?_, v.cells.toList ++ news, ?_, RepAL.append rc g4, by simp [g5], fun u hu => by
   rcases List.mem_append.1 hu with hu | hu
   ·exact RepAL.eq_of_one rc (by simp [hb.2]) u hu
   ·exact g6 u hu⟩
  ·simp only [Instr.fill]
   rw [if_neg (by simp; omega), hvc2]
   exact g2
  ·rw [g3, hfold]
   have e2 : j + 1 = (vc.toList.take (j * 1) ++ v.cells.toList).length := by
    simp only [List.length_append, List.length_take, Array.length_toList, hvl]
    omega
   rw [List.append_assoc (vc.toList.take (j * 1)), ← List.append_assoc, e2, List.take_left, List.append_assoc, Nat.mul_one]
include hP hF m hdst
theorem snd_buildSlice {T : TypeId} {len : Nat} {ps : Array (Nat × Operand)} (hop : oper.op = .buildSlice T len ps) (hn : o nid = none) (hnb : X.nb ≤ nid) (h : effOp tb (Con P tb Wn Y) (.buildSlice T len ps) oper.dst g o nid K) :
  ∃ e, K e ∧ Does tb X P F n g o a w oper e := by
 have hd : ∀ c, oper.op ≠ .defer c := by simp [hop]
 simp only [effOp] at h
 split at h
 ·rename_i e s1 s2 z bk hTy
  have hk := (hP.ty T _ hTy).kind
  simp only [TKOK] at hk
  split at h
  ·rename_i y hy
   have hTyE := hP.ty e y hy
   obtain ⟨i, zv, hi, hi1, hi2, hi3, hi4⟩ := hTyE.info
   have hsz := hTyE.size (w := w)
   cases h0 : Nat.beq len 0 with
   | true =>
    have h0 := Nat.eq_of_beq_eq_true h0
    subst h0
    simp only [Nat.beq_refl, cond_true] at h
    cases hps : Nat.beq ps.size 0 with
    | false => rw [hps] at h; exact h.elim
    | true =>
    rw [hps] at h
    have hps' : ps = #[] := Array.eq_empty_of_size_eq_zero (Nat.eq_of_beq_eq_true hps)
    simp only [cond_true] at h
    unfold effNew at h
    cases hd' : oper.dst with
    | none => simp [hd'] at h
    | some d =>
     simp only [hd'] at h
     have hrun : (execOp a.eval oper).run P w = .ok (.value (.slice (some ⟨w.heap.size, 0, none⟩) 0 0)) { w with heap := w.heap.push (.cells #[] e) } := by
      simp [execOp, hop, hps', Instr.buildSlice, run_und hk, hsz, Instr.fill, newRow]
      congr 2
      exact Array.eq_empty_of_size_eq_zero (by simp)
     have hown : OwnV e y.size I ({ w with heap := w.heap.push (.cells #[] e) } : World).heap [] (.slice (some ⟨w.heap.size, 0, none⟩) 0 0) (some w.heap.size) :=
      .inr ⟨w.heap.size, 0, 0, #[], rfl, rfl, by simp, Nat.le_refl _, Nat.zero_le _, by simp, by rw [RepR]; trivial⟩
     have m2 := m.mk' hn hnb (gr := ⟨.slice (some ⟨w.heap.size, 0, none⟩) 0 0, some w.heap.size⟩) (ob := .arr e []) (below_push w (.cells #[] e)) (fun b hb => by cases hb; exact ⟨Nat.le_refl _, by simp⟩) (OwnV.ob hy updG_self hown)
     have m3 := m2.put (d := d) (x := .own nid) (v := .slice (some ⟨w.heap.size, 0, none⟩) 0 0) (hdst d hd') (by rw [RepA]; exact ⟨⟨_, updG_self, rfl⟩, rfl⟩)
     refine ⟨_, h, fun next Q hK => wpIn_value hF hd hrun ?_⟩
     rw [hd']
     refine hK _ _ (updG G nid ⟨.slice (some ⟨w.heap.size, 0, none⟩) 0 0, some w.heap.size⟩) I ?_
     rw [appO_one rfl rfl rfl]
     exact m3
   | false =>
    rw [h0] at h
    simp only [cond_false] at h
    by_cases hb : (Nat.beq ps.size len && Nat.ble (len * y.size) 16777216) = true
    ·rw [hb] at h
     simp only [cond_true] at h
     rw [Bool.and_eq_true] at hb
     have hpl := Nat.eq_of_beq_eq_true hb.1
     have hle := Nat.le_of_ble_eq_true hb.2
     obtain ⟨vc, hvc⟩ : ∃ vc : Array Value, vc = (Array.range (len * y.size)).map (fun j => (if len * y.size = 0 then (#[] : Array Value) else zv.cells)[j % (if len * y.size = 0 then (#[] : Array Value) else zv.cells).size]!) := ⟨_, rfl⟩
     have rows : ∀ K', effOp.buildRows y.size (ps.toList.map fun p => (p.1, opA g p.2)) 0 K' → ∃ es news vs, K' es ∧ vs.toList = news ∧ RepL I w.heap es.flatten news ∧ (∀ e ∈ es, e.length = y.size) ∧ (∀ v ∈ news, v.oneCell' = true) ∧ es.length = len ∧
       (execOp a.eval oper).run P w = .ok (.value (.slice (some ⟨w.heap.size, 0, none⟩) len len)) { w with heap := w.heap.push (.cells vs e) } := by
      intro K' h
      obtain ⟨es, news, vs, g1, g2, g3, g4, g5, g6, g7⟩ := rows_sound (G := G) (I := I) (w := w) y.size (ps.toList.map fun p => (p.1, opA g p.2)) (ps.toList.map fun p => (p.1, a.eval p.2)) 0 vc _ (by simp)
       (fun k x v hk hv => by
        simp only [List.getElem?_map] at hk hv
        obtain ⟨p, hp, rfl⟩ := Option.map_eq_some_iff.1 hk
        rw [hp] at hv; cases hv
        exact m.eval p.2) (by rw [hvc]; simp [hpl]) h
      simp only [Nat.zero_mul, List.take_zero, List.nil_append] at g3
      have hlen : es.length = len := by rw [g7]; simp [hpl]
      have hrun : (execOp a.eval oper).run P w = .ok (.value (.slice (some ⟨w.heap.size, 0, none⟩) len len)) { w with heap := w.heap.push (.cells vs e) } := by
       have e3 : ¬ len * y.size > 2 ^ 24 := by omega
       have e4 : (Array.map (fun x : Nat × Operand => (x.1, a.eval x.2)) ps).toList = ps.toList.map fun p => (p.1, a.eval p.2) := by simp
       rw [hvc] at g2
       unfold execOp
       rw [hop]
       simp only [Instr.buildSlice, Sem.run_bind, run_und hk, Result.andThen_ok, hsz]
       rw [if_neg e3]
       by_cases hz0 : len * y.size = 0
       ·simp only [hz0, if_true] at g2
        simp only [hz0, if_true, Sem.run_bind, Sem.run_pure, Result.andThen_ok, e4, g2, newRow, run_newObj]
       ·simp only [hz0, if_false] at g2
        simp only [hz0, if_false, Sem.run_bind, Sem.run_pure, run_zero hi hi3, Result.andThen_ok, e4, g2, newRow, run_newObj]
      exact ⟨es, news, vs, g1, g3, g4, g5, g6, hlen, hrun⟩
     cases hFn : (y.k.fnB && Nat.beq y.size 1 && (ps.toList.map fun p => opA g p.2).any A.fnB) with
     | true =>
      have h : effOp.buildLst (ps.toList.map fun p => (p.1, opA g p.2)) 0 fun cs => effPut oper.dst (.lst cs) [] K := by
       rw [hFn] at h; exact h
      rw [Bool.and_eq_true, Bool.and_eq_true] at hFn
      have hs1 := Nat.eq_of_beq_eq_true hFn.1.2
      obtain ⟨cs, vs, g1, g2, g3⟩ := lst_sound (G := G) (I := I) (w := w) (ps.toList.map fun p => (p.1, opA g p.2)) (ps.toList.map fun p => (p.1, a.eval p.2)) 0 vc _ (by simp)
       (fun k x v hk hv => by
        simp only [List.getElem?_map] at hk hv
        obtain ⟨p, hp, rfl⟩ := Option.map_eq_some_iff.1 hk
        rw [hp] at hv; cases hv
        exact m.eval p.2) (by rw [hvc]; simp [hpl, hs1]) h
      obtain ⟨news, g3, g4, g5, gone⟩ := g3
      rw [List.take_zero, List.nil_append] at g3
      have hlen : cs.length = len := by rw [g5]; simp [hpl]
      have hrun : (execOp a.eval oper).run P w = .ok (.value (.slice (some ⟨w.heap.size, 0, none⟩) len len)) { w with heap := w.heap.push (.cells vs e) } := by
       have e3 : ¬ len * y.size > 2 ^ 24 := by omega
       have e4 : (Array.map (fun x : Nat × Operand => (x.1, a.eval x.2)) ps).toList = ps.toList.map fun p => (p.1, a.eval p.2) := by simp
       rw [hvc] at g2
       have g2' : Instr.fill (fun i => some (i * y.size, y.size)) ((Array.range (len * y.size)).map (fun j => (if len * y.size = 0 then (#[] : Array Value) else zv.cells)[j % (if len * y.size = 0 then (#[] : Array Value) else zv.cells).size]!)) (ps.toList.map fun p => (p.1, a.eval p.2)) = some vs := by
        rw [hs1] at g2 ⊢; simpa using g2
       unfold execOp
       rw [hop]
       simp only [Instr.buildSlice, Sem.run_bind, run_und hk, Result.andThen_ok, hsz]
       rw [if_neg e3]
       by_cases hz0 : len * y.size = 0
       ·simp only [hz0, if_true] at g2'
        simp only [hz0, if_true, Sem.run_bind, Sem.run_pure, Result.andThen_ok, e4, g2', newRow, run_newObj]
       ·simp only [hz0, if_false] at g2'
        simp only [hz0, if_false, Sem.run_bind, Sem.run_pure, run_zero hi hi3, Result.andThen_ok, e4, g2', newRow, run_newObj]
      have hI' : ∀ b, (I b ∨ b = w.heap.size) → b < ({ w with heap := w.heap.push (.cells vs e) } : World).heap.size := by
       rintro b (hb | rfl)
       ·have := m.isz b hb; simp; omega
       ·simp
      have m2 := m.grow (I' := fun b => I b ∨ b = w.heap.size) (below_push w (.cells vs e)) (fun _ h => .inl h) (fun b hb => hb.imp id (fun h => by omega)) hI'
      have hrep : RepA G (fun b => I b ∨ b = w.heap.size) ({ w with heap := w.heap.push (.cells vs e) } : World).heap (.lst cs) (.slice (some ⟨w.heap.size, 0, none⟩) len len) := by
       rw [RepA, hlen]
       refine ⟨_, vs, e, (0, 0), rfl, .inr rfl, by simp, ?_⟩
       rw [g3]
       exact RepAL.mono (fun _ _ h => h) (fun _ h => .inl h) (fun b hb => (below_push w (.cells vs e)).block b (m.isz b hb)) _ _ g4
      have m3 := m2.slotE hdst hrep
      unfold effPut at g1
      cases hd' : oper.dst with
      | some d =>
       simp only [hd', fA_eq] at g1
       refine ⟨_, g1, fun next Q hK => wpIn_value hF hd hrun ?_⟩
       rw [hd'] at m3
       refine hK _ _ G (fun b => I b ∨ b = w.heap.size) ?_
       rw [appO_id rfl rfl rfl, hd']
       exact m3
      | none =>
       simp only [hd'] at g1
       refine ⟨_, g1, fun next Q hK => wpIn_value hF hd hrun ?_⟩
       rw [hd'] at m3
       refine hK _ _ G (fun b => I b ∨ b = w.heap.size) ?_
       rw [appO_id rfl rfl rfl, hd']
       exact m3
     | false =>
     rw [hFn, cond_false] at h
     cases hOw : (ps.toList.map fun p => opA g p.2).any A.ownB with
     | true =>
      rw [hOw, cond_true] at h
      rcases h with h | h
      rotate_left
      ·have hck : (Nat.beq y.size 1 && !y.k.agg && !Nat.beq (Con P tb Wn Y).w 8) = true := by
        cases hck : (Nat.beq y.size 1 && !y.k.agg && !Nat.beq (Con P tb Wn Y).w 8) with
        | true => rfl
        | false => rw [hck] at h; exact h.elim
       rw [hck, cond_true] at h
       rw [Bool.and_eq_true] at hck
       have hck := hck.1
       rw [Bool.and_eq_true] at hck
       have hs1 := Nat.eq_of_beq_eq_true hck.1
       obtain ⟨cs, vs, g1, g2, g3⟩ := lst_sound (G := G) (I := I) (w := w) (ps.toList.map fun p => (p.1, opA g p.2)) (ps.toList.map fun p => (p.1, a.eval p.2)) 0 vc _ (by simp)
        (fun k x v hk hv => by
         simp only [List.getElem?_map] at hk hv
         obtain ⟨p, hp, rfl⟩ := Option.map_eq_some_iff.1 hk
         rw [hp] at hv; cases hv
         exact m.eval p.2) (by rw [hvc]; simp [hpl, hs1]) h
       obtain ⟨news, g3, g4, g5, gone⟩ := g3
       rw [List.take_zero, List.nil_append] at g3
       have hlen : cs.length = len := by rw [g5]; simp [hpl]
       have hrun : (execOp a.eval oper).run P w = .ok (.value (.slice (some ⟨w.heap.size, 0, none⟩) len len)) { w with heap := w.heap.push (.cells vs e) } := by
        have e3 : ¬ len * y.size > 2 ^ 24 := by omega
        have e4 : (Array.map (fun x : Nat × Operand => (x.1, a.eval x.2)) ps).toList = ps.toList.map fun p => (p.1, a.eval p.2) := by simp
        rw [hvc] at g2
        have g2' : Instr.fill (fun i => some (i * y.size, y.size)) ((Array.range (len * y.size)).map (fun j => (if len * y.size = 0 then (#[] : Array Value) else zv.cells)[j % (if len * y.size = 0 then (#[] : Array Value) else zv.cells).size]!)) (ps.toList.map fun p => (p.1, a.eval p.2)) = some vs := by
         rw [hs1] at g2 ⊢; simpa using g2
        unfold execOp
        rw [hop]
        simp only [Instr.buildSlice, Sem.run_bind, run_und hk, Result.andThen_ok, hsz]
        rw [if_neg e3]
        by_cases hz0 : len * y.size = 0
        ·simp only [hz0, if_true] at g2'
         simp only [hz0, if_true, Sem.run_bind, Sem.run_pure, Result.andThen_ok, e4, g2', newRow, run_newObj]
        ·simp only [hz0, if_false] at g2'
         simp only [hz0, if_false, Sem.run_bind, Sem.run_pure, run_zero hi hi3, Result.andThen_ok, e4, g2', newRow, run_newObj]
       obtain ⟨js, g1⟩ := g1
       obtain ⟨z, hzok, cs', hcs', g1⟩ := frzOf_spec g1
       cases hd' : oper.dst with
       | none => simp [hd'] at g1
       | some d =>
        simp only [hd'] at g1
        have m1 := m.freeze hzok.frz
        have hone := gone
        have hnl : news.length = len := by rw [RepAL.length g4, hlen]
        have hvl : vs.size = len := by rw [← Array.length_toList, g3, hnl]
        have hrl : (rawE news).length = len := by unfold rawE; rw [List.length_map, hnl]
        have hfo : frzObs o z nid = none := by
         unfold frzObs
         cases e : lookD z nid with
         | some x => obtain ⟨T, es, h1, _⟩ := hzok.frz _ _ e; rw [hn] at h1; cases h1
         | none => rw [hn]; rfl
        have hG0 : G nid = none := by
         cases h : G nid with
         | none => rfl
         | some x => have := m.dom nid x h; rw [hn] at this; cases this
        have hbel := below_push w (.cells vs e)
        have hraw : ∀ (I' : Nat → Prop) (h' : Array Obj) (l : List Value), (∀ v ∈ l, v.oneCell' = true) → RepR I' h' 1 (rawE l) l := by
         intro I' h' l
         induction l with
         | nil => intro _; unfold rawE; simp [RepR]
         | cons v l ih =>
          intro h1
          unfold rawE at ih ⊢
          rw [List.map_cons, RepR]
          exact ⟨rfl, by simpa using RepL.cons (by rw [RepD]) RepL.nil, fun u hu => h1 u (by simp at hu; simp [hu]), by simpa using ih fun u hu => h1 u (by simp [hu])⟩
        have hown : OwnV e y.size (frzI G I z) ({ w with heap := w.heap.push (.cells vs e) } : World).heap (rawE news) (.slice (some ⟨w.heap.size, 0, none⟩) len len) (some w.heap.size) := by
         refine .inr ⟨w.heap.size, 0, len, vs, by rw [hrl], rfl, by simp, by omega, ?_, by rw [Nat.zero_add, hs1, Nat.mul_one, hvl]; exact Nat.le_refl _, ?_⟩
         ·have h2 : len ≤ 2 ^ 24 := by rw [hs1] at hle; omega
          exact Nat.le_trans h2 (by decide)
         ·rw [g3, List.drop_zero, hs1]
          exact hraw _ _ _ hone
        have m2 := m1.mk' hfo hnb (gr := ⟨.slice (some ⟨w.heap.size, 0, none⟩) len len, some w.heap.size⟩) (ob := .arw e cs') hbel (fun b hb => by cases hb; exact ⟨Nat.le_refl _, by simp⟩)
         ⟨news, by
          rw [← hcs']
          exact RepAL.mono (fun j x hx => by rw [updG_ne (fun e => by subst e; rw [hG0] at hx; cases hx)]; exact hx) (fun _ h => h) (fun b hb => hbel.block b (m1.isz b hb)) _ _ (RepAL.frz hzok.frz m.objs _ _ g4), OwnV.ob hy updG_self hown⟩
        have m3 := m2.put (d := d) (x := .own nid) (v := .slice (some ⟨w.heap.size, 0, none⟩) len len) (hdst d hd') (by rw [RepA]; exact ⟨⟨_, updG_self, rfl⟩, rfl⟩)
        refine ⟨_, g1, fun next Q hK => wpIn_value hF hd hrun ?_⟩
        rw [hd']
        refine hK _ _ (updG G nid ⟨.slice (some ⟨w.heap.size, 0, none⟩) len len, some w.heap.size⟩) (frzI G I z) ?_
        have e1 : appO ⟨some (d, .own nid), (nid, .arw e cs') :: z.map (fun p => (p.1, .dead)), z.map (·.1), 1, z, []⟩ o = updO (frzObs o z) nid (.arw e cs') := by
         funext j
         have := congrFun (appO_call (slot := none) (z := z) (o := o)) j
         simp only [appO, lookO, updO] at this ⊢
         cases Nat.beq nid j with
         | true => rfl
         | false => rw [cond_false, cond_false]; exact this
        rw [e1]
        have e2 : appG ⟨some (d, .own nid), (nid, .arw e cs') :: z.map (fun p => (p.1, .dead)), z.map (·.1), 1, z, []⟩ g = fun t => bif Nat.beq d t then .own nid else frzA z (g t) := by
         funext t
         simp only [appG, trA_call]
        rw [e2]
        exact m3
      obtain ⟨as, frz, hh⟩ : ∃ as frz, handL true o (ps.toList.map fun p => opA g p.2) = (as, frz) := ⟨_, _, rfl⟩
      rw [hh] at h
      cases hfe : frz.isEmpty with
      | true => simp only [hfe, Bool.not_true, cond_false] at h
      | false =>
      simp only [hfe, Bool.not_false, cond_true] at h
      have hz : ZOK o frz := by have := handL_zok (cv := true) (o := o) (ps.toList.map fun p => opA g p.2); rwa [hh] at this
      have hall : RepAL G I w.heap (ps.toList.map fun p => opA g p.2) (ps.toList.map fun p => a.eval p.2) := by
       generalize ps.toList = l
       induction l with
       | nil => exact RepAL.nil
       | cons z l ih => exact RepAL.cons (m.eval z.2) ih
      have hrep := handL_rep (cv := true) hz m.objs (by rw [hh]; exact fun p hp => hp) hall
      rw [hh] at hrep
      simp only at hrep
      have m1 := m.freeze hz.frz
      have hasl : as.length = ps.toList.length := by
       have := RepAL.length hrep
       simpa using this.symm
      obtain ⟨es, news, vs, g1, g2, g3, g4, g5, g6, g7⟩ := rows_sound (G := G) (I := frzI G I frz) (w := w) y.size ((ps.toList.map (·.1)).zip as) (ps.toList.map fun p => (p.1, a.eval p.2)) 0 vc _
       (by rw [List.map_fst_zip (by rw [hasl]; simp)]; simp)
       (fun k x v hk hv => by
        rw [List.getElem?_map] at hv
        obtain ⟨p, hp, rfl⟩ := Option.map_eq_some_iff.1 hv
        obtain ⟨hk1, hk2⟩ := List.getElem?_zip_eq_some.1 hk
        obtain ⟨v', q1, q2⟩ := RepAL.at hrep hk2
        rw [List.getElem?_map, hp] at q1
        cases q1
        exact q2) (by rw [hvc]; simp [hpl, hasl]) h
      simp only [Nat.zero_mul, List.take_zero, List.nil_append] at g3
      have hlen : es.length = len := by rw [g7]; simp [hpl, hasl]
      have hrun : (execOp a.eval oper).run P w = .ok (.value (.slice (some ⟨w.heap.size, 0, none⟩) len len)) { w with heap := w.heap.push (.cells vs e) } := by
       have e3 : ¬ len * y.size > 2 ^ 24 := by omega
       have e4 : (Array.map (fun x : Nat × Operand => (x.1, a.eval x.2)) ps).toList = ps.toList.map fun p => (p.1, a.eval p.2) := by simp
       rw [hvc] at g2
       unfold execOp
       rw [hop]
       simp only [Instr.buildSlice, Sem.run_bind, run_und hk, Result.andThen_ok, hsz]
       rw [if_neg e3]
       by_cases hz0 : len * y.size = 0
       ·simp only [hz0, if_true] at g2
        simp only [hz0, if_true, Sem.run_bind, Sem.run_pure, Result.andThen_ok, e4, g2, newRow, run_newObj]
       ·simp only [hz0, if_false] at g2
        simp only [hz0, if_false, Sem.run_bind, Sem.run_pure, run_zero hi hi3, Result.andThen_ok, e4, g2, newRow, run_newObj]
      have hI' : ∀ b, (frzI G I frz b ∨ b = w.heap.size) → b < ({ w with heap := w.heap.push (.cells vs e) } : World).heap.size := by
       rintro b (hb | rfl)
       ·have := m1.isz b hb; simp; omega
       ·simp
      have m2 := m1.grow (I' := fun b => frzI G I frz b ∨ b = w.heap.size) (below_push w (.cells vs e)) (fun _ h => .inl h) (fun b hb => hb.imp id (fun h => by omega)) hI'
      have hrp : RepA G (fun b => frzI G I frz b ∨ b = w.heap.size) ({ w with heap := w.heap.push (.cells vs e) } : World).heap (.d (.seq es)) (.slice (some ⟨w.heap.size, 0, none⟩) len len) := by
       rw [RepA, RepD]
       refine ⟨_, len, len, rfl, hlen, Nat.le_refl _, .inr ⟨y.size, w.heap.size, 0, vs, e, (0, 0), rfl, .inr rfl, by simp, ?_⟩⟩
       rw [List.drop_zero, g3]
       refine RepR.mono (fun _ h => .inl h) (fun b hb => (below_push w (.cells vs e)).block b (m1.isz b hb)) _ _ _ ?_
       simpa using RepR.mk (ws := []) g5 g4 g6
      have m3 := m2.slotE hdst hrp
      have fin : ∀ slot, K ⟨slot, frz.map fun p => (p.1, .dead), frz.map (·.1), 0, frz, []⟩ → appG ⟨slot, frz.map fun p => (p.1, .dead), frz.map (·.1), 0, frz, []⟩ g = (slotG oper.dst (.d (.seq es)) fun t => frzA frz (g t)) →
        ∃ e, K e ∧ Does tb X P F n g o a w oper e := by
       intro slot hK hg
       refine ⟨_, hK, fun next Q hN => wpIn_value hF hd hrun ?_⟩
       refine hN _ _ G (fun b => frzI G I frz b ∨ b = w.heap.size) ?_
       rw [hg, appO_call]
       exact m3
      unfold effFz at g1
      cases hd' : oper.dst with
      | some d =>
       simp only [hd', fA_eq] at g1
       refine fin _ g1 ?_
       rw [hd']
       funext t
       simp only [appG, trA_call, slotG]
      | none =>
       simp only [hd'] at g1
       refine fin _ g1 ?_
       rw [hd']
       funext t
       simp only [appG, trA_call, slotG]
     | false =>
     rw [hOw, cond_false] at h
     obtain ⟨es, news, vs, g1, g3, g4, g5, g6, hlen, hrun⟩ := rows _ h
     rcases g1 with g1 | ⟨hy0, g1⟩
     rotate_left
     ·skip
      unfold effNew at g1
      cases hd' : oper.dst with
      | none => simp [hd'] at g1
      | some d =>
       simp only [hd'] at g1
       have hvl : vs.size = len * y.size := by
        have h1 := RepL.length g4
        have h2 : es.flatten.length = es.length * y.size := by
         clear h g1 hlen hrun g4 h1 g6
         induction es with
         | nil => simp
         | cons x es ih => simp only [List.flatten_cons, List.length_append, List.length_cons, Nat.add_mul, Nat.one_mul]; rw [ih (fun q hq => g5 q (by simp [hq])), g5 x (by simp)]; omega
        rw [← Array.length_toList, g3, h1, h2, hlen]
       have hown : OwnV e y.size I ({ w with heap := w.heap.push (.cells vs e) } : World).heap es (.slice (some ⟨w.heap.size, 0, none⟩) len len) (some w.heap.size) := by
        refine .inr ⟨w.heap.size, 0, len, vs, by rw [hlen], rfl, by simp, by omega, ?_, by rw [Nat.zero_add]; exact Nat.le_of_eq hvl.symm, ?_⟩
        ·have h2 := Nat.le_mul_of_pos_right len hy0
         exact Nat.le_trans (Nat.le_trans h2 hle) (by decide)
        ·rw [g3]
         refine RepR.mono (fun _ h => h) (fun b hb => (below_push w (.cells vs e)).block b (m.isz b hb)) _ _ _ ?_
         simpa using RepR.mk (ws := []) g5 g4 g6
       have m2 := m.mk' hn hnb (gr := ⟨.slice (some ⟨w.heap.size, 0, none⟩) len len, some w.heap.size⟩) (ob := .arr e es) (below_push w (.cells vs e)) (fun b hb => by cases hb; exact ⟨Nat.le_refl _, by simp⟩) (OwnV.ob hy updG_self hown)
       have m3 := m2.put (d := d) (x := .own nid) (v := .slice (some ⟨w.heap.size, 0, none⟩) len len) (hdst d hd') (by rw [RepA]; exact ⟨⟨_, updG_self, rfl⟩, rfl⟩)
       refine ⟨_, g1, fun next Q hK => wpIn_value hF hd hrun ?_⟩
       rw [hd']
       refine hK _ _ (updG G nid ⟨.slice (some ⟨w.heap.size, 0, none⟩) len len, some w.heap.size⟩) I ?_
       rw [appO_one rfl rfl rfl]
       exact m3
     ·skip
      have hI' : ∀ b, (I b ∨ b = w.heap.size) → b < ({ w with heap := w.heap.push (.cells vs e) } : World).heap.size := by
       rintro b (hb | rfl)
       ·have := m.isz b hb; simp; omega
       ·simp
      have m2 := m.grow (I' := fun b => I b ∨ b = w.heap.size) (below_push w (.cells vs e)) (fun _ h => .inl h) (fun b hb => hb.imp id (fun h => by omega)) hI'
      have hrep : RepA G (fun b => I b ∨ b = w.heap.size) ({ w with heap := w.heap.push (.cells vs e) } : World).heap (.d (.seq es)) (.slice (some ⟨w.heap.size, 0, none⟩) len len) := by
       rw [RepA, RepD]
       refine ⟨_, len, len, rfl, hlen, Nat.le_refl _, .inr ⟨y.size, w.heap.size, 0, vs, e, (0, 0), rfl, .inr rfl, by simp, ?_⟩⟩
       rw [List.drop_zero, g3]
       refine RepR.mono (fun _ h => .inl h) (fun b hb => (below_push w (.cells vs e)).block b (m.isz b hb)) _ _ _ ?_
       simpa using RepR.mk (ws := []) g5 g4 g6
      have m3 := m2.slotE hdst hrep
      unfold effPut at g1
      cases hd' : oper.dst with
      | some d =>
       simp only [hd', fA_eq] at g1
       refine ⟨_, g1, fun next Q hK => wpIn_value hF hd hrun ?_⟩
       rw [hd'] at m3
       refine hK _ _ G (fun b => I b ∨ b = w.heap.size) ?_
       rw [appO_id rfl rfl rfl, hd']
       exact m3
      | none =>
       simp only [hd'] at g1
       refine ⟨_, g1, fun next Q hK => wpIn_value hF hd hrun ?_⟩
       rw [hd'] at m3
       refine hK _ _ G (fun b => I b ∨ b = w.heap.size) ?_
       rw [appO_id rfl rfl rfl, hd']
       exact m3
    ·rw [Bool.not_eq_true] at hb; rw [hb] at h; exact h.elim
  ·exact h.elim
 ·exact h.elim
omit hP hF m hdst in
theorem made_flat (z : Array Value) : ∀ k : Nat, (madeCells z (k * z.size)).toList = (List.replicate k z.toList).flatten
 | 0 => by simp [madeCells]
 | k + 1 => by
  have ih := made_flat z k
  simp only [madeCells, Array.toList_map, Array.toList_range] at ih ⊢
  rw [Nat.add_mul, Nat.one_mul, Nat.add_comm, List.range_add, List.map_append, List.map_map, List.replicate_succ, List.flatten_cons, ← ih]
  congr 1
  ·apply List.ext_getElem
   ·simp
   ·intro i h1 h2
    simp only [List.length_map, List.length_range] at h1
    simp [Nat.mod_eq_of_lt h1, h1]
  ·apply List.map_congr_left
   intro j _
   simp [Nat.add_mod_left]
theorem snd_makeSlice {T : TypeId} {l c : Operand} (hop : oper.op = .makeSlice T l c) (hn : o nid = none) (hnb : X.nb ≤ nid) (h : effOp tb (Con P tb Wn Y) (.makeSlice T l c) oper.dst g o nid K) :
  ∃ e, K e ∧ Does tb X P F n g o a w oper e := by
 have hd : ∀ c, oper.op ≠ .defer c := by simp [hop]
 have rl := m.eval l
 have rc := m.eval c
 simp only [effOp] at h
 split at h
 ·rename_i e s1 s2 z0 bk hTy
  have hk := (hP.ty T _ hTy).kind
  simp only [TKOK] at hk
  split at h
  ·rename_i y hy
   have hTyE := hP.ty e y hy
   obtain ⟨i, zv, hi, hi1, hi2, hi3, hi4⟩ := hTyE.info
   simp only [isInt] at h
   split at h
   ·rename_i kl n hl
    split at h
    ·rename_i kc q hq
     obtain ⟨k, rfl, rfl, hb1, hb2, es, hes, h⟩ := h
     rw [hl, RepA, RepD] at rl
     rw [hq, RepA, RepD] at rc
     have hr := run_make (P := P) w T e i zv hk hi hi3 kl kc k k (by omega) (Int.le_refl _) (by
      rw [hi2]
      have : ((k * y.bytes : Nat) : Int) ≤ ((140737488355328 : Nat) : Int) := Int.ofNat_le.2 hb1
      rw [Int.natCast_mul, Int.mul_comm] at this
      omega) (by omega)
     simp only [Int.toNat_natCast, hi1] at hr
     have hzl : zv.cells.size = y.size := by rw [← hTyE.len, ← hi4]; simp
     have hmf := made_flat zv.cells k
     rw [hzl, hi4] at hmf
     generalize hvs : madeCells zv.cells (k * y.size) = vs at hr hmf
     have hvl : vs.size = k * y.size := by rw [← hvs]; exact size_madeCells _ _
     have hlen : es.length = k := by rw [← hes]; simp
     have hes5 : ∀ x ∈ es, x.length = y.size := by
      intro x hx
      rw [← hes] at hx
      rw [List.eq_of_mem_replicate hx, List.length_map, hTyE.len]
     have hrep : RepL I w.heap es.flatten vs.toList := by
      rw [hmf, ← hes]
      have : ∀ l : List Value, RepL I w.heap (l.map D.v) l := fun l => by
       induction l with
       | nil => exact RepL.nil
       | cons v l ih => exact RepL.cons (by rw [RepD]) ih
      have e1 : (List.replicate k (y.zero.map D.v)).flatten = ((List.replicate k y.zero).flatten).map D.v := by
       rw [List.map_flatten, List.map_replicate]
      rw [e1]
      exact this _
     have hone : ∀ v ∈ vs.toList, v.oneCell' = true := by
      intro v hv
      rw [hmf, List.mem_flatten] at hv
      obtain ⟨x, hx, hv⟩ := hv
      rw [List.eq_of_mem_replicate hx] at hv
      exact hTyE.one v hv
     have hrun : (execOp a.eval oper).run P w = .ok (.value (.slice (some ⟨w.heap.size, 0, none⟩) k k)) { w with heap := w.heap.push (.cells vs e) } := by
      have hr' : (Instr.makeSlice T (a.eval l) (a.eval c)).run P w = .ok (.slice (some ⟨w.heap.size, 0, none⟩) k k) { w with heap := w.heap.push (.cells vs e) } := by rw [rl, rc]; exact hr
      simp [execOp, hop, hr']
     unfold effNew at h
     cases hd' : oper.dst with
     | none => simp [hd'] at h
     | some d =>
      simp only [hd'] at h
      have hown : OwnV e y.size I ({ w with heap := w.heap.push (.cells vs e) } : World).heap es (.slice (some ⟨w.heap.size, 0, none⟩) k k) (some w.heap.size) := by
       refine .inr ⟨w.heap.size, 0, k, vs, by rw [hlen], rfl, by simp, by omega, Nat.le_trans hb2 (by decide), by rw [Nat.zero_add]; exact Nat.le_of_eq hvl.symm, ?_⟩
       refine RepR.mono (fun _ h => h) (fun b hb => (below_push w (.cells vs e)).block b (m.isz b hb)) _ _ _ ?_
       simpa using RepR.mk (ws := []) hes5 hrep hone
      have m2 := m.mk' hn hnb (gr := ⟨.slice (some ⟨w.heap.size, 0, none⟩) k k, some w.heap.size⟩) (ob := .arr e es) (below_push w (.cells vs e)) (fun b hb => by cases hb; exact ⟨Nat.le_refl _, by simp⟩) (OwnV.ob hy updG_self hown)
      have m3 := m2.put (d := d) (x := .own nid) (v := .slice (some ⟨w.heap.size, 0, none⟩) k k) (hdst d hd') (by rw [RepA]; exact ⟨⟨_, updG_self, rfl⟩, rfl⟩)
      refine ⟨_, h, fun next Q hK => wpIn_value hF hd hrun ?_⟩
      rw [hd']
      refine hK _ _ (updG G nid ⟨.slice (some ⟨w.heap.size, 0, none⟩) k k, some w.heap.size⟩) I ?_
      rw [appO_one rfl rfl rfl]
      exact m3
    ·exact h.elim
   ·exact h.elim
  ·exact h.elim
 ·exact h.elim
end
end Go.Ev


namespace Go.Ev
open RowKit
section
variable {tb : TB} {X : Ctx} {P : Program} {Wn : Nat} {Y : Nat → List D → Bool → Prop} {F : Fence} {n : Nat} {g : Nat → A} {o : Nat → Option Ob} {a : Act} {w : World} {G : Nat → Option GR} {I : Nat → Prop} {oper : Oper} {K : Eff → Prop} {nid : Nat}
theorem fnA_rep {h : Array Obj} {f : Fn} {p q : List A} {x y : Array Value} (r1 : RepAL G I h p x.toList) (r2 : RepAL G I h q y.toList) : RepA G I h (fnA f p q) (.func f x y) := by
 unfold fnA
 split
 ·rename_i u v hu hv
  rw [toDs_eq hu] at r1
  rw [toDs_eq hv] at r2
  rw [RepA, RepD]
  exact ⟨x, y, rfl, RepAL.of_d.1 r1, RepAL.of_d.1 r2⟩
 ·rw [RepA]; exact ⟨x, y, rfl, r1, r2⟩
theorem Mod.evals (m : Mod tb X g o a w G I) : ∀ (l : List Operand), RepAL G I w.heap (l.map (opA g)) (l.map a.eval)
 | [] => RepAL.nil
 | x :: l => RepAL.cons (m.eval x) (Mod.evals m l)
theorem isInt_rep {x : A} {K : IntKind → Int → Prop} (h : isInt x K) : ∃ k n, x = .d (.v (.int k n)) ∧ K k n := by
 unfold isInt at h
 split at h
 ·rename_i k n; exact ⟨k, n, rfl, h⟩
 ·exact h.elim
theorem Mod.evalInt (m : Mod tb X g o a w G I) {x : Operand} {k : IntKind} {n : Int} (h : opA g x = .d (.v (.int k n))) : a.eval x = .int k n := by
 have := m.eval x
 rwa [h, RepA, RepD] at this
variable (hP : PG P tb) (hF : Wide F) (m : Mod tb X g o a w G I) (hdst : ∀ d, oper.dst = some d → d < X.nt)
include hP hF m hdst
theorem snd_makeFunc {fn : Fn} {first caps : Array Operand} (hop : oper.op = .makeFunc fn first caps) (h : effOp tb (Con P tb Wn Y) (.makeFunc fn first caps) oper.dst g o nid K) : ∃ e, K e ∧ Does tb X P F n g o a w oper e := by
 have hd : ∀ c, oper.op ≠ .defer c := by simp [hop]
 simp only [effOp, fL_eq] at h
 refine fin_put hF hd (v := .func fn (first.map a.eval) (caps.map a.eval)) ?_ m (fnA_rep (by simpa using m.evals first.toList) (by simpa using m.evals caps.toList)) hdst h
 simp [execOp, hop, Instr.makeFunc]
theorem snd_max {c : Call} (hop : oper.op = .call c) (hc : c.callee = .builtin .max) (h : effOp tb (Con P tb Wn Y) (.call c) oper.dst g o nid K) : ∃ e, K e ∧ Does tb X P F n g o a w oper e := by
 have hd : ∀ c, oper.op ≠ .defer c := by simp [hop]
 simp only [effOp, hc] at h
 split at h
 ·rename_i x y hx
  have hargs : c.args = #[x, y] := by apply Array.ext'; simpa using hx
  obtain ⟨k, p, h1, h⟩ := isInt_rep h
  obtain ⟨k', q, h2, h⟩ := isInt_rep h
  refine fin_put hF hd (v := .int k (max p q)) ?_ m (by unfold intRes; rw [RepA, RepD]) hdst h
  have e : (if q > p then q else p) = max p q := by split <;> omega
  simp [execOp, hop, resolve, hc, hargs, invoke, builtin, Builtin.max_, Builtin.max2, m.evalInt h1, m.evalInt h2, e]
 ·exact h.elim
theorem snd_min {c : Call} (hop : oper.op = .call c) (hc : c.callee = .builtin .min) (h : effOp tb (Con P tb Wn Y) (.call c) oper.dst g o nid K) : ∃ e, K e ∧ Does tb X P F n g o a w oper e := by
 have hd : ∀ c, oper.op ≠ .defer c := by simp [hop]
 simp only [effOp, hc] at h
 split at h
 ·rename_i x y hx
  have hargs : c.args = #[x, y] := by apply Array.ext'; simpa using hx
  obtain ⟨k, p, h1, h⟩ := isInt_rep h
  obtain ⟨k', q, h2, h⟩ := isInt_rep h
  refine fin_put hF hd (v := .int k (min p q)) ?_ m (by unfold intRes; rw [RepA, RepD]) hdst h
  have e : (if q < p then q else p) = min p q := by split <;> omega
  simp [execOp, hop, resolve, hc, hargs, invoke, builtin, Builtin.min_, Builtin.min2, m.evalInt h1, m.evalInt h2, e]
 ·exact h.elim
theorem bnd_rep {x : Option Operand} {d : Nat} {K : Nat → Prop} (h : bnd g x d K) : ∃ k : Nat, K k ∧ ((x = none ∧ k = d) ∨ ∃ op q, x = some op ∧ a.eval op = .int q k) := by
 unfold bnd at h
 split at h
 ·exact ⟨d, h, .inl ⟨rfl, rfl⟩⟩
 ·rename_i op
  obtain ⟨q, n, h1, k, rfl, h⟩ := isInt_rep h
  exact ⟨k, h, .inr ⟨op, q, rfl, m.evalInt h1⟩⟩
omit hP hF m hdst in
theorem run_bound {q : IntKind} {k y : Nat} {code : BoundsCode} (hk : k ≤ y) : (Instr.sliceBound (.int q k) y code).run P w = .ok k w := by
 simp [Instr.sliceBound, asIntOf, Int.ofNat_le.2 hk, hk]
omit hP hF m hdst in
theorem run_bound0 {q : IntKind} {code : BoundsCode} : (Instr.sliceBound (.int q 0) 0 code).run P w = .ok 0 w := by
 simp [Instr.sliceBound, asIntOf]
omit hP hF m hdst in
theorem Mod.ro (m : Mod tb X g o a w G I) {z : Nat} {bulk : Bool} {T : TypeId} {cs : List A} (hz : o z = some (.var bulk T cs)) :
  ∃ b c, G z = some ⟨.pointer (some ⟨b, 0, none⟩), some b⟩ ∧ w.heap[b]? = some (.cells c T (0, 0)) ∧ RepAL G I w.heap cs c.toList ∧ (∀ v ∈ c.toList, v.oneCell' = true) ∧
   Mod tb X g (updO o z (.ro T cs)) a w G (fun b' => I b' ∨ b' = b) := by
 obtain ⟨b, c, r1, r2, r3, r4⟩ := m.objs z _ hz
 obtain ⟨h1, h2, h3⟩ := m.own z _ _ b hz rfl r1 rfl
 have hI : ∀ b', I b' → (I b' ∨ b' = b) := fun _ h => .inl h
 refine ⟨b, c, r1, r2, r3, r4, { m with slots := fun t => RepA.mono (fun _ _ h => h) hI (fun _ _ => rfl) _ _ (m.slots t), objs := ?_, dom := ?_, sep := ?_, own := ?_, isz := ?_, i0 := fun b' h => .inl (m.i0 b' h), inew := ?_, barr := ?_, env := ?_ }⟩
 ·intro j oj hj
  by_cases e : z = j
  ·subst e; rw [updO_self] at hj; cases hj
   exact ⟨b, c, r1, .inr rfl, r2, RepAL.mono (fun _ _ h => h) hI (fun _ _ => rfl) _ _ r3, r4⟩
  ·rw [updO_ne e] at hj
   exact ObOK.mono (fun _ _ h => h) hI (fun _ _ => rfl) (fun _ _ _ _ _ => rfl) (m.objs j oj hj)
 ·intro j gr hg
  by_cases e : z = j
  ·subst e; rw [updO_self]; rfl
  ·rw [updO_ne e]; exact m.dom j gr hg
 ·intro i j oi oj gi gj b' hi hj hli hlj
  by_cases e : z = i
  ·subst e; rw [updO_self] at hi; cases hi; simp [Ob.live] at hli
  ·by_cases e' : z = j
   ·subst e'; rw [updO_self] at hj; cases hj; simp [Ob.live] at hlj
   ·rw [updO_ne e] at hi; rw [updO_ne e'] at hj
    exact m.sep i j oi oj gi gj b' hi hj hli hlj
 ·intro i oi gi b' hi hli hg hb
  by_cases e : z = i
  ·subst e; rw [updO_self] at hi; cases hi; simp [Ob.live] at hli
  ·rw [updO_ne e] at hi
   obtain ⟨q1, q2, q3⟩ := m.own i oi gi b' hi hli hg hb
   refine ⟨fun h => ?_, q2, q3⟩
   rcases h with h | h
   ·exact q1 h
   ·subst h; exact e (m.sep z i _ oi _ gi b' hz hi rfl hli r1 hg rfl hb)
 ·rintro b' (h | h)
  ·exact m.isz b' h
  ·subst h; exact h2
 ·rintro b' (h | h)
  ·exact m.inew b' h
  ·subst h
   rcases h3 with h3 | h3
   ·exact .inr (.inr (.inr h3))
   ·exact .inr (.inr (.inl h3))
 ·intro i T' es hi hba
  by_cases e : z = i
  ·subst e; rw [updO_self]; simp
  ·rw [updO_ne e]; exact m.barr i T' es hi hba
 ·obtain ⟨k, Ft, f1, f2, f3, f4⟩ := m.env
  refine ⟨k, Ft, f1.st (fun _ _ _ => rfl) (fun _ _ => rfl) hI (fun b' hf h => ?_) ?_ rfl rfl rfl (Nat.le_refl _), f2, fun j oj gj b' hj hlj hg hb => ?_, fun i k' hi => ?_⟩
  ·rcases h with h | h
   ·exact h
   ·subst h; exact absurd hf (f3 z _ _ b' hz rfl r1 rfl)
  ·rintro b' (h | h)
   ·exact m.isz b' h
   ·subst h; exact h2
  ·by_cases e' : z = j
   ·subst e'; rw [updO_self] at hj; cases hj; simp [Ob.live] at hlj
   ·rw [updO_ne e'] at hj; exact f3 j oj gj b' hj hlj hg hb
  ·by_cases e : z = i
   ·subst e; rw [updO_self] at hi; cases hi
   ·rw [updO_ne e] at hi; exact f4 i k' hi
theorem snd_slice {T : TypeId} {x : Operand} {lo hi mx : Option Operand} (hop : oper.op = .slice T x lo hi mx) (h : effOp tb (Con P tb Wn Y) (.slice T x lo hi mx) oper.dst g o nid K) : ∃ e, K e ∧ Does tb X P F n g o a w oper e := by
 have hd : ∀ c, oper.op ≠ .defer c := by simp [hop]
 simp only [effOp] at h
 cases mx with
 | some z =>
  simp only at h
  cases hW : Nat.beq (Con P tb Wn Y).w 8 with
  | true => rw [hW] at h; exact h.elim
  | false =>
  rw [hW, cond_false] at h
  split at h
  ·rename_i e s1 s2 z' bk h0 hTy
   have hk := (hP.ty T _ hTy).kind
   simp only [TKOK] at hk
   split at h
   ·rename_i y hy
    have hY := hP.ty e y hy
    split at h
    ·rename_i es hx
     have rx := m.eval x
     rw [hx, RepA, RepD] at rx
     obtain ⟨ad, len, cap, hu, h1, h2, h3⟩ := rx
     obtain ⟨l, h, hl⟩ := bnd_rep (a := a) hP hF m hdst h
     obtain ⟨hh, h, hhh⟩ := bnd_rep (a := a) hP hF m hdst h
     obtain ⟨qm, h, hqm⟩ := bnd_rep (a := a) hP hF m hdst h
     obtain ⟨q1, q2, q3, q4, es', hes', h⟩ := h
     subst hes'
     have hhh : ∃ q, a.eval h0 = .int q hh := by
      rcases hhh with ⟨h1, _⟩ | ⟨op, q, h1, h2⟩
      ·cases h1
      ·cases h1; exact ⟨q, h2⟩
     have hqm : ∃ q, a.eval z = .int q qm := by
      rcases hqm with ⟨h1, _⟩ | ⟨op, q, h1, h2⟩
      ·cases h1
      ·cases h1; exact ⟨q, h2⟩
     obtain ⟨k1, hhh⟩ := hhh
     obtain ⟨k2, hqm⟩ := hqm
     have hb : (Instr.sliceBounds true len cap (lo.map a.eval) (some (a.eval h0)) (some (a.eval z))).run P w = .ok (l, hh, qm) w := by
      unfold Instr.sliceBounds
      rcases hl with ⟨rfl, rfl⟩ | ⟨op', qq', rfl, ho'⟩
      ·simp [hhh, hqm, run_bound (P := P) (w := w) (q := k2) (by omega : qm ≤ cap), run_bound (P := P) (w := w) (q := k1) q2]
      ·simp [hhh, hqm, ho', run_bound (P := P) (w := w) (q := k2) (by omega : qm ≤ cap), run_bound (P := P) (w := w) (q := k1) q2, run_bound (P := P) (w := w) (q := qq') q1]
     refine fin_put hF hd (v := .slice (if qm = l then ad else ad.map (·.add (l * y.size))) (hh - l) (qm - l)) ?_ m ?_ hdst h
     ·have e1 : (Instr.sliceAt T (a.eval x) (lo.map a.eval) (some (a.eval h0)) (some (a.eval z))).run P w = .ok (.slice (if qm = l then ad else ad.map (·.add (l * y.size))) (hh - l) (qm - l)) w := by
       simp [Instr.sliceAt, Instr.slice, run_und hk, hu, hb, hY.size]
      simp [execOp, hop, e1]
     ·rw [RepA, RepD]
      refine ⟨_, hh - l, qm - l, rfl, by simp; omega, by omega, ?_⟩
      rcases Nat.eq_zero_or_pos (hh - l) with e0 | e0
      ·exact .inl e0
      ·right
       rcases h3 with h3 | ⟨sz, b, off, c, T', fr, r1, r2, r3, r4⟩
       ·omega
       ·have hsz : sz = y.size := by
         have h0 : 0 < es.length := by omega
         have hm : es[0] ∈ es := List.getElem_mem h0
         rw [← RepR.lens r4 _ hm, q4 _ hm]
        subst hsz
        refine ⟨y.size, b, off + l * y.size, c, T', fr, ?_, r2, r3, ?_⟩
        ·rw [if_neg (by omega), r1, Option.map_some, addr_add]
        ·have := RepR.sub (RepR.takes r4 hh) l
         rwa [List.drop_drop] at this
    ·exact h.elim
   ·exact h.elim
  ·exact h.elim
 | none =>
  simp only at h
  split at h
  ·rename_i e s1 s2 z bk hTy
   have hk := (hP.ty T _ hTy).kind
   simp only [TKOK] at hk
   split at h
   ·rename_i y hy
    have hY := hP.ty e y hy
    split at h
    ·rename_i hx
     have rx := m.eval x
     rw [hx, RepA, RepD] at rx
     obtain ⟨l, h, hl⟩ := bnd_rep (a := a) hP hF m hdst h
     obtain ⟨hh, h, hhh⟩ := bnd_rep (a := a) hP hF m hdst h
     obtain ⟨rfl, rfl, h⟩ := h
     have hb : (Instr.sliceBounds true 0 0 (lo.map a.eval) (hi.map a.eval) none).run P w = .ok (0, 0, 0) w := by
      unfold Instr.sliceBounds
      rcases hhh with ⟨rfl, _⟩ | ⟨op, qq, rfl, ho⟩
      ·rcases hl with ⟨rfl, _⟩ | ⟨op, qq, rfl, ho⟩
       ·simp
       ·simp [ho, run_bound0]
      ·rcases hl with ⟨rfl, _⟩ | ⟨op', qq', rfl, ho'⟩
       ·simp [ho, run_bound0]
       ·simp [ho, ho', run_bound0]
     refine fin_put hF hd (v := .slice none 0 0) ?_ m (by rw [RepA, RepD]) hdst h
     have e1 : (Instr.sliceAt T (a.eval x) (lo.map a.eval) (hi.map a.eval) none).run P w = .ok (.slice none 0 0) w := by
      simp [Instr.sliceAt, Instr.slice, run_und hk, rx, hb, hY.size]
     simp [execOp, hop, e1]
    ·rename_i es hx
     have rx := m.eval x
     rw [hx, RepA, RepD] at rx
     obtain ⟨ad, len, cap, hu, h1, h2, h3⟩ := rx
     obtain ⟨l, h, hl⟩ := bnd_rep (a := a) hP hF m hdst h
     obtain ⟨hh, h, hhh⟩ := bnd_rep (a := a) hP hF m hdst h
     obtain ⟨q1, q2, q3, h⟩ := h
     have hb : (Instr.sliceBounds true len cap (lo.map a.eval) (hi.map a.eval) none).run P w = .ok (l, hh, cap) w := by
      unfold Instr.sliceBounds
      rcases hhh with ⟨rfl, rfl⟩ | ⟨op, qq, rfl, ho⟩
      ·rcases hl with ⟨rfl, rfl⟩ | ⟨op, qq, rfl, ho⟩
       ·simp [h1]
       ·simp [ho, h1, run_bound (P := P) (w := w) (q := qq) (by omega : l ≤ len)]
      ·rcases hl with ⟨rfl, rfl⟩ | ⟨op', qq', rfl, ho'⟩
       ·simp [ho, run_bound (P := P) (w := w) (q := qq) (by omega : hh ≤ cap)]
       ·simp [ho, ho', run_bound (P := P) (w := w) (q := qq) (by omega : hh ≤ cap), run_bound (P := P) (w := w) (q := qq') q1]
     refine fin_put hF hd (v := .slice (if cap = l then ad else ad.map (·.add (l * y.size))) (hh - l) (cap - l)) ?_ m ?_ hdst h
     ·have e1 : (Instr.sliceAt T (a.eval x) (lo.map a.eval) (hi.map a.eval) none).run P w = .ok (.slice (if cap = l then ad else ad.map (·.add (l * y.size))) (hh - l) (cap - l)) w := by
       simp [Instr.sliceAt, Instr.slice, run_und hk, hu, hb, hY.size]
      simp [execOp, hop, e1]
     ·rw [RepA, RepD]
      refine ⟨_, hh - l, cap - l, rfl, by simp; omega, by omega, ?_⟩
      rcases Nat.eq_zero_or_pos (hh - l) with e0 | e0
      ·exact .inl e0
      ·right
       rcases h3 with h3 | ⟨sz, b, off, c, T', fr, r1, r2, r3, r4⟩
       ·omega
       ·have hsz : sz = y.size := by
         have h0 : 0 < es.length := by omega
         have hm : es[0] ∈ es := List.getElem_mem h0
         rw [← RepR.lens r4 _ hm, q3 _ hm]
        subst hsz
        refine ⟨y.size, b, off + l * y.size, c, T', fr, ?_, r2, r3, ?_⟩
        ·rw [if_neg (by omega), r1, Option.map_some, addr_add]
        ·have := RepR.sub (RepR.takes r4 hh) l
         rwa [List.drop_drop] at this
    ·rename_i i hx
     have rx := m.eval x
     rw [hx, RepA] at rx
     obtain ⟨⟨gr, hg, hu⟩, _⟩ := rx
     cases lo with
     | some z =>
      cases hdd : oper.dst with
      | none => simp only [hdd] at h
      | some d =>
       cases ho : o i with
       | none => simp only [hdd, ho] at h
       | some ob =>
        cases ob with
        | arr e' es =>
         simp only [hdd, ho] at h
         cases hb : (Nat.beq e e' && hi.isNone) with
         | false => rw [hb] at h; exact h.elim
         | true =>
          rw [hb] at h
          simp only [cond_true] at h
          rw [Bool.and_eq_true, Option.isNone_iff_eq_none] at hb
          obtain ⟨hb1, rfl⟩ := hb
          have he := Nat.eq_of_beq_eq_true hb1
          subst he
          obtain ⟨l, h, hl⟩ := bnd_rep (a := a) hP hF m hdst h
          obtain ⟨q2, h⟩ := h
          obtain ⟨es', hes', h⟩ : ∃ es', es.drop l = es' ∧ Ch (K ⟨some (d, .own i), [(i, .arr e es')], [i], 0, [], [i]⟩) (K ⟨some (d, .sub i y.size (l * y.size) y.size (es.length - l)), [], [i], 0, [], []⟩) := by
           rcases h with ⟨es', q, h⟩ | h
           ·exact ⟨es', q, .l h⟩
           ·exact ⟨_, rfl, .r h⟩
          have hl : ∃ q, a.eval z = .int q l := by
           rcases hl with ⟨h1, _⟩ | ⟨op, q, h1, h2⟩
           ·cases h1
           ·cases h1; exact ⟨q, h2⟩
          obtain ⟨q, hl⟩ := hl
          obtain ⟨gr', hg', hown⟩ := ObOK.ownV hy (m.objs i _ ho)
          rw [hg] at hg'; cases hg'
          obtain ⟨v, blk⟩ := gr
          simp only at hu hown
          have hown0 := hown
          have key : ∃ ad cap, v = .slice ad es.length cap ∧ es.length ≤ cap ∧ OwnV e y.size I w.heap es' (.slice (if cap = l then ad else ad.map (·.add (l * y.size))) (es.length - l) (cap - l)) blk := by
           rcases hown with ⟨rfl, rfl, rfl⟩ | ⟨b, z0, cap, c, rfl, rfl, r1, r2, r3, r4, r5⟩
           ·have : l = 0 := by simpa using q2
            subst this
            exact ⟨none, 0, rfl, Nat.le_refl _, .inl ⟨by rw [← hes']; rfl, rfl, rfl⟩⟩
           ·refine ⟨_, cap, rfl, r2, ?_⟩
            by_cases hcl : cap = l
            ·rw [if_pos hcl]
             have h0 : es' = [] := by rw [← hes']; exact List.drop_of_length_le (by omega)
             subst h0
             exact .inr ⟨b, z0, cap - l, c, by rw [List.length_nil, show es.length - l = 0 by omega], rfl, r1, Nat.zero_le _, by omega, by rw [show cap - l = 0 by omega]; omega, by rw [RepR]; trivial⟩
            ·rw [if_neg hcl]
             have hmul : l * y.size + (cap - l) * y.size = cap * y.size := by rw [← Nat.add_mul]; congr 1; omega
             refine .inr ⟨b, z0 + l * y.size, cap - l, c, ?_, rfl, r1, by rw [← hes', List.length_drop]; omega, by omega, by omega, ?_⟩
             ·rw [Option.map_some, addr_add, ← hes', List.length_drop]
             ·have := RepR.sub r5 l
              rw [List.drop_drop] at this
              rw [← hes']
              exact this
          obtain ⟨ad, cap, rfl, hcap, hown'⟩ := key
          have hrun : (execOp a.eval oper).run P w = .ok (.value (.slice (if cap = l then ad else ad.map (·.add (l * y.size))) (es.length - l) (cap - l))) w := by
           have hb : (Instr.sliceBounds true es.length cap (some (a.eval z)) none none).run P w = .ok (l, es.length, cap) w := by
            unfold Instr.sliceBounds
            simp [hl, run_bound (P := P) (w := w) (q := q) (by omega : l ≤ es.length)]
           have e1 : (Instr.sliceAt T (a.eval x) (some (a.eval z)) none none).run P w = .ok (.slice (if cap = l then ad else ad.map (·.add (l * y.size))) (es.length - l) (cap - l)) w := by
            simp [Instr.sliceAt, Instr.slice, run_und hk, hu, hb, hY.size]
           simp [execOp, hop] at e1 ⊢
           simp [e1]
          rcases h with h | h
          rotate_left
          ·refine ⟨_, h, fun next Q hK => wpIn_value hF hd hrun ?_⟩
           have m3 := m.put (d := d) (x := .sub i y.size (l * y.size) y.size (es.length - l)) (v := .slice (if cap = l then ad else ad.map (·.add (l * y.size))) (es.length - l) (cap - l)) (hdst d hdd) (by
            rw [RepA]
            refine ⟨_, _, rfl, by omega, ?_⟩
            rcases Nat.eq_zero_or_pos (es.length - l) with e0 | e0
            ·exact .inl e0
            ·refine .inr (.inl ?_)
             rcases hown0 with ⟨rfl, _⟩ | ⟨b, z0, cap', c, e1, e2, _⟩
             ·simp at e0
             ·cases e1
              subst e2
              refine ⟨b, z0, _, _, hg, ?_, ?_⟩
              ·rw [if_neg (by omega), Option.map_some, addr_add]
              ·rw [← Nat.add_mul]
               exact Nat.mul_le_mul_right _ (by omega))
           rw [hdd]
           refine hK _ _ G I ?_
           rw [appO_id rfl rfl rfl]
           exact m3
          generalize (if cap = l then ad else ad.map (·.add (l * y.size))) = ad2 at hown' hrun
          have hib : X.nb ≤ i ∨ X.ba i = true := by
           rcases Nat.lt_or_ge i X.nb with h3 | h3
           ·cases hba : X.ba i with
            | true => exact .inr rfl
            | false => exact absurd ho (m.barr i _ _ h3 hba)
           ·exact .inl h3
          refine ⟨_, h, fun next Q hK => wpIn_value hF hd hrun ?_⟩
          have m2 := m.turn ho rfl hib (gr' := ⟨.slice ad2 (es.length - l) (cap - l), blk⟩) hg (w' := w) (Nat.le_refl _) (fun _ _ _ => rfl) rfl rfl rfl (fun b hb => .inl hb) (OwnV.ob hy updG_self hown')
          have m3 := m2.put (d := d) (x := .own i) (v := .slice ad2 (es.length - l) (cap - l)) (hdst d hdd) (by rw [RepA]; exact ⟨⟨_, updG_self, rfl⟩, rfl⟩)
          rw [hdd]
          refine hK _ _ (updG G i ⟨.slice ad2 (es.length - l) (cap - l), blk⟩) I ?_
          have e1 : appO ⟨some (d, .own i), [(i, .arr e es')], [i], 0, [], [i]⟩ o = updO (fun j => (o j).map (clrO [i])) i (.arr e es') := by
           funext j
           simp only [appO, lookO, updO, trO]
           cases Nat.beq i j <;> simp
          rw [e1]
          exact m3
        | _ => simp only [hdd, ho] at h
     | none =>
      cases hdd : oper.dst with
      | none => simp only [hdd] at h
      | some d =>
       cases ho : o i with
       | none => simp only [hdd, ho] at h
       | some ob =>
        cases ob with
        | arr e' es =>
         simp only [hdd, ho] at h
         cases hb : Nat.beq e e' with
         | false => rw [hb] at h; exact h.elim
         | true =>
          have he := Nat.eq_of_beq_eq_true hb
          subst he
          rw [hb] at h
          simp only [cond_true] at h
          obtain ⟨hh, h, hhh⟩ := bnd_rep (a := a) hP hF m hdst h
          obtain ⟨q2, h⟩ := h
          obtain ⟨es', hes', h⟩ : ∃ es', es.take hh = es' ∧ Ch (K ⟨some (d, .own i), [(i, .arr e es')], [i], 0, [], [i]⟩) (K ⟨some (d, .pre i hh), [], [i], 0, [], []⟩) := by
           rcases h with ⟨es', q, h⟩ | h
           ·exact ⟨es', q, .l h⟩
           ·exact ⟨_, rfl, .r h⟩
          obtain ⟨gr', hg', hown⟩ := ObOK.ownV hy (m.objs i _ ho)
          rw [hg] at hg'; cases hg'
          obtain ⟨v, blk⟩ := gr
          simp only at hu hown
          have hlen' : es'.length = hh := by rw [← hes']; simp; omega
          have key : ∃ ad cap, v = .slice ad es.length cap ∧ es.length ≤ cap ∧ OwnV e y.size I w.heap es' (.slice ad hh cap) blk := by
           rcases hown with ⟨rfl, rfl, rfl⟩ | ⟨b, z0, cap, c, rfl, rfl, r1, r2, r3, r4, r5⟩
           ·have : hh = 0 := by simpa using q2
            subst this
            exact ⟨none, 0, rfl, Nat.le_refl _, .inl ⟨by rw [← hes']; rfl, rfl, rfl⟩⟩
           ·refine ⟨_, cap, rfl, r2, .inr ⟨b, z0, cap, c, by rw [hlen'], rfl, r1, by omega, r3, r4, ?_⟩⟩
            rw [← hes']; exact RepR.takes r5 hh
          obtain ⟨ad, cap, rfl, hcap, hown'⟩ := key
          have hb : (Instr.sliceBounds true es.length cap none (hi.map a.eval) none).run P w = .ok (0, hh, cap) w := by
           unfold Instr.sliceBounds
           rcases hhh with ⟨rfl, rfl⟩ | ⟨op, qq, rfl, ho⟩
           ·simp
           ·simp [ho, run_bound (P := P) (w := w) (q := qq) (by omega : hh ≤ cap)]
          have hrun : (execOp a.eval oper).run P w = .ok (.value (.slice ad hh cap)) w := by
           have e1 : (Instr.sliceAt T (a.eval x) (Option.map a.eval none) (hi.map a.eval) none).run P w = .ok (.slice ad hh cap) w := by
            have e0 : (if cap = 0 then ad else ad.map (·.add (0 * y.size))) = ad := by
             split
             ·rfl
             ·cases ad with
              | none => rfl
              | some z => simp [Addr.add]
            simp [Instr.sliceAt, Instr.slice, run_und hk, hu, hb, hY.size]
            simpa using e0
           simp [execOp, hop] at e1 ⊢
           simp [e1]
          rcases h with h | h
          rotate_left
          ·have hgl : ∃ c, (GR.mk (.slice ad es.length cap) blk).val = .slice ad es.length c := ⟨_, rfl⟩
           refine ⟨_, h, fun next Q hK => wpIn_value hF hd hrun ?_⟩
           have m3 := m.put (d := d) (x := .pre i hh) (v := .slice ad hh cap) (hdst d hdd) (by rw [RepA]; exact ⟨_, ad, es.length, cap, hg, rfl, q2, rfl⟩)
           rw [hdd]
           refine hK _ _ G I ?_
           rw [appO_id rfl rfl rfl]
           exact m3
          have hib : X.nb ≤ i ∨ X.ba i = true := by
           rcases Nat.lt_or_ge i X.nb with h3 | h3
           ·cases hba : X.ba i with
            | true => exact .inr rfl
            | false => exact absurd ho (m.barr i _ _ h3 hba)
           ·exact .inl h3
          refine ⟨_, h, fun next Q hK => wpIn_value hF hd hrun ?_⟩
          have m2 := m.turn ho rfl hib (gr' := ⟨.slice ad hh cap, blk⟩) hg (w' := w) (Nat.le_refl _) (fun _ _ _ => rfl) rfl rfl rfl (fun b hb => .inl hb) (OwnV.ob hy updG_self hown')
          have m3 := m2.put (d := d) (x := .own i) (v := .slice ad hh cap) (hdst d hdd) (by rw [RepA]; exact ⟨⟨_, updG_self, rfl⟩, rfl⟩)
          rw [hdd]
          refine hK _ _ (updG G i ⟨.slice ad hh cap, blk⟩) I ?_
          have e1 : appO ⟨some (d, .own i), [(i, .arr e es')], [i], 0, [], [i]⟩ o = updO (fun j => (o j).map (clrO [i])) i (.arr e es') := by
           funext j
           simp only [appO, lookO, updO, trO]
           cases Nat.beq i j <;> simp
          rw [e1]
          exact m3
        | _ => simp only [hdd, ho] at h
    ·exact h.elim
   ·exact h.elim
  ·rename_i len e s1 s2 z bk hTy
   have hk := (hP.ty T _ hTy).kind
   simp only [TKOK] at hk
   split at h
   ·rename_i y hy
    have hY := hP.ty e y hy
    split at h
    ·rename_i i d hx hdd
     have rx := m.eval x
     rw [hx, RepA] at rx
     obtain ⟨b0, hg, hu⟩ := rx
     split at h
     ·rename_i bulk T' cs ho
      rcases h with h | h
      rotate_left
      ·obtain ⟨hh, h, hhh⟩ := bnd_rep (a := a) hP hF m hdst h
       obtain ⟨q1, h⟩ := h
       have hb : (Instr.sliceBounds false len len none (hi.map a.eval) none).run P w = .ok (0, hh, len) w := by
        unfold Instr.sliceBounds
        rcases hhh with ⟨rfl, rfl⟩ | ⟨op, qq, rfl, ho⟩
        ·simp
        ·simp [ho, run_bound (P := P) (w := w) (q := qq) q1]
       have hrun : (execOp a.eval oper).run P w = .ok (.value (.slice (some ⟨b0, 0, none⟩) hh len)) w := by
        have e1 : (Instr.sliceAt T (a.eval x) (Option.map a.eval none) (hi.map a.eval) none).run P w = .ok (.slice (some ⟨b0, 0, none⟩) hh len) w := by
         have e0 : (if len = 0 then (⟨b0, 0, none⟩ : Addr) else (⟨b0, 0, none⟩ : Addr).add (0 * y.size)) = ⟨b0, 0, none⟩ := by
          split
          ·rfl
          ·simp [Addr.add]
         simp [Instr.sliceAt, run_und hk, hu, hb, hY.size, Instr.sureAddr]
         simpa using e0
        simp [execOp, hop] at e1 ⊢
        simp [e1]
       have m3 := m.put (d := d) (x := .sub i 0 0 y.size hh) (v := .slice (some ⟨b0, 0, none⟩) hh len) (hdst d hdd) (by
        rw [RepA]
        exact ⟨_, len, rfl, q1, .inr (.inr ⟨b0, rfl, hg, rfl⟩)⟩)
       refine ⟨_, h, fun next Q hK => wpIn_value hF hd hrun ?_⟩
       rw [hdd]
       refine hK _ _ G I ?_
       rw [appO_id rfl rfl rfl]
       exact m3
      obtain ⟨hh, h, hhh⟩ := bnd_rep (a := a) hP hF m hdst h
      obtain ⟨q1, es, q2, q3, q4, h⟩ := h
      obtain ⟨b, c, r1, r2, r3, r4, m2⟩ := Mod.ro m ho
      rw [hg] at r1; cases r1
      have hb : (Instr.sliceBounds false len len none (hi.map a.eval) none).run P w = .ok (0, hh, len) w := by
       unfold Instr.sliceBounds
       rcases hhh with ⟨rfl, rfl⟩ | ⟨op, qq, rfl, ho⟩
       ·simp
       ·simp [ho, run_bound (P := P) (w := w) (q := qq) q1]
      have hrun : (execOp a.eval oper).run P w = .ok (.value (.slice (some ⟨b0, 0, none⟩) hh len)) w := by
       have e1 : (Instr.sliceAt T (a.eval x) (Option.map a.eval none) (hi.map a.eval) none).run P w = .ok (.slice (some ⟨b0, 0, none⟩) hh len) w := by
        have e0 : (if len = 0 then (⟨b0, 0, none⟩ : Addr) else (⟨b0, 0, none⟩ : Addr).add (0 * y.size)) = ⟨b0, 0, none⟩ := by
         split
         ·rfl
         ·simp [Addr.add]
        simp [Instr.sliceAt, run_und hk, hu, hb, hY.size, Instr.sureAddr]
        simpa using e0
       simp [execOp, hop] at e1 ⊢
       simp [e1]
      have r5 : RepL (fun b' => I b' ∨ b' = b0) w.heap es.flatten (c.toList.take (hh * y.size)) := by
       have h0 := r3.take (hh * y.size)
       rw [q2] at h0
       exact RepL.mono (fun _ h => .inl h) (fun _ _ => rfl) _ _ (RepAL.of_d.1 h0)
      have m3 := m2.put (d := d) (x := .d (.seq es)) (v := .slice (some ⟨b0, 0, none⟩) hh len) (hdst d hdd) (by
       rw [RepA, RepD]
       refine ⟨_, hh, len, rfl, q4, q1, .inr ⟨y.size, b0, 0, c, T', (0, 0), rfl, .inr rfl, r2, ?_⟩⟩
       have h0 := RepR.mk (ws := c.toList.drop (hh * y.size)) q3 r5 (fun v hv => r4 v (List.mem_of_mem_take hv))
       rw [List.take_append_drop] at h0
       rw [List.drop_zero]
       exact h0)
      refine ⟨_, h, fun next Q hK => wpIn_value hF hd hrun ?_⟩
      rw [hdd]
      refine hK _ _ G (fun b' => I b' ∨ b' = b0) ?_
      rw [appO_one rfl rfl rfl]
      exact m3
     ·rename_i T' cs ho
      obtain ⟨hh, h, hhh⟩ := bnd_rep (a := a) hP hF m hdst h
      obtain ⟨q1, es, q2, q3, q4, h⟩ := h
      obtain ⟨b, c, r1, r0, r2, r3, r4⟩ := m.objs _ _ ho
      rw [hg] at r1; cases r1
      have hb : (Instr.sliceBounds false len len none (hi.map a.eval) none).run P w = .ok (0, hh, len) w := by
       unfold Instr.sliceBounds
       rcases hhh with ⟨rfl, rfl⟩ | ⟨op, qq, rfl, ho⟩
       ·simp
       ·simp [ho, run_bound (P := P) (w := w) (q := qq) q1]
      have hrun : (execOp a.eval oper).run P w = .ok (.value (.slice (some ⟨b0, 0, none⟩) hh len)) w := by
       have e1 : (Instr.sliceAt T (a.eval x) (Option.map a.eval none) (hi.map a.eval) none).run P w = .ok (.slice (some ⟨b0, 0, none⟩) hh len) w := by
        have e0 : (if len = 0 then (⟨b0, 0, none⟩ : Addr) else (⟨b0, 0, none⟩ : Addr).add (0 * y.size)) = ⟨b0, 0, none⟩ := by
         split
         ·rfl
         ·simp [Addr.add]
        simp [Instr.sliceAt, run_und hk, hu, hb, hY.size, Instr.sureAddr]
        simpa using e0
       simp [execOp, hop] at e1 ⊢
       simp [e1]
      have r5 : RepL I w.heap es.flatten (c.toList.take (hh * y.size)) := by
       have h0 := r3.take (hh * y.size)
       rw [q2] at h0
       exact RepAL.of_d.1 h0
      have m3 := m.put (d := d) (x := .d (.seq es)) (v := .slice (some ⟨b0, 0, none⟩) hh len) (hdst d hdd) (by
       rw [RepA, RepD]
       refine ⟨_, hh, len, rfl, q4, q1, .inr ⟨y.size, b0, 0, c, T', (0, 0), rfl, r0, r2, ?_⟩⟩
       have h0 := RepR.mk (ws := c.toList.drop (hh * y.size)) q3 r5 (fun v hv => r4 v (List.mem_of_mem_take hv))
       rw [List.take_append_drop] at h0
       rw [List.drop_zero]
       exact h0)
      refine ⟨_, h, fun next Q hK => wpIn_value hF hd hrun ?_⟩
      rw [hdd]
      refine hK _ _ G I ?_
      rw [appO_id rfl rfl rfl]
      exact m3
     ·exact h.elim
    ·rename_i l0 i d hx hdd
     have rx := m.eval x
     rw [hx, RepA] at rx
     obtain ⟨b0, hg, hu⟩ := rx
     split at h
     ·rename_i T' cs ho
      obtain ⟨l, h, hl⟩ := bnd_rep (a := a) hP hF m hdst h
      obtain ⟨q1, h⟩ := h
      have hl : ∃ q, a.eval l0 = .int q l := by
       rcases hl with ⟨h1, _⟩ | ⟨op, q, h1, h2⟩
       ·cases h1
       ·cases h1; exact ⟨q, h2⟩
      obtain ⟨q, hl⟩ := hl
      have hb : (Instr.sliceBounds false len len (some (a.eval l0)) none none).run P w = .ok (l, len, len) w := by
       unfold Instr.sliceBounds
       simp [hl, run_bound (P := P) (w := w) (q := q) q1]
      obtain ⟨ad, had⟩ : ∃ ad : Addr, ad = if len = l then (⟨b0, 0, none⟩ : Addr) else (⟨b0, 0, none⟩ : Addr).add (l * y.size) := ⟨_, rfl⟩
      have hrun : (execOp a.eval oper).run P w = .ok (.value (.slice (some ad) (len - l) (len - l))) w := by
       have e1 : (Instr.sliceAt T (a.eval x) (some (a.eval l0)) (Option.map a.eval none) none).run P w = .ok (.slice (some ad) (len - l) (len - l)) w := by
        rw [had]
        simp [Instr.sliceAt, run_und hk, hu, hb, hY.size, Instr.sureAddr]
       simp [execOp, hop] at e1 ⊢
       simp [e1]
      have m3 := m.put (d := d) (x := .sub i 0 (l * y.size) y.size (len - l)) (v := .slice (some ad) (len - l) (len - l)) (hdst d hdd) (by
       rw [RepA]
       refine ⟨_, len - l, rfl, Nat.le_refl _, ?_⟩
       by_cases e : len = l
       ·exact .inl (by omega)
       ·rw [if_neg e] at had
        exact .inr (.inr ⟨b0, rfl, hg, by rw [had, addr_add, Nat.zero_add]⟩))
      refine ⟨_, h, fun next Q hK => wpIn_value hF hd hrun ?_⟩
      rw [hdd]
      refine hK _ _ G I ?_
      rw [appO_id rfl rfl rfl]
      exact m3
     ·exact h.elim
    ·rename_i i k sz q d hx hdd
     have rx := m.eval x
     rw [hx, RepA] at rx
     obtain ⟨b0, z0, ln, cap, hg, hu⟩ := rx
     split at h
     ·rename_i T' es ho
      obtain ⟨hh, h, hhh⟩ := bnd_rep (a := a) hP hF m hdst h
      obtain ⟨q1, q2, q3, h⟩ := h
      have hln : ln = es.length := by
       obtain ⟨y', hy', hob⟩ := m.objs i _ ho
       rcases hob with ⟨rfl, h2⟩ | ⟨b, z1, cap1, c, h2, _⟩
       ·simp at q2
       ·rw [hg] at h2; cases h2; rfl
      have hb : (Instr.sliceBounds false len len none (hi.map a.eval) none).run P w = .ok (0, hh, len) w := by
       unfold Instr.sliceBounds
       rcases hhh with ⟨rfl, rfl⟩ | ⟨op, qq, rfl, ho⟩
       ·simp
       ·simp [ho, run_bound (P := P) (w := w) (q := qq) q1]
      have hrun : (execOp a.eval oper).run P w = .ok (.value (.slice (some ⟨b0, z0 + k * sz + q, none⟩) hh len)) w := by
       have e1 : (Instr.sliceAt T (a.eval x) (Option.map a.eval none) (hi.map a.eval) none).run P w = .ok (.slice (some ⟨b0, z0 + k * sz + q, none⟩) hh len) w := by
        have e0 : (if len = 0 then (⟨b0, z0 + k * sz + q, none⟩ : Addr) else (⟨b0, z0 + k * sz + q, none⟩ : Addr).add (0 * y.size)) = ⟨b0, z0 + k * sz + q, none⟩ := by
         split
         ·rfl
         ·simp [Addr.add]
        simp [Instr.sliceAt, run_und hk, hu, hb, hY.size, Instr.sureAddr]
        simpa using e0
       simp [execOp, hop] at e1 ⊢
       simp [e1]
      refine ⟨_, h, fun next Q hK => wpIn_value hF hd hrun ?_⟩
      have m3 := m.put (d := d) (x := .sub i sz (k * sz + q) y.size hh) (v := .slice (some ⟨b0, z0 + k * sz + q, none⟩) hh len) (hdst d hdd) (by
       rw [RepA]
       refine ⟨_, len, rfl, q1, .inr (.inl ⟨b0, z0, ln, cap, hg, by rw [Nat.add_assoc], ?_⟩)⟩
       have : (k + 1) * sz ≤ ln * sz := Nat.mul_le_mul_right _ (by omega)
       rw [Nat.add_mul, Nat.one_mul] at this
       omega)
      rw [hdd]
      refine hK _ _ G I ?_
      rw [appO_id rfl rfl rfl]
      exact m3
     ·exact h.elim
    ·rename_i cs d hx hdd
     have rx := m.eval x
     cases hW : Nat.beq (Con P tb Wn Y).w 8 with
     | true => rw [hW] at h; exact h.elim
     | false =>
     rw [hW, cond_false] at h
     rw [hx, RepA, RepD] at rx
     obtain ⟨b0, z0, c, T', fr, hu, p1, p2, p3⟩ := rx
     obtain ⟨hh, h, hhh⟩ := bnd_rep (a := a) hP hF m hdst h
     obtain ⟨q1, es, q2, q3, q4, q5, q6, h⟩ := h
     have hb : (Instr.sliceBounds false len len none (hi.map a.eval) none).run P w = .ok (0, hh, len) w := by
      unfold Instr.sliceBounds
      rcases hhh with ⟨rfl, rfl⟩ | ⟨op, qq, rfl, ho⟩
      ·simp
      ·simp [ho, run_bound (P := P) (w := w) (q := qq) q1]
     have hrun : (execOp a.eval oper).run P w = .ok (.value (.slice (some ⟨b0, z0, none⟩) hh len)) w := by
      have e1 : (Instr.sliceAt T (a.eval x) (Option.map a.eval none) (hi.map a.eval) none).run P w = .ok (.slice (some ⟨b0, z0, none⟩) hh len) w := by
       have e0 : (if len = 0 then (⟨b0, z0, none⟩ : Addr) else (⟨b0, z0, none⟩ : Addr).add (0 * y.size)) = ⟨b0, z0, none⟩ := by
        split
        ·rfl
        ·simp [Addr.add]
       simp [Instr.sliceAt, run_und hk, hu, hb, hY.size, Instr.sureAddr]
       simpa using e0
      simp [execOp, hop] at e1 ⊢
      simp [e1]
     have r5 : RepL I w.heap es.flatten ((c.toList.drop z0).take (hh * y.size)) := by
      have h0 := p3.take (hh * y.size)
      rw [q2, List.take_take, Nat.min_eq_left q6] at h0
      exact h0
     have hone : ∀ (l : List D) (vs : List Value), l.all D.intB = true → RepL I w.heap l vs → ∀ v ∈ vs, v.oneCell' = true := by
      intro l
      induction l with
      | nil => intro vs _ r v hv; rw [RepL] at r; subst r; cases hv
      | cons x l ih =>
       intro vs ha r v hv
       obtain ⟨u, q, rfl, r1, r2⟩ := RepL.uncons r
       rw [List.all_cons, Bool.and_eq_true] at ha
       rcases List.mem_cons.1 hv with rfl | hv
       ·unfold D.intB at ha
        split at ha
        ·rw [RepD] at r1; subst r1; rfl
        ·exact absurd ha.1 (by simp)
       ·exact ih q ha.2 r2 v hv
     have m3 := m.put (d := d) (x := .d (.seq es)) (v := .slice (some ⟨b0, z0, none⟩) hh len) (hdst d hdd) (by
      rw [RepA, RepD]
      refine ⟨_, hh, len, rfl, q4, q1, .inr ⟨y.size, b0, z0, c, T', fr, rfl, p1, p2, ?_⟩⟩
      have h0 := RepR.mk (ws := (c.toList.drop z0).drop (hh * y.size)) q3 r5 (hone _ _ q5 r5)
      rw [List.take_append_drop] at h0
      exact h0)
     refine ⟨_, h, fun next Q hK => wpIn_value hF hd hrun ?_⟩
     rw [hdd]
     refine hK _ _ G I ?_
     rw [appO_id rfl rfl rfl]
     exact m3
    ·exact h.elim
   ·exact h.elim
  ·exact h.elim
end
end Go.Ev


namespace Go.Ev
open RowKit
section
variable {P : Program}
def CheckOK (P : Program) (D : Nat) (t : TypeId) (k : List Bool) : Prop :=
 ∀ (em : Bool) (w : World) (xs : List Value), fitsB k xs = true → (Instr.checkKey em D t (packV (aggT P t) xs)).run P w = .ok () w
theorem check_ok : ∀ (d : Nat) (t : TypeId) (k : List Bool), eqKinds P d t = some k → ∀ c, CheckOK P (d + c) t k
 | 0, _, _, h, _ => by simp [eqKinds] at h
 | d + 1, t, k, h, c => by
  intro em w xs hf
  rw [show d + 1 + c = d + c + 1 by omega]
  unfold eqKinds at h
  split at h
  ·rename_i hu
   cases h
   simp [packV, aggT, hu, Instr.checkKey, run_underlying hu]
  ·rename_i ik hu
   cases h
   simp [packV, aggT, hu, Instr.checkKey, run_underlying hu]
  ·rename_i fs hu
   have hagg : aggT P t = true := by simp [aggT, hu]
   cases hs : P.stoodInHeld t with
   | true => simp [hs] at h
   | false =>
    simp only [hs, cond_false] at h
    split at h
    ·rename_i k' i hk hi
     cases hb : Nat.beq i.size k'.length with
     | false => simp [hb] at h
     | true =>
      simp only [hb, cond_true, Option.some.injEq] at h; subst h
      simp only [hagg, packV, if_true]
      rw [Instr.checkKey]
      simp only [Sem.run_bind, run_underlying hu, Result.andThen_ok]
      rw [← Array.forIn_toList]
      have ih := fun t k h => check_ok d t k h c
      obtain ⟨off, hk2, hf2, ho2⟩ : ∃ off, eqFieldsK (eqKinds P d) fs.toList off = some k' ∧ fitsB k' (xs.drop off) = true ∧ off ≤ xs.length := ⟨0, hk, by simpa using hf, Nat.zero_le _⟩
      clear hk hb hi hf hu hs
      generalize fs.toList = L at hk2
      induction L generalizing off k' with
      | nil => simp
      | cons f L ihL =>
       rw [eqFieldsK] at hk2
       cases hb : (f.name != "_" && Nat.beq f.offset off) with
       | false => simp [hb] at hk2
       | true =>
        rw [hb, cond_true] at hk2
        simp only [Bool.and_eq_true, bne_iff_ne, ne_eq] at hb
        split at hk2
        ·rename_i k1 hk
         split at hk2
         ·rename_i l hl
          cases hk2
          obtain ⟨f1, f2⟩ := fitsB_append hf2
          rw [List.drop_drop] at f2
          have hlen := fitsB_length hf2
          rw [List.length_drop, List.length_append] at hlen
          have hoff : f.offset = off := Nat.eq_of_beq_eq_true hb.2
          have p1 := run_part (P := P) hk (xs := xs) (off := off) (by omega) w
          have p2 := ih f.type k1 hk em w _ f1
          simp only [List.forIn_cons, Sem.run_bind, hb.1, ne_eq, not_false_eq_true, if_true, hoff, p1, p2, Result.andThen_ok, Sem.run_pure]
          exact ihL _ _ f2 (by omega) hl
         ·cases hk2
        ·cases hk2
    ·cases h
  ·rename_i len e hu
   have hagg : aggT P t = true := by simp [aggT, hu]
   split at h
   ·rename_i k' i j hk hi hj
    cases hb : (Nat.beq i.size (len * k'.length) && Nat.beq j.size k'.length) with
    | false => simp [hb] at h
    | true =>
     simp only [hb, cond_true, Option.some.injEq] at h; subst h
     simp only [Bool.and_eq_true] at hb
     simp only [hagg, packV, if_true]
     rw [Instr.checkKey]
     simp only [Sem.run_bind, run_underlying hu, Result.andThen_ok]
     simp only [Std.Legacy.Range.forIn_eq_forIn_range', Std.Legacy.Range.size, Nat.sub_zero, Nat.add_one_sub_one, Nat.div_one]
     have ih := check_ok d e k' hk c
     have p3 : (sizeOf e).run P w = .ok k'.length w := by simp [sizeOf, typeInfo, hj, Nat.eq_of_beq_eq_true hb.2]
     obtain ⟨j0, hf2, ho2⟩ : ∃ j0, fitsB (List.replicate len k').flatten (xs.drop (j0 * k'.length)) = true ∧ j0 * k'.length ≤ xs.length ∧ j0 = 0 := ⟨0, by simpa using hf, by simp, rfl⟩
     obtain ⟨ho2, hj0⟩ := ho2
     rw [← hj0]
     clear hj0 hb hu hagg hf hi
     induction len generalizing j0 with
     | zero => simp
     | succ m ihm =>
      rw [List.replicate_succ, List.flatten_cons] at hf2
      obtain ⟨f1, f2⟩ := fitsB_append hf2
      have hlen := fitsB_length hf2
      rw [List.length_drop, List.length_append] at hlen
      have e0 : j0 * k'.length + k'.length = (j0 + 1) * k'.length := by rw [Nat.add_mul]; omega
      rw [List.drop_drop, e0] at f2
      have p1 := run_part (P := P) hk (xs := xs) (off := j0 * k'.length) (by omega) w
      have p2 := ih em w _ f1
      rw [List.range'_succ]
      simp only [List.forIn_cons, Sem.run_bind, p3, p1, p2, Result.andThen_ok, Sem.run_pure]
      exact ihm _ f2 (by omega)
   ·cases h
  ·cases h
end
theorem fitK_fitC : ∀ {z : List Value} {ds : List D}, fitK z ds = true → fitC z ds = true
 | [], [], _ => rfl
 | [], _ :: _, h => by simp [fitK] at h
 | v :: z, [], h => by cases v <;> simp [fitK] at h
 | v :: z, d :: ds, h => by
  cases v <;> cases d <;> (try (rename_i x; cases x)) <;> simp [fitK] at h
  ·simpa [fitC] using fitK_fitC h
  ·simpa [fitC] using fitK_fitC h.2
theorem fitK_eqC : ∀ {z : List Value} {xs ys : List D}, fitK z xs = true → fitK z ys = true → ∃ q, eqC xs ys = some q
 | [], [], [], _, _ => ⟨true, rfl⟩
 | [], _ :: _, _, h, _ => by simp [fitK] at h
 | [], [], _ :: _, _, h => by simp [fitK] at h
 | v :: z, [], _, h, _ => by cases v <;> simp [fitK] at h
 | v :: z, _ :: _, [], _, h => by cases v <;> simp [fitK] at h
 | v :: z, x :: xs, y :: ys, h1, h2 => by
  cases v <;> cases x <;> (try (rename_i x; cases x)) <;> simp [fitK] at h1
  ·cases y <;> (try (rename_i y; cases y)) <;> simp [fitK] at h2
   obtain ⟨q, hq⟩ := fitK_eqC h1 h2
   exact ⟨_, by rw [eqC, hq]⟩
  ·cases y <;> (try (rename_i y; cases y)) <;> simp [fitK] at h2
   obtain ⟨q, hq⟩ := fitK_eqC h1.2 h2.2
   obtain ⟨e1, _⟩ := h1
   obtain ⟨e2, _⟩ := h2
   subst e1; subst e2
   exact ⟨_, by rw [eqC, hq]; simp only [decide_true, cond_true]; rfl⟩
theorem eqC_true {I : Nat → Prop} {h : Array Obj} : ∀ {xs ys : List D} {us vs : List Value}, eqC xs ys = some true → RepL I h xs us → RepL I h ys vs → us = vs
 | [], [], us, vs, _, r, s => by rw [RepL] at r s; rw [r, s]
 | [], _ :: _, _, _, he, _, _ => by simp [eqC] at he
 | x :: xs, [], _, _, he, _, _ => by cases x <;> (try (rename_i x; cases x)) <;> simp [eqC] at he
 | x :: xs, y :: ys, us, vs, he, r, s => by
  obtain ⟨u, us, rfl, r1, r2⟩ := r.uncons
  obtain ⟨v, vs, rfl, s1, s2⟩ := s.uncons
  cases x <;> (try (rename_i x; cases x)) <;> (try (simp [eqC] at he; done))
  ·cases y <;> (try (rename_i y; cases y)) <;> (try (simp [eqC] at he; done))
   rw [eqC] at he
   split at he
   ·rename_i q hq
    simp only [Option.some.injEq, Bool.and_eq_true, beq_iff_eq] at he
    obtain ⟨e1, rfl⟩ := he
    rw [RepD] at r1 s1
    rw [r1, s1, e1, eqC_true hq r2 s2]
   ·cases he
  ·cases y <;> (try (rename_i y; cases y)) <;> (try (simp [eqC] at he; done))
   rw [eqC] at he
   rename_i k a k' b
   cases hk : decide (k = k') with
   | false => rw [hk] at he; cases he
   | true =>
    rw [hk, cond_true] at he
    split at he
    ·rename_i q hq
     simp only [Option.some.injEq, Bool.and_eq_true, beq_iff_eq] at he
     obtain ⟨e1, rfl⟩ := he
     rw [RepD] at r1 s1
     rw [r1, s1, e1, of_decide_eq_true hk, eqC_true hq r2 s2]
    ·cases he
theorem fitC_flat {I : Nat → Prop} {h : Array Obj} : ∀ {z : List Value} {xs : List D} {us : List Value}, fitC z xs = true → RepL I h xs us → ∀ n, (us.zip us).all (fun (x, y) => Instr.sameBits n x y) = true
 | [], [], us, _, r, n => by rw [RepL] at r; subst r; rfl
 | [], _ :: _, _, hf, _, _ => by simp [fitC] at hf
 | v :: z, [], _, hf, _, _ => by cases v <;> simp [fitC] at hf
 | v :: z, x :: xs, us, hf, r, n => by
  obtain ⟨u, us, rfl, r1, r2⟩ := r.uncons
  cases v <;> cases x <;> (try (rename_i x; cases x)) <;> simp [fitC] at hf
  ·have := fitC_flat hf r2 n
   rw [RepD] at r1; subst r1
   rw [List.zip_cons_cons, List.all_cons, this]; simp [Instr.sameBits]
  ·have := fitC_flat hf r2 n
   rw [RepD] at r1; subst r1
   rw [List.zip_cons_cons, List.all_cons, this]; simp [Instr.sameBits]
section
variable {P : Program} {tb : TB} {I : Nat → Prop} {h : Array Obj} {kT : TypeId}
inductive KeyIs (P : Program) (kT : TypeId) : D → Value → Prop
 | int (k : IntKind) (n : Int) (hu : P.underlying kT = some (.int k)) : KeyIs P kT (.v (.int k n)) (.int k n)
 | agg (ds : List D) (us : Array Value) (kk : List Bool) (h1 : eqKinds P 10 kT = some kk) (h2 : fitsB kk us.toList = true) (h3 : aggT P kT = true) (h4 : ∀ n, (us.toList.zip us.toList).all (fun (x, y) => Instr.sameBits n x y) = true) : KeyIs P kT (.agg ds) (.agg us)
theorem key_is (hP : PG P tb) {key : D} {u : Value} (hk : keyB tb kT key = true) (r : RepD I h key u) : KeyIs P kT key u := by
 unfold keyB at hk
 split at hk
 ·rename_i k n
  rw [RepD] at r; subst r
  split at hk
  ·rename_i k' s1 s2 z fl hTy
   have := (hP.ty kT _ hTy).kind
   simp only [TKOK] at this
   rw [of_decide_eq_true hk]
   exact .int _ n this
  ·cases hk
 ·rename_i ds
  rw [RepD] at r
  obtain ⟨us, rfl, r⟩ := r
  split at hk
  ·rename_i y hTy
   simp only [Bool.and_eq_true] at hk
   obtain ⟨kk, k1, k2, k3, k4⟩ := (hP.ty kT y hTy).eq hk.1
   exact .agg ds us kk k1 (fitC_rep k2 (fitK_fitC hk.2) r) k3 (fitC_flat (fitK_fitC hk.2) r)
  ·cases hk
 ·cases hk
theorem KeyIs.check {key : D} {u : Value} (hk : KeyIs P kT key u) (em : Bool) (w : World) : (Instr.checkKey em 10000 kT u).run P w = .ok () w := by
 cases hk with
 | int k n hu =>
  show (Instr.checkKey em (9999 + 1) kT _).run P w = _
  rw [Instr.checkKey]
  simp only [Sem.run_bind, run_underlying hu, Result.andThen_ok]
  rfl
 | agg ds us kk h1 h2 h3 h4 =>
  have := check_ok 10 kT kk h1 9990 em w us.toList h2
  simpa [packV, h3] using this
theorem KeyIs.stays {key : D} {u : Value} (hk : KeyIs P kT key u) (w : World) : (Instr.keyThatStays u u).run P w = .ok u w := by
 have : Instr.sameBits 10000 u u = true := by
  cases hk with
  | int k n hu => simp [Instr.sameBits]
  | agg ds us kk h1 h2 h3 h4 =>
   show Instr.sameBits (9999 + 1) (.agg us) (.agg us) = true
   simp only [Instr.sameBits, beq_self_eq_true, Bool.true_and]
   exact h4 9999
 simp [Instr.keyThatStays, this]
def scanE (key : D) : List (D × D) → List MapEntry → Nat → Option (Nat × Value)
 | p :: es, e :: ents, i => bif keyEq key p.1 then some (i, e.val) else scanE key es ents (i + 1)
 | _, _, _ => none
theorem keyEq_val {key key' : D} {u u' : Value} (he : keyEq key key' = true) (r : RepD I h key u) (r' : RepD I h key' u') : u = u' := by
 unfold keyEq at he
 split at he
 ·simp only [Bool.and_eq_true, beq_iff_eq] at he
  rw [RepD] at r r'
  rw [r, r', of_decide_eq_true he.1, he.2]
 ·split at he
  ·rename_i q hq
   subst he
   rw [RepD] at r r'
   obtain ⟨x, rfl, r⟩ := r
   obtain ⟨y, rfl, r'⟩ := r'
   have := eqC_true hq r r'
   rw [show x = y from Array.ext' this]
  ·cases he
 ·cases he
theorem run_find (hP : PG P tb) {key : D} {u : Value} (hk : keyB tb kT key = true) (r : RepD I h key u) {es : List (D × D)} {ents : List MapEntry} (re : RepE I h es ents) (hes : ∀ p ∈ es, keyB tb kT p.1 = true) (w : World) :
  (Instr.findKey kT u ents).run P w = .ok (scanE key es ents 0) w := by
 have hki := key_is hP hk r
 have asking : aggT P kT = true → ∀ (es : List (D × D)) (ents : List MapEntry) (i : Nat), RepE I h es ents → (∀ p ∈ es, keyB tb kT p.1 = true) → (Instr.findAsking kT u ents i).run P w = .ok (scanE key es ents i) w := by
  intro hagg es
  induction es with
  | nil => intro ents i re _; rw [RepE] at re; subst re; simp [Instr.findAsking, scanE]
  | cons p es ih =>
   intro ents i re hes
   obtain ⟨pk, pv⟩ := p
   rw [RepE] at re
   obtain ⟨e, ents, rfl, r1, r2, re⟩ := re
   have hk2 := hes (pk, pv) (by simp)
   have heq : (Op.equal kT u e.key).run P w = .ok (keyEq key pk) w := by
    obtain ⟨u2, hu2⟩ : ∃ u2, u2 = e.key := ⟨_, rfl⟩
    rw [← hu2] at r1 ⊢
    have hki2 := key_is hP hk2 r1
    cases hki with
    | int k n hu => simp [aggT, hu] at hagg
    | agg ds us kk h1 h2 h3 h4 =>
     cases pk with
     | agg ds' =>
      rw [RepD] at r r1
      obtain ⟨x, hx, r⟩ := r
      cases hx
      obtain ⟨y, hy, r1⟩ := r1
      have hq : ∃ q, eqC ds ds' = some q := by
       simp only [keyB] at hk hk2
       cases hTy : tb kT with
       | none => rw [hTy] at hk; cases hk
       | some yT =>
        rw [hTy] at hk hk2
        simp only [Bool.and_eq_true] at hk hk2
        exact fitK_eqC hk.2 hk2.2
      obtain ⟨q, hq⟩ := hq
      have := eq_ok 10 kT kk h1 9990 w us.toList y.toList q h2 (eqC_rep hq r r1)
      rw [hy]
      simp only [keyEq, hq]
      simpa [Op.equal, Op.maxDepth, packV, h3] using this
     | v x => cases hki2 with | int k n hu => simp [aggT, hu] at hagg
     | seq _ => cases hki2
     | iptr _ => cases hki2
     | bptr _ _ => cases hki2
     | fn _ _ _ => cases hki2
     | tup _ => cases hki2
   rw [Instr.findAsking, scanE]
   simp only [Sem.run_bind, heq, Result.andThen_ok]
   cases keyEq key pk with
   | true => simp
   | false => simpa using ih ents (i + 1) re (fun p hp => hes p (by simp [hp]))
 cases hki with
 | agg ds us kk h1 h2 h3 h4 =>
  have hu : ∃ d, P.underlying kT = some d ∧ ∀ x e, Instr.sameNow d (.agg x) e = none := by
   unfold aggT at h3
   split at h3
   ·rename_i d hd; exact ⟨_, hd, fun x e => by cases e <;> rfl⟩
   ·rename_i n e hd; exact ⟨_, hd, fun x e => by cases e <;> rfl⟩
   ·cases h3
  obtain ⟨d, hd, hs⟩ := hu
  simp only [Instr.findKey, Sem.run_bind, run_underlying hd, Result.andThen_ok]
  cases ents with
  | nil =>
   cases es with
   | nil => simp [Instr.findNow, scanE]
   | cons p es => rw [RepE] at re; obtain ⟨_, _, e, _⟩ := re; cases e
  | cons e ents =>
   simp only [Instr.findNow, hs]
   exact asking h3 es (e :: ents) 0 re hes
 | int k n hu =>
  have now : ∀ (es : List (D × D)) (ents : List MapEntry) (i : Nat), RepE I h es ents → (∀ p ∈ es, keyB tb kT p.1 = true) → Instr.findNow (.int k) (.int k n) ents i = some (scanE (.v (.int k n)) es ents i) := by
   intro es
   induction es with
   | nil => intro ents i re _; rw [RepE] at re; subst re; simp [Instr.findNow, scanE]
   | cons p es ih =>
    intro ents i re hes
    obtain ⟨pk, pv⟩ := p
    rw [RepE] at re
    obtain ⟨e, ents, rfl, r1, r2, re⟩ := re
    rw [Instr.findNow, scanE]
    obtain ⟨u2, hu2⟩ : ∃ u2, u2 = e.key := ⟨_, rfl⟩
    rw [← hu2] at r1 ⊢
    have hki2 := key_is hP (hes (pk, pv) (by simp)) r1
    cases pk with
    | v x =>
     cases hki2 with
     | int k' n' hu' =>
      rw [hu] at hu'
      cases hu'
      simp only [Instr.sameNow, if_true, keyEq, decide_true, Bool.true_and]
      cases hb : (n == n') with
      | true => simp
      | false => simpa using ih ents (i + 1) re (fun p hp => hes p (by simp [hp]))
    | agg ds' => cases hki2 with | agg _ us kk h1 h2 h3 h4 => simp [aggT, hu] at h3
    | seq _ => cases hki2
    | iptr _ => cases hki2
    | bptr _ _ => cases hki2
    | fn _ _ _ => cases hki2
    | tup _ => cases hki2
  simp [Instr.findKey, run_underlying hu, now es ents 0 re hes]
theorem scan_none {key : D} : ∀ {es : List (D × D)} {ents : List MapEntry} {i : Nat}, RepE I h es ents → scanE key es ents i = none → mapGet es key = none ∧ ∀ v, mapSet es key v = es ++ [(key, v)]
 | [], _, _, _, _ => ⟨rfl, fun _ => rfl⟩
 | p :: es, ents, i, re, hs => by
  obtain ⟨pk, pv⟩ := p
  rw [RepE] at re
  obtain ⟨e, ents, rfl, _, _, re⟩ := re
  rw [scanE] at hs
  cases hb : keyEq key pk with
  | true => rw [hb] at hs; cases hs
  | false =>
   rw [hb] at hs
   obtain ⟨h1, h2⟩ := scan_none re hs
   exact ⟨by rw [mapGet, hb]; exact h1, fun v => by rw [mapSet, hb, cond_false, h2 v]; rfl⟩
theorem scan_some {key : D} : ∀ {es : List (D × D)} {ents : List MapEntry} {i j : Nat} {x : Value}, RepE I h es ents → scanE key es ents i = some (j, x) →
  i ≤ j ∧ ∃ p e, es[j - i]? = some p ∧ ents[j - i]? = some e ∧ e.val = x ∧ keyEq key p.1 = true ∧ mapGet es key = some p.2 ∧ ∀ v, mapSet es key v = es.set (j - i) (key, v)
 | [], ents, i, j, x, re, hs => by cases ents <;> simp [scanE] at hs
 | p :: es, ents, i, j, x, re, hs => by
  obtain ⟨pk, pv⟩ := p
  rw [RepE] at re
  obtain ⟨e, ents, rfl, _, _, re⟩ := re
  rw [scanE] at hs
  cases hb : keyEq key pk with
  | true =>
   rw [hb] at hs
   simp only [cond_true, Option.some.injEq, Prod.mk.injEq] at hs
   obtain ⟨rfl, rfl⟩ := hs
   exact ⟨Nat.le_refl _, (pk, pv), e, by simp, by simp, rfl, hb, by rw [mapGet, hb]; rfl, fun v => by rw [mapSet, hb]; simp⟩
  | false =>
   rw [hb] at hs
   obtain ⟨h1, p, e', h2, h3, h4, h5, h6, h7⟩ := scan_some re hs
   have ej : j - i = (j - (i + 1)) + 1 := by omega
   refine ⟨by omega, p, e', by rw [ej]; simpa using h2, by rw [ej]; simpa using h3, h4, h5, by rw [mapGet, hb]; exact h6, fun v => ?_⟩
   rw [mapSet, hb, cond_false, h7 v, ej]
   rfl
theorem RepE.snoc {key v : D} {e : MapEntry} (r1 : RepD I h key e.key) (r2 : RepD I h v e.val) : ∀ {es : List (D × D)} {ents : List MapEntry}, RepE I h es ents → RepE I h (es ++ [(key, v)]) (ents ++ [e])
 | [], _, re => by rw [RepE] at re; subst re; exact ⟨e, [], rfl, r1, r2, rfl⟩
 | (k, x) :: es, _, re => by
  rw [RepE] at re
  obtain ⟨e', s, rfl, q1, q2, re⟩ := re
  exact ⟨e', s ++ [e], rfl, q1, q2, RepE.snoc r1 r2 re⟩
theorem RepE.setAt {key v : D} {e : MapEntry} (r1 : RepD I h key e.key) (r2 : RepD I h v e.val) : ∀ {es : List (D × D)} {ents : List MapEntry} (j : Nat), RepE I h es ents → RepE I h (es.set j (key, v)) (ents.set j e)
 | [], _, j, re => by rw [RepE] at re; subst re; simp [RepE]
 | (k, x) :: es, _, j, re => by
  rw [RepE] at re
  obtain ⟨e', s, rfl, q1, q2, re⟩ := re
  cases j with
  | zero => exact ⟨e, s, rfl, r1, r2, re⟩
  | succ j => exact ⟨e', s.set j e, rfl, q1, q2, RepE.setAt r1 r2 j re⟩
theorem RepE.at : ∀ {es : List (D × D)} {ents : List MapEntry} {j : Nat} {p : D × D} {e : MapEntry}, RepE I h es ents → es[j]? = some p → ents[j]? = some e → RepD I h p.1 e.key ∧ RepD I h p.2 e.val
 | [], _, j, p, e, _, hp, _ => by simp at hp
 | (k, x) :: es, _, j, p, e, re, hp, he => by
  rw [RepE] at re
  obtain ⟨e', s, rfl, q1, q2, re⟩ := re
  cases j with
  | zero => simp at hp he; subst hp; subst he; exact ⟨q1, q2⟩
  | succ j => exact RepE.at re (by simpa using hp) (by simpa using he)
end
end Go.Ev

