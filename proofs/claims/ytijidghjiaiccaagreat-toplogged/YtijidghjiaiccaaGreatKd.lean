/-
  A part of an evaluator of the model on abstract data, and of its proof. Written by an agent.
-/
import Derived.ChangeSame
import Derived.ChangeArms
import Derived.ChangeOld
import Derived.WideKeyArgs
import Derived.OpenShut
import Derived.Handed
import Derived.JoinedOf
import Derived.Test.YtijidghjiaiccaaGreatKc
set_option linter.unusedVariables false
set_option linter.unusedSimpArgs false
set_option linter.unusedSectionVars false
set_option maxRecDepth 100000
namespace Go.Ev
open RowKit
inductive Ex where
 | nrm
 | ex (id : Nat)
 | ret
 | pan (v : Value)
def Ex.to : Ex → Exit
 | .nrm => .normal
 | .ex i => .exit i
 | .ret => .ret
 | .pan v => .panic [{ v := v, recovered := false }]
mutual
def A.onlyB (os : List Nat) : A → Bool
 | .ref i _ => os.any fun j => Nat.beq j i
 | .own i => os.any fun j => Nat.beq j i
 | .eref i _ _ _ => os.any fun j => Nat.beq j i
 | .pre i _ => os.any fun j => Nat.beq j i
 | .sub i _ _ _ _ => os.any fun j => Nat.beq j i
 | .fn _ a b => A.onlyL os a && A.onlyL os b
 | .agg cs => A.onlyL os cs
 | .tup cs => A.onlyL os cs
 | .lst cs => A.onlyL os cs
 | .lptr x => A.onlyB os x
 | .d _ => true
 | .unk => true
def A.onlyL (os : List Nat) : List A → Bool
 | [] => true
 | x :: r => A.onlyB os x && A.onlyL os r
end
def keepS (os : List Nat) (s : St) : List Nat → (List (Nat × A) → Prop) → Prop
 | [], K => K []
 | k :: r, K => fA (s.get k) fun x => bif x.onlyB os then keepS os s r fun r => K ((k, x) :: r) else False
def keepO (os : List Nat) (s : St) : List Nat → (List (Nat × Ob) → Prop) → Prop
 | [], K => K []
 | i :: r, K =>
  match s.obj i with
  | none => False
  | some ob => match ob with
   | .var true T cs => A.onlyL os cs = true ∧ keepO os s r fun r => K ((i, .var true T cs) :: r)
   | .var false T cs => fL cs fun cs => bif A.onlyL os cs then keepO os s r fun r => K ((i, .var false T cs) :: r) else False
   | .ro T cs => A.onlyL os cs = true ∧ keepO os s r fun r => K ((i, .ro T cs) :: r)
   | .arw T cs => A.onlyL os cs = true ∧ keepO os s r fun r => K ((i, .arw T cs) :: r)
   | .iter m n seen => bif os.any (fun j => Nat.beq j m) then keepO os s r fun r => K ((i, .iter m n seen) :: r) else False
   | ob => keepO os s r fun r => K ((i, ob) :: r)
def Ob.cells : Ob → Option (List A)
 | .var _ _ cs => some cs
 | .ro _ cs => some cs
 | .arw _ cs => some cs
 | .iter m _ _ => some [.own m]
 | _ => none
def keep (nb : Nat) (fx ks os : List Nat) (no : Nat) (s : St) (K : St → Prop) : Prop :=
 bif fx.all (fun i => os.any fun j => Nat.beq j i) && os.all (fun i => Nat.blt i no) && Nat.ble nb no then
  keepS os s ks fun sl => keepO os s os fun ob => K ⟨sl, ob, no⟩
 else False
def arrO (o : Nat → Option Ob) (i : Nat) : Bool :=
 match o i with
 | some (.arr _ _) => true
 | _ => false
def fixAL (o : Nat → Option Ob) : List A → Bool
 | [] => true
 | .ref i _ :: r => !arrO o i && fixAL o r
 | .d _ :: r => fixAL o r
 | _ => false
def fixA (o : Nat → Option Ob) : A → Bool
 | .ref i _ => !arrO o i
 | .own i => match o i with
  | some (.map _ _ _) | some (.env _) => true
  | _ => false
 | .eref _ _ _ _ => false
 | .pre _ _ => false
 | .sub _ _ _ _ _ => false
 | .fn _ a b => fixAL o a && fixAL o b
 | .agg cs => fixAL o cs
 | .tup cs => fixAL o cs
 | .lst _ => false
 | .lptr _ => false
 | .d _ => true
 | .unk => true
def fixSl (o : Nat → Option Ob) (sl : List (Nat × A)) : Bool := sl.all fun p => fixA o p.2
def zipS : List Nat → List D → List (Nat × A) → List (Nat × A)
 | p :: ps, d :: ds, sl => zipS ps ds ((p, .d d) :: sl)
 | _, _, sl => sl
def lentO (o : Nat → Option Ob) : List Nat → List (Nat × Ob)
 | [] => []
 | j :: r => match o j with
  | some (.ro _ _) => lentO o r
  | _ => (j, .dead) :: lentO o r
def lentS (ρ : List Nat) (s : St) : St := ⟨s.sl, lentO s.obj ρ ++ s.ob, s.n⟩
theorem lentO_look {o : Nat → Option Ob} {i : Nat} {x : Ob} : ∀ {ρ : List Nat}, lookO (lentO o ρ) i = some x → x = .dead ∧ i ∈ ρ
 | [], h => nomatch h
 | j :: r, h => by
  rw [lentO] at h
  split at h
  ·obtain ⟨h1, h2⟩ := lentO_look h
   exact ⟨h1, List.mem_cons_of_mem _ h2⟩
  ·rw [lookO] at h
   cases e : Nat.beq j i with
   | true => rw [e, cond_true] at h; cases h; exact ⟨rfl, by rw [Nat.eq_of_beq_eq_true e]; simp⟩
   | false =>
    rw [e, cond_false] at h
    obtain ⟨h1, h2⟩ := lentO_look h
    exact ⟨h1, List.mem_cons_of_mem _ h2⟩
theorem lentO_none {o : Nat → Option Ob} {i : Nat} : ∀ {ρ : List Nat}, lookO (lentO o ρ) i = none → i ∈ ρ → ∃ T cs, o i = some (.ro T cs)
 | [], _, h => nomatch h
 | j :: r, h, hi => by
  rw [lentO] at h
  split at h
  ·rename_i T cs ho
   rcases List.mem_cons.1 hi with rfl | hi
   ·exact ⟨T, cs, ho⟩
   ·exact lentO_none h hi
  ·rw [lookO] at h
   cases e : Nat.beq j i with
   | true => rw [e] at h; cases h
   | false =>
    rw [e, cond_false] at h
    rcases List.mem_cons.1 hi with rfl | hi
    ·simp at e
    ·exact lentO_none h hi
theorem lentS_eq {ρ : List Nat} {s : St} {i : Nat} : (lentS ρ s).obj i = match lookO (lentO s.obj ρ) i with | some x => some x | none => s.obj i := by
 show lookO (lentO s.obj ρ ++ s.ob) i = _
 rw [lookO_append]
 rfl
theorem lentS_obj {ρ : List Nat} {s : St} {i : Nat} {x : Ob} (h : (lentS ρ s).obj i = some x) : (s.obj i = some x ∧ (i ∈ ρ → ∃ T cs, x = .ro T cs)) ∨ (x = .dead ∧ i ∈ ρ) := by
 rw [lentS_eq] at h
 cases e : lookO (lentO s.obj ρ) i with
 | some y =>
  rw [e] at h
  cases h
  exact .inr (lentO_look e)
 | none =>
  rw [e] at h
  refine .inl ⟨h, fun hi => ?_⟩
  obtain ⟨T, cs, ho⟩ := lentO_none e hi
  have h : s.obj i = some x := h
  rw [ho] at h; cases h
  exact ⟨T, cs, rfl⟩
theorem lentS_some {ρ : List Nat} {s : St} {i : Nat} (h : (s.obj i).isSome = true) : ((lentS ρ s).obj i).isSome = true := by
 rw [lentS_eq]
 cases e : lookO (lentO s.obj ρ) i with
 | some y => rfl
 | none => exact h
theorem keepS_lent {ρ os : List Nat} {s : St} : ∀ (ks : List Nat) (K : List (Nat × A) → Prop), keepS os (lentS ρ s) ks K = keepS os s ks K
 | [], K => rfl
 | k :: r, K => by
  rw [keepS, keepS]
  show fA (s.get k) _ = fA (s.get k) _
  simp only [keepS_lent r]
theorem Mod.lentS {tb : TB} {X : Ctx} {a : Act} {w : World} {G : Nat → Option GR} {I : Nat → Prop} {s : St} (m : Mod tb X s.get s.obj a w G I) (ρ : List Nat) : Mod tb X (lentS ρ s).get (lentS ρ s).obj a w G I := by
 have hl : ∀ i x, (Go.Ev.lentS ρ s).obj i = some x → x.live = true → s.obj i = some x := fun i x h hx => by
  rcases lentS_obj h with h | h
  ·exact h.1
  ·rw [h.1] at hx; simp [Ob.live] at hx
 exact { m with
  objs := fun i x h => by
   rcases lentS_obj h with h | h
   ·exact m.objs i x h.1
   ·rw [h.1]; trivial
  dom := fun i gr h => lentS_some (m.dom i gr h)
  sep := fun i j oi oj gi gj b h1 h2 h3 h4 => m.sep i j oi oj gi gj b (hl i oi h1 h3) (hl j oj h2 h4) h3 h4
  own := fun i oi gi b h1 h2 => m.own i oi gi b (hl i oi h1 h2) h2
  barr := fun i T es hi hba h => by
   rcases lentS_obj h with h | h
   ·exact m.barr i T es hi hba h.1
   ·cases h.1
  env := by
   obtain ⟨k, Ft, f1, f2, f3, f4⟩ := m.env
   refine ⟨k, Ft, f1, f2, fun j oj gj b h1 h2 => f3 j oj gj b (hl j oj h1 h2) h2, fun i k' h => ?_⟩
   rcases lentS_obj h with h | h
   ·exact f4 i k' h.1
   ·cases h.1 }
def rngB (fx : List Nat) (n : Nat) (ρ os : List Nat) (o : Nat → Option Ob) (pre : List Ob) (post : List (Nat × Ob)) : Bool :=
 nodupB ρ && (ρ.all fun j => Nat.blt j n) && pre.all (fun x => x.sure && !x.arrB) && os.all (fun i => Nat.blt i n) &&
 fx.all (fun i => (os.any fun j => Nat.beq j i) || ρ.any fun j => Nat.beq j i) &&
 postB 1 (ρ.length + 1) post && (List.range ρ.length).all fun i => memK (i + 1) post
def mendO (ob : List (Nat × Ob)) : List (Nat × Ob) → (List (Nat × Ob) → Prop) → Prop
 | [], K => K []
 | (i, x) :: r, K => match lookO ob i with
  | some (.ro T cs) => mendO ob r fun r => K ((i, .ro T cs) :: r)
  | _ => mendO ob r fun r => K ((i, x) :: r)
def backO (ρ : List Nat) (n : Nat) (post ob : List (Nat × Ob)) (K : List (Nat × Ob) → Prop) : Prop := outObs (n :: ρ) n post fun p => mendO ob p fun p => catO p ((n, .dead) :: ob) K
abbrev EvT := Nat → List Nat → Bool → St → (Ex → St → Prop) → Prop
def evNrm : EvT := fun _ _ _ s K => K .nrm s
def evRegion (tb : TB) (S : Sums) (_id : Nat) (ops : Array Oper) (draw : Bool) : EvT := fun _ _ _ s K => match draw with
  | false => evSeq tb S ops.toList ops.toList s (K .nrm) fun v => K (.pan v)
  | true => gN s fun n0 => fN ops.toList.length fun N => evDraw tb ⟨S.p, S.b, 8, S.y, S.it, S.x, S.so, S.s⟩ ops.toList N n0 0 ops.toList s [] fun acc s => endR acc (dstL ops.toList) s (K .nrm) fun v => K (.pan v)
def evSeqC (_a _b : Code) (iha ihb : EvT) : EvT := fun nb fx rf s K => iha nb fx rf s fun e s => match e with
  | .nrm => ihb nb fx rf s K
  | .ex i => K (.ex i) s
  | .ret => K .ret s
  | .pan v => K (.pan v) s
def evCond (c : Operand) (_a _b : Code) (iha ihb : EvT) : EvT := fun nb fx rf s K => match opA s.get c with
  | .d (.v (.bool t)) => (t = true → iha nb fx rf s K) ∧ (t = false → ihb nb fx rf s K)
  | _ => False
def evBlock (id : Nat) (_c : Code) (ih : EvT) : EvT := fun nb fx rf s K => ih nb fx rf s fun e s => match e with
  | .nrm => K .nrm s
  | .ex i => bif Nat.beq i id then K .nrm s else K (.ex i) s
  | .ret => K .ret s
  | .pan v => K (.pan v) s
def evLoop (tb : TB) (_c : Code) (ih : EvT) : EvT := fun nb fx rf s K => ∃ (cv : List Cv) (ks os : List Nat) (no : Nat) (I : Nat → St → Prop), cvS tb nb cv s (fun s => keep nb fx ks os no s (fun s => ∃ m, I m s)) ∧
   ∀ m s1, I m s1 → ih nb fx rf s1 fun e s' => match e with
    | .nrm => mvS nb cv s' fun s' => keep nb fx ks os no s' (fun s2 => ∃ m', m' < m ∧ I m' s2)
    | .ex i => K (.ex i) s'
    | .ret => K .ret s'
    | .pan v => K (.pan v) s'
def evRange (S : Sums) (f : Operand) (ps : Array Tmp) (_a _b : Code) (iha ihb : EvT) : EvT := fun _ fx rf s K => match rf with
  | false => False
  | true => gN s fun n0 => match getFn (opA s.get f) with
   | some (fid, first, caps) => ∃ (ρ ks os : List Nat) (elems : List (List D)) (t : Nat) (post : List (Nat × Ob)) (J : Nat → List (Nat × Ob) → Nat → Prop),
    S.it fid (invAL (n0 :: ρ) (first ++ .own n0 :: caps)) (ρ.map fun j => invO (n0 :: ρ) (s.obj j)) elems t post ∧
    bif rngB fx n0 ρ os s.obj (ρ.map fun j => invO (n0 :: ρ) (s.obj j)) post then
     keepS os s ks fun sl => keepO os (lentS ρ s) os fun ob => bif fixSl s.obj sl then
      J 0 ob (n0 + 1) ∧
      (∀ k ds ob1 n1, elems[k]? = some ds → k ≤ t → J k ob1 n1 → ds.length = ps.size ∧
       iha n1 (ob1.map (·.1)) false ⟨zipS ps.toList ds sl, ob1, n1⟩ fun e s1 => match e with
        | .nrm => ihb n1 (ob1.map (·.1)) false s1 fun e s' => ∃ (os2 : List Nat) (no : Nat), os2.all (fun i => (ob1.any fun p => Nat.beq p.1 i) || Nat.ble n1 i) = true ∧ keep n1 (ob1.map (·.1)) [] os2 no s' fun s2 => match e with
         | .nrm => k < t ∧ J (k + 1) s2.ob s2.n
         | .pan _ => False
         | e => k = t ∧ backO ρ n0 post s2.ob fun ob2 => K e ⟨sl, ob2, s2.n⟩
        | _ => False) ∧
      (∀ ob1 n1, elems.length ≤ t → J elems.length ob1 n1 → backO ρ n0 post ob1 fun ob2 => K .nrm ⟨sl, ob2, n1⟩)
     else False
    else False
   | none => False
def evExit (id : Nat) : EvT := fun _ _ _ s K => K (.ex id) s
def evScope (_c : Code) (ih : EvT) : EvT := fun nb fx rf s K => ih nb fx rf s K
def evRet : EvT := fun _ _ _ s K => K .ret s
def evNo : EvT := fun _ _ _ _ _ => False
noncomputable def ev (tb : TB) (S : Sums) (nb : Nat) (fx : List Nat) (rf : Bool) (c : Code) (s : St) (K : Ex → St → Prop) : Prop :=
 Code.rec (motive := fun _ => EvT) evNrm (evRegion tb S) evSeqC evCond evBlock (evLoop tb) (evRange S) evExit evScope (fun _ => evNrm) (fun _ => evNo) evRet (fun _ => evNo) c nb fx rf s K
section
variable {tb : TB} {S : Sums} {nb : Nat} {fx : List Nat} {rf : Bool} {s : St} {K : Ex → St → Prop} {a b c : Code}
theorem ev_region {id : Nat} {ops : Array Oper} {draw : Bool} : ev tb S nb fx rf (.region id ops draw) s K = match draw with
  | false => evSeq tb S ops.toList ops.toList s (K .nrm) fun v => K (.pan v)
  | true => gN s fun n0 => fN ops.toList.length fun N => evDraw tb ⟨S.p, S.b, 8, S.y, S.it, S.x, S.so, S.s⟩ ops.toList N n0 0 ops.toList s [] fun acc s => endR acc (dstL ops.toList) s (K .nrm) fun v => K (.pan v) := rfl
theorem ev_seq : ev tb S nb fx rf (.seq a b) s K = ev tb S nb fx rf a s fun e s => match e with
  | .nrm => ev tb S nb fx rf b s K
  | .ex i => K (.ex i) s
  | .ret => K .ret s
  | .pan v => K (.pan v) s := rfl
theorem ev_cond {x : Operand} : ev tb S nb fx rf (.cond x a b) s K = match opA s.get x with
  | .d (.v (.bool t)) => (t = true → ev tb S nb fx rf a s K) ∧ (t = false → ev tb S nb fx rf b s K)
  | _ => False := rfl
theorem ev_block {id : Nat} : ev tb S nb fx rf (.block id c) s K = ev tb S nb fx rf c s fun e s => match e with
  | .nrm => K .nrm s
  | .ex i => bif Nat.beq i id then K .nrm s else K (.ex i) s
  | .ret => K .ret s
  | .pan v => K (.pan v) s := rfl
theorem ev_loop : ev tb S nb fx rf (.loop c) s K = ∃ (cv : List Cv) (ks os : List Nat) (no : Nat) (I : Nat → St → Prop), cvS tb nb cv s (fun s => keep nb fx ks os no s (fun s => ∃ m, I m s)) ∧
   ∀ m s1, I m s1 → ev tb S nb fx rf c s1 fun e s' => match e with
    | .nrm => mvS nb cv s' fun s' => keep nb fx ks os no s' (fun s2 => ∃ m', m' < m ∧ I m' s2)
    | .ex i => K (.ex i) s'
    | .ret => K .ret s'
    | .pan v => K (.pan v) s' := rfl
theorem ev_scope : ev tb S nb fx rf (.scope c) s K = ev tb S nb fx rf c s K := rfl
theorem ev_goto {l : Nat} : ev tb S nb fx rf (.goto l) s K = False := rfl
theorem ev_refuse {y : String} : ev tb S nb fx rf (.refuse y) s K = False := rfl
theorem ev_range {f : Operand} {ps : Array Tmp} {assign body : Code} : ev tb S nb fx rf (.rangeFunc f ps assign body) s K = match rf with
  | false => False
  | true => gN s fun n0 => match getFn (opA s.get f) with
   | some (fid, first, caps) => ∃ (ρ ks os : List Nat) (elems : List (List D)) (t : Nat) (post : List (Nat × Ob)) (J : Nat → List (Nat × Ob) → Nat → Prop),
    S.it fid (invAL (n0 :: ρ) (first ++ .own n0 :: caps)) (ρ.map fun j => invO (n0 :: ρ) (s.obj j)) elems t post ∧
    bif rngB fx n0 ρ os s.obj (ρ.map fun j => invO (n0 :: ρ) (s.obj j)) post then
     keepS os s ks fun sl => keepO os (lentS ρ s) os fun ob => bif fixSl s.obj sl then
      J 0 ob (n0 + 1) ∧
      (∀ k ds ob1 n1, elems[k]? = some ds → k ≤ t → J k ob1 n1 → ds.length = ps.size ∧
       ev tb S n1 (ob1.map (·.1)) false assign ⟨zipS ps.toList ds sl, ob1, n1⟩ fun e s1 => match e with
        | .nrm => ev tb S n1 (ob1.map (·.1)) false body s1 fun e s' => ∃ (os2 : List Nat) (no : Nat), os2.all (fun i => (ob1.any fun p => Nat.beq p.1 i) || Nat.ble n1 i) = true ∧ keep n1 (ob1.map (·.1)) [] os2 no s' fun s2 => match e with
         | .nrm => k < t ∧ J (k + 1) s2.ob s2.n
         | .pan _ => False
         | e => k = t ∧ backO ρ n0 post s2.ob fun ob2 => K e ⟨sl, ob2, s2.n⟩
        | _ => False) ∧
      (∀ ob1 n1, elems.length ≤ t → J elems.length ob1 n1 → backO ρ n0 post ob1 fun ob2 => K .nrm ⟨sl, ob2, n1⟩)
     else False
    else False
   | none => False := rfl
end
def codeB (nt : Nat) : Code → Bool
 | .region _ ops draw => (ops.toList.all fun y => match y.dst with | some d => Nat.blt d nt | none => true) && (!draw || drawB ops.toList)
 | .seq a b => codeB nt a && codeB nt b
 | .cond _ a b => codeB nt a && codeB nt b
 | .block _ c => codeB nt c
 | .loop c => codeB nt c
 | .scope c => codeB nt c
 | .rangeFunc _ ps a b => codeB nt a && codeB nt b && ps.toList.all fun p => Nat.blt p nt
 | _ => true
section
variable {tb : TB} {X : Ctx} {P : Program} {Wn : Nat} {Y : Nat → List D → Bool → Prop} {F : Fence} {n : Nat}
mutual
theorem RepA.only {os : List Nat} {G G' : Nat → Option GR} {I : Nat → Prop} {h : Array Obj} (hG : ∀ i, (os.any fun j => Nat.beq j i) = true → G' i = G i) : ∀ (x : A) (v : Value), x.onlyB os = true → RepA G I h x v → RepA G' I h x v
 | .d y, v, _, r => by rw [RepA] at r ⊢; exact r
 | .unk, v, _, r => by rw [RepA]; trivial
 | .ref i off, v, ho, r => by rw [RepA] at r ⊢; rw [A.onlyB] at ho; rw [hG i ho]; exact r
 | .own i, v, ho, r => by rw [RepA] at r ⊢; rw [A.onlyB] at ho; rw [hG i ho]; exact r
 | .eref i k sz off, v, ho, r => by rw [RepA] at r ⊢; rw [A.onlyB] at ho; rw [hG i ho]; exact r
 | .pre i hi, v, ho, r => by rw [RepA] at r ⊢; rw [A.onlyB] at ho; rw [hG i ho]; exact r
 | .sub i ysz off sz n, v, ho, r => by rw [RepA] at r ⊢; rw [A.onlyB] at ho; rw [hG i ho]; exact r
 | .fn f a b, v, ho, r => by
  rw [RepA] at r ⊢
  rw [A.onlyB, Bool.and_eq_true] at ho
  obtain ⟨x, y, e, r1, r2⟩ := r
  exact ⟨x, y, e, RepAL.only hG a _ ho.1 r1, RepAL.only hG b _ ho.2 r2⟩
 | .agg cs, v, ho, r => by
  rw [RepA] at r ⊢
  rw [A.onlyB] at ho
  obtain ⟨x, e, r1⟩ := r
  exact ⟨x, e, RepAL.only hG cs _ ho r1⟩
 | .tup cs, v, ho, r => by
  rw [RepA] at r ⊢
  rw [A.onlyB] at ho
  obtain ⟨x, e, r1⟩ := r
  exact ⟨x, e, RepAL.only hG cs _ ho r1⟩
 | .lst cs, v, ho, r => by
  rw [RepA] at r ⊢
  rw [A.onlyB] at ho
  obtain ⟨b, c, T, fr, e1, e2, e3, r1⟩ := r
  exact ⟨b, c, T, fr, e1, e2, e3, RepAL.only hG cs _ ho r1⟩
 | .lptr x, v, ho, r => by
  rw [RepA] at r ⊢
  rw [A.onlyB] at ho
  obtain ⟨b, off, c, T, fr, u, e1, e2, e3, e4, r1⟩ := r
  exact ⟨b, off, c, T, fr, u, e1, e2, e3, e4, RepA.only hG x _ ho r1⟩
theorem RepAL.only {os : List Nat} {G G' : Nat → Option GR} {I : Nat → Prop} {h : Array Obj} (hG : ∀ i, (os.any fun j => Nat.beq j i) = true → G' i = G i) : ∀ (x : List A) (v : List Value), A.onlyL os x = true → RepAL G I h x v → RepAL G' I h x v
 | [], v, _, r => by rw [RepAL] at r ⊢; exact r
 | x :: xs, v, ho, r => by
  rw [RepAL] at r ⊢
  rw [A.onlyL, Bool.and_eq_true] at ho
  obtain ⟨u, q, e, r1, r2⟩ := r
  exact ⟨u, q, e, RepA.only hG x u ho.1 r1, RepAL.only hG xs q ho.2 r2⟩
end
theorem keepS_spec {os : List Nat} {s : St} : ∀ (ks : List Nat) {K : List (Nat × A) → Prop}, keepS os s ks K → ∃ sl, K sl ∧ ∀ t, (lookA sl t = s.get t ∧ (s.get t).onlyB os = true) ∨ lookA sl t = .unk
 | [], K, h => ⟨[], h, fun t => .inr rfl⟩
 | k :: r, K, h => by
  rw [keepS, fA_eq] at h
  cases hb : (s.get k).onlyB os with
  | false => rw [hb] at h; exact h.elim
  | true =>
   rw [hb, cond_true] at h
   obtain ⟨sl, h1, h2⟩ := keepS_spec r h
   refine ⟨_, h1, fun t => ?_⟩
   rw [lookA]
   cases e : Nat.beq k t with
   | true => rw [Nat.eq_of_beq_eq_true e] at hb ⊢; exact .inl ⟨rfl, hb⟩
   | false => exact h2 t
theorem keepO_spec {os : List Nat} {s : St} : ∀ (l : List Nat) {K : List (Nat × Ob) → Prop}, keepO os s l K → ∃ ob, K ob ∧ (∀ i x, lookO ob i = some x → s.obj i = some x ∧ i ∈ l ∧ ∀ cs, x.cells = some cs → A.onlyL os cs = true) ∧ ∀ i ∈ l, (lookO ob i).isSome = true
 | [], K, h => ⟨[], h, fun i x e => (nomatch e), fun i hi => (nomatch hi)⟩
 | k :: r, K, h => by
  rw [keepO] at h
  cases ho : s.obj k with
  | none => rw [ho] at h; exact h.elim
  | some x =>
   rw [ho] at h
   have fin : ∀ (y : Ob), y = x → (∀ cs, x.cells = some cs → A.onlyL os cs = true) → keepO os s r (fun r => K ((k, y) :: r)) → ∃ ob, K ob ∧ (∀ i x, lookO ob i = some x → s.obj i = some x ∧ i ∈ k :: r ∧ ∀ cs, x.cells = some cs → A.onlyL os cs = true) ∧ ∀ i ∈ k :: r, (lookO ob i).isSome = true := by
    intro y hy hon hk
    subst hy
    obtain ⟨ob, h1, h2, h3⟩ := keepO_spec r hk
    refine ⟨_, h1, fun i z hz => ?_, fun i hi => ?_⟩
    ·rw [lookO] at hz
     cases e : Nat.beq k i with
     | true => rw [e] at hz; simp only [cond_true, Option.some.injEq] at hz; subst hz; rw [Nat.eq_of_beq_eq_true e] at ho; exact ⟨ho, by simp [Nat.eq_of_beq_eq_true e], hon⟩
     | false => rw [e] at hz; obtain ⟨a, b, c⟩ := h2 i z hz; exact ⟨a, by simp [b], c⟩
    ·rw [lookO]
     cases e : Nat.beq k i with
     | true => rfl
     | false => rcases List.mem_cons.1 hi with rfl | hi; simp at e; exact h3 i hi
   cases x with
   | var b T cs =>
    cases b with
    | true => exact fin _ rfl (fun cs' e => by cases e; exact h.1) h.2
    | false =>
     simp only [fL_eq] at h
     cases hc : A.onlyL os cs with
     | false => rw [hc] at h; exact h.elim
     | true => rw [hc] at h; exact fin _ rfl (fun cs' e => by cases e; exact hc) h
   | ro T cs => exact fin _ rfl (fun cs' e => by cases e; exact h.1) h.2
   | arr T cs => exact fin _ rfl (fun _ e => by cases e) h
   | map k' e es => exact fin _ rfl (fun _ e => by cases e) h
   | env k' => exact fin _ rfl (fun _ e => by cases e) h
   | dead => exact fin _ rfl (fun _ e => by cases e) h
   | arw T cs => exact fin _ rfl (fun cs' e => by cases e; exact h.1) h.2
   | iter m q seen =>
    have h : bif os.any (fun j => Nat.beq j m) then keepO os s r fun r => K ((k, .iter m q seen) :: r) else False := h
    cases hc : os.any (fun j => Nat.beq j m) with
    | false => rw [hc] at h; exact h.elim
    | true => rw [hc, cond_true] at h; exact fin _ rfl (fun cs' e => by cases e; simp only [A.onlyL, A.onlyB, hc, Bool.and_self]) h
   | pan v => exact fin _ rfl (fun _ e => by cases e) h
theorem keep_sound {s : St} {nb : Nat} {fx ks os : List Nat} {no : Nat} {K : St → Prop} {a : Act} {w : World} {G : Nat → Option GR} {I : Nat → Prop} (hfx : ∀ i, i < X.nb → X.G0 i ≠ none → i ∈ fx) (m : Mod tb X s.get s.obj a w G I) (h : keep nb fx ks os no s K) :
  ∃ s', K s' ∧ s'.ok ∧ nb ≤ s'.n ∧ (∀ i, i ∈ fx → i ∈ os) ∧ s'.n = no ∧ (∀ i x, s'.obj i = some x → s.obj i = some x ∧ i ∈ os) ∧ (∀ i, i ∈ os → (s'.obj i).isSome = true) ∧ (∀ t, (s'.get t).onlyB os = true) ∧ ∃ G', Mod tb X s'.get s'.obj a w G' I ∧ ∀ i, (os.any fun j => Nat.beq j i) = true → G' i = G i := by
 unfold keep at h
 cases hb : (fx.all (fun i => os.any fun j => Nat.beq j i) && os.all (fun i => Nat.blt i no) && Nat.ble nb no) with
 | false => rw [hb] at h; exact h.elim
 | true =>
  rw [hb, cond_true] at h
  simp only [Bool.and_eq_true, List.all_eq_true, Nat.blt_eq] at hb
  obtain ⟨⟨b1, b2⟩, b3⟩ := hb
  obtain ⟨sl, h, hsl⟩ := keepS_spec ks h
  obtain ⟨ob, hK, hob, hall⟩ := keepO_spec os h
  have memA : ∀ i, (os.any fun j => Nat.beq j i) = true ↔ i ∈ os := by
   intro i
   rw [List.any_eq_true]
   constructor
   ·rintro ⟨j, hj, e⟩; rw [← Nat.eq_of_beq_eq_true e]; exact hj
   ·intro hi; exact ⟨i, hi, by simp⟩
  obtain ⟨G', hG'⟩ : ∃ G' : Nat → Option GR, G' = fun i => bif os.any (fun j => Nat.beq j i) then G i else none := ⟨_, rfl⟩
  have hin : ∀ i, (os.any fun j => Nat.beq j i) = true → G' i = G i := fun i hi => by rw [hG']; simp only [hi, cond_true]
  have hsub : ∀ i x, G' i = some x → G i = some x ∧ i ∈ os := fun i x hx => by
   rw [hG'] at hx
   cases e : os.any (fun j => Nat.beq j i) with
   | true => simp only [e, cond_true] at hx; exact ⟨hx, (memA i).1 e⟩
   | false => simp only [e, cond_false] at hx; cases hx
  have honly : ∀ t, (lookA sl t).onlyB os = true := fun t => by
   rcases hsl t with ⟨e, ho⟩ | e
   ·rw [e]; exact ho
   ·rw [e]; rfl
  have hout : ∀ i, i ∉ os → G' i = none := fun i hi => by
   rw [hG']
   have : (os.any fun j => Nat.beq j i) = false := by
    rw [Bool.eq_false_iff]
    exact fun e => hi ((memA i).1 e)
   simp only [this, cond_false]
  refine ⟨_, hK, fun i hi => ?_, by simpa using b3, fun i hi => (memA i).1 (b1 i hi), rfl, fun i x e => ⟨(hob i x e).1, (hob i x e).2.1⟩, fun i hi => hall i hi, honly, G', { m with slots := ?_, objs := ?_, dom := ?_, sep := ?_, own := ?_, bor := ?_, barr := ?_, env := ?_ }, hin⟩
  ·cases e : lookO ob i with
   | none => exact e
   | some x => have := b2 i (hob i x e).2.1; have hi : no ≤ i := hi; omega
  ·intro t
   show RepA G' I w.heap (lookA sl t) _
   rcases hsl t with ⟨e, ho⟩ | e
   ·rw [e]; exact RepA.only hin _ _ ho (m.slots t)
   ·rw [e, RepA]; trivial
  ·intro i x hx
   obtain ⟨h1, h2, h3⟩ := hob i x hx
   have h0 := m.objs i x h1
   have hGi := hin i ((memA i).2 h2)
   cases x with
   | var b T cs =>
    obtain ⟨bk, c, e1, e2, e3, e4⟩ := h0
    exact ⟨bk, c, by rw [hGi]; exact e1, e2, RepAL.only hin _ _ (h3 cs rfl) e3, e4⟩
   | arr T es => simp only [ObOK, ArrOK] at h0 ⊢; rw [hGi]; exact h0
   | arw T cs =>
    obtain ⟨us, e1, e2⟩ := h0
    exact ⟨us, RepAL.only hin _ _ (h3 cs rfl) e1, by simp only [ArrOK] at e2 ⊢; rw [hGi]; exact e2⟩
   | iter mm q seen =>
    obtain ⟨bk, bm, sn, e1, e2, e3, e4⟩ := h0
    have hm : (os.any fun j => Nat.beq j mm) = true := by
     have := h3 _ rfl
     simpa only [A.onlyL, A.onlyB, Bool.and_true] using this
    exact ⟨bk, bm, sn, by rw [hGi]; exact e1, e2, by rw [hin mm hm]; exact e3, e4⟩
   | pan v => exact h0.elim
   | map k e es => simp only [ObOK] at h0 ⊢; rw [hGi]; exact h0
   | ro T cs =>
    obtain ⟨bk, c, e1, e0, e2, e3, e4⟩ := h0
    exact ⟨bk, c, by rw [hGi]; exact e1, e0, e2, RepAL.only hin _ _ (h3 cs rfl) e3, e4⟩
   | env k => trivial
   | dead => trivial
  ·intro i gr hg
   exact hall i (hsub i gr hg).2
  ·intro i j oi oj gi gj b h1 h2 h3 h4 h5 h6 h7 h8
   exact m.sep i j oi oj gi gj b (hob i oi h1).1 (hob j oj h2).1 h3 h4 (hsub i gi h5).1 (hsub j gj h6).1 h7 h8
  ·intro i oi gi b h1 h2 h3 h4
   exact m.own i oi gi b (hob i oi h1).1 h2 (hsub i gi h3).1 h4
  ·intro i hi hba
   by_cases hio : i ∈ os
   ·rw [hin i ((memA i).2 hio)]; exact m.bor i hi hba
   ·rw [hout i hio]
    by_cases hg : X.G0 i = none
    ·exact hg.symm
    ·exact absurd ((memA i).1 (b1 i (hfx i hi hg))) hio
  ·intro i T es hi hba e
   exact m.barr i T es hi hba (hob i _ e).1
  ·obtain ⟨k, Ft, f1, f2, f3, f4⟩ := m.env
   refine ⟨k, Ft, f1, f2, fun j oj gj b h1 h2 h3 h4 => f3 j oj gj b (hob j oj h1).1 h2 (hsub j gj h3).1 h4, fun i k' e => ?_⟩
   obtain ⟨e1, e2, _⟩ := hob i _ e
   obtain ⟨q1, q2, q3⟩ := f4 i k' e1
   subst q1
   exact ⟨rfl, q2, by rw [hin 0 ((memA 0).2 e2)]; exact q3⟩
end
end Go.Ev


namespace Go.Ev
open RowKit
section
variable {tb : TB} {X : Ctx} {P : Program} {g : Nat → A} {o : Nat → Option Ob} {a : Act} {w : World} {G : Nat → Option GR} {I : Nat → Prop}
theorem Mod.reself {X' : Ctx} (m : Mod tb X g o a w G I) {g' : Nat → A} {a' : Act} {w' : World} {I' : Nat → Prop} (hnt : a'.tmps.size = X'.nt) (h0 : X'.w0 = w') (hi0 : X'.I0 = I')
  (hbor : ∀ i, i < X'.nb → X'.ba i = false → G i = X'.G0 i) (hba : ∀ i T es, i < X'.nb → X'.ba i = false → o i ≠ some (.arr T es))
  (hmine : ∀ i oi gi b, o i = some oi → oi.live = true → G i = some gi → gi.blk = some b → X'.mine b)
  (hI : ∀ b, I b → w'.heap[b]? = w.heap[b]?) (hII : ∀ b, I b → I' b) (hz : ∀ b, I' b → b < w'.heap.size) (hsz : w.heap.size ≤ w'.heap.size)
  (hl : ∀ i oi gi b, o i = some oi → oi.live = true → G i = some gi → gi.blk = some b → ¬ I' b ∧ w'.heap[b]? = w.heap[b]?)
  (hslots : ∀ t, RepA G I' w'.heap (g' t) (a'.tmps.getD t undef)) (hnd : a'.defers = [])
  (henv : ∃ k F1, X'.E.P k F1 I' w' ∧ (∀ b, F1 b → b < w'.heap.size ∧ (X'.lent b ∨ w'.heap.size ≤ b)) ∧ (∀ j oj gj b, o j = some oj → oj.live = true → G j = some gj → gj.blk = some b → ¬ F1 b) ∧ ∀ i k', o i = some (.env k') → i = 0 ∧ k' = k ∧ G 0 = some ⟨X'.E.v, none⟩) (hbs : X'.E.base = [] := by rfl) :
  Mod tb X' g' o a' w' G I' := by
 refine ⟨hnt, hslots, fun i ob hi => ObOK.mono (fun _ _ h => h) hII hI (fun h2 gr b h3 h4 => (hl i ob gr b hi h2 h3 h4).2) (m.objs i ob hi), m.dom, m.sep, fun i oi gi b h1 h2 h3 h4 => ⟨(hl i oi gi b h1 h2 h3 h4).1, Nat.lt_of_lt_of_le (m.own i oi gi b h1 h2 h3 h4).2.1 hsz, .inr (hmine i oi gi b h1 h2 h3 h4)⟩, hbor, hz, fun b hb => by rw [hi0] at hb; exact hb, fun b hb => .inl (by rw [hi0]; exact hb), fun b _ _ => by rw [h0], by rw [h0], by rw [h0], by rw [h0], by rw [h0]; exact Nat.le_refl _, hba, ?_, fun _ => hnd⟩
 obtain ⟨k, F1, e1, e2, e3, e4⟩ := henv
 rw [h0, hnd]
 exact ⟨k, F1, ⟨[], F1, by rw [hbs]; rfl, List.nodup_nil, fun r hr => (nomatch hr), fun b => by simp, e1⟩, e2, e3, e4⟩
def holdE (m0 : Nat) (E : Env) (df : List Deferred) (l : Nat) (x : Obj) : Env where
 v := E.v
 P := fun j F1 I w => ∃ F2, MarksP m0 E df j F2 I w ∧ w.heap[l]? = some x ∧ ¬ I l ∧ ¬ F2 l ∧ ∀ b, F1 b ↔ F2 b ∨ b = l
 st := by
  rintro k F1 I I' w w' ⟨F2, h1, h2, h3, h4, h5⟩ s1 s2 s3 s4 s5 s6 s7 s8 s9
  have hl : F1 l := (h5 l).2 (.inr rfl)
  exact ⟨F2, h1.st (fun b hb => s1 b ((h5 b).2 (.inl hb))) s2 s3 (fun b hb => s4 b ((h5 b).2 (.inl hb))) s5 s6 s7 s8 s9, by rw [s1 l hl (Array.getElem?_eq_some_iff.1 h2).1]; exact h2, fun h => h3 (s4 l hl h), h4, h5⟩
 base := []
theorem holdE_ok {m0 : Nat} {E : Env} {df : List Deferred} {l : Nat} {x : Obj} {Y : Nat → List D → Bool → Prop} (hE : EnvOK P E Y) : EnvOK P (holdE m0 E df l x) Y := by
 rintro F n hF k F1 I w ds vs b ⟨F2, ⟨dl, Fx, e1, e2, e3, e4, e5⟩, h2, h3, h4, h5⟩ hI hF1 hy hr
 have hFx : ∀ q, Fx q → F1 q := fun q hq => (h5 q).2 (.inl ((e4 q).2 (.inl hq)))
 obtain ⟨l', f, tmps, assign, body, q1, q2, q3⟩ := hE F n hF k Fx I w ds vs b e5 hI (fun q hq => hF1 q (hFx q hq)) hy hr
 refine ⟨l', f, tmps, assign, body, q1, q2, q3.mono fun e w' he => ?_⟩
 obtain ⟨rfl, Fx', I', hE', t⟩ := he
 have hlx : ¬ Fx l := fun h => h4 ((e4 l).2 (.inl h))
 have hlz : l < w.heap.size := (Array.getElem?_eq_some_iff.1 h2).1
 have hno : ∀ q, q < w.heap.size → ¬ I q → ¬ Fx q → ¬ I' q := fun q p1 p2 p3 h => by
  rcases t.inew q h with h | h | h
  ·exact p2 h
  ·exact p3 h
  ·omega
 have hnF : ∀ q, q < w.heap.size → ¬ Fx q → ¬ Fx' q := fun q p1 p3 h => by
  rcases (t.fnew q h).1 with h | h
  ·exact p3 h
  ·omega
 refine ⟨rfl, fun q => (Fx' q ∨ q ∈ dl) ∨ q = l, I', ⟨fun q => Fx' q ∨ q ∈ dl, ⟨dl, Fx', e1, e2, fun r hr' => ?_, fun q => Iff.rfl, hE'⟩, ?_, hno l hlz h3 hlx, fun h => ?_, fun q => Iff.rfl⟩, t.up, fun q hq => ?_, t.isz, fun q hq => ?_, fun q p1 p2 => ?_, t.os, t.tape, t.output, t.size⟩
 ·obtain ⟨p1, p2, p3, p4⟩ := e3 r hr'
  have hr2 : r < w.heap.size := (Array.getElem?_eq_some_iff.1 p1).1
  exact ⟨by rw [t.keep r hr2 (.inr p4)]; exact p1, hno r hr2 p2 p4, p3, hnF r hr2 p4⟩
 ·rw [t.keep l hlz (.inr hlx)]; exact h2
 ·rcases h with h | h
  ·exact hnF l hlz hlx h
  ·exact h4 ((e4 l).2 (.inr h))
 ·rcases t.inew q hq with h | h | h
  ·exact .inl h
  ·exact .inr (.inl (hFx q h))
  ·exact .inr (.inr h)
 ·rcases hq with (hq | hq) | hq
  ·obtain ⟨p1, p2⟩ := t.fnew q hq
   exact ⟨p1.imp (hFx q) id, p2⟩
  ·have : F1 q := (h5 q).2 (.inl ((e4 q).2 (.inr hq)))
   exact ⟨.inl this, Nat.lt_of_lt_of_le (hF1 q this) t.size⟩
  ·have : F1 q := (h5 q).2 (.inr hq)
   exact ⟨.inl this, Nat.lt_of_lt_of_le (hF1 q this) t.size⟩
 ·exact t.keep q p1 (p2.imp id fun h hx => h (hFx q hx))
theorem arrO_false {o : Nat → Option Ob} {i : Nat} (h : arrO o i = false) (T : TypeId) (es : List (List D)) : o i ≠ some (.arr T es) := by
 intro e
 simp [arrO, e] at h
def liveB (o : Nat → Option Ob) (G : Nat → Option GR) (b : Nat) : Prop := ∃ i oi gi, o i = some oi ∧ oi.live = true ∧ G i = some gi ∧ gi.blk = some b
def Ctx.round (X : Ctx) (E : Env) (w : World) (I : Nat → Prop) (n : Nat) (o : Nat → Option Ob) (G : Nat → Option GR) (lent mine : Nat → Prop) : Ctx := ⟨w, I, n, arrO o, G, X.nt, E, lent, mine, true⟩
structure Frame0 where
 X : Ctx
 G : Nat → Option GR
 o : Nat → Option Ob
 os : List Nat
 sl : List (Nat × A)
 a : Act
 D : Nat
 l : Nat
 n0 : Nat
 lr : LoopState → Option Code → Loop
def Frame0.obj (Z : Frame0) (jx : Option Ex) : Obj :=
 match jx with
 | none => .loop (Z.lr .ready none)
 | some .ret => .loop (Z.lr .done (some .ret))
 | some (.ex i) => .loop (Z.lr .done (some (.exit i)))
 | some .nrm => .loop (Z.lr .done none)
 | some (.pan _) => .loop (Z.lr .done none)
def Frame0.env (Z : Frame0) (jx : Option Ex) : Env := holdE Z.X.w0.heap.size Z.X.E (markD Z.D :: Z.a.defers) Z.l (Z.obj jx)
structure ConsAt (tb : TB) (Z : Frame0) (jx : Option Ex) (ob1 : List (Nat × Ob)) (n1 : Nat) (G1 : Nat → Option GR) (F1 Ft I : Nat → Prop) (w : World) : Prop where
 mod : Mod tb (Z.X.round (Z.env jx) w I n1 (lookO ob1) G1 F1 (liveB (lookO ob1) G1)) (lookA Z.sl) (lookO ob1) { tmps := Z.a.tmps, defers := [] } w G1 I
 ok : ∀ i, n1 ≤ i → lookO ob1 i = none
 fix : ∀ i, i ∈ Z.os → (lookO ob1 i).isSome = true ∧ (arrO Z.o i = false → arrO (lookO ob1) i = false ∧ G1 i = Z.G i)
 own3 : ∀ b, liveB (lookO ob1) G1 b → Z.X.w0.heap.size ≤ b ∨ Z.X.mine b
 held : ∀ b, F1 b → Z.X.lent b ∨ Z.X.w0.heap.size ≤ b
 ft : ∀ b, Ft b ↔ F1 b ∨ liveB (lookO ob1) G1 b
 wsz : Z.X.w0.heap.size ≤ w.heap.size
 old : ∀ i, i < Z.n0 → (lookO ob1 i).isSome = true → i ∈ Z.os
 size : Z.n0 ≤ n1
def consE (tb : TB) (Z : Frame0) (R : Nat → List (Nat × Ob) → Nat → Option Ex → Prop) : Env where
 v := .func (.yield Z.l) #[] #[]
 P := fun k Ft I w => ∃ ob1 n1 G1 jx F1, R k ob1 n1 jx ∧ ConsAt tb Z jx ob1 n1 G1 F1 Ft I w
 st := by
  rintro k Ft I I' w w' ⟨ob1, n1, G1, jx, F1, hR, c⟩ s1 s2 s3 s4 s5 s6 s7 s8 s9
  have hlb : ∀ b, liveB (lookO ob1) G1 b → Ft b := fun b hb => (c.ft b).2 (.inr hb)
  have hlv : ∀ i oi gi b, lookO ob1 i = some oi → oi.live = true → G1 i = some gi → gi.blk = some b → ¬ I' b ∧ w'.heap[b]? = w.heap[b]? := by
   intro i oi gi b h1 h2 h3 h4
   obtain ⟨p1, p2, _⟩ := c.mod.own i oi gi b h1 h2 h3 h4
   have hf := hlb b ⟨i, oi, gi, h1, h2, h3, h4⟩
   exact ⟨fun h => p1 (s4 b hf h), s1 b hf p2⟩
  obtain ⟨j, F2, ⟨dl, F3, e1, e2, e3, e4, e5⟩, f2, f3, f4⟩ := c.mod.env
  have hdl : dl = [] := by cases dl <;> simp at e1 ⊢
  subst hdl
  have e4' : ∀ b, F2 b ↔ F3 b := fun b => by rw [e4 b]; simp
  have hF2 : ∀ b, F3 b → F1 b := fun b hb => by
   obtain ⟨p1, p2⟩ := f2 b ((e4' b).2 hb)
   rcases p2 with p2 | p2
   ·exact p2
   ·exact absurd p1 (Nat.not_lt.2 p2)
  have hF2t : ∀ b, F3 b → Ft b := fun b hb => (c.ft b).2 (.inl (hF2 b hb))
  refine ⟨ob1, n1, G1, jx, F1, hR, { c with mod := ?_, wsz := Nat.le_trans c.wsz s9 }⟩
  refine c.mod.reself c.mod.tsize rfl rfl (fun _ _ _ => rfl) (fun i T es _ h => arrO_false h T es) (fun i oi gi b h1 h2 h3 h4 => ⟨i, oi, gi, h1, h2, h3, h4⟩) s2 s3 s5 s9 hlv (fun t => RepA.mono (fun _ _ h => h) s3 s2 _ _ (c.mod.slots t)) rfl ?_
  refine ⟨j, F3, (Z.env jx).st j F3 I I' w w' e5 (fun b hb => s1 b (hF2t b hb)) s2 s3 (fun b hb => s4 b (hF2t b hb)) s5 s6 s7 s8 s9, fun b hb => ⟨Nat.lt_of_lt_of_le (f2 b ((e4' b).2 hb)).1 s9, .inl (hF2 b hb)⟩, fun j' oj gj b h1 h2 h3 h4 hf => f3 j' oj gj b h1 h2 h3 h4 ((e4' b).2 hf), f4⟩
 base := []
theorem RepAL.fix {h : Array Obj} {os : List Nat} {G' : Nat → Option GR} (hG : ∀ i, i ∈ os → arrO o i = false → G' i = G i) : ∀ {x : List A} {v : List Value}, fixAL o x = true → A.onlyL os x = true → RepAL G I h x v → RepAL G' I h x v
 | [], v, _, _, r => by rw [RepAL] at r ⊢; exact r
 | x :: l, v, hf, ho, r => by
  obtain ⟨u, q, rfl, r1, r2⟩ := r.uncons
  rw [A.onlyL, Bool.and_eq_true] at ho
  cases x with
  | ref i off =>
   simp only [fixAL, Bool.and_eq_true, Bool.not_eq_true'] at hf
   refine RepAL.cons ?_ (RepAL.fix hG hf.2 ho.2 r2)
   have hi : i ∈ os := by
    have := ho.1
    rw [A.onlyB, List.any_eq_true] at this
    obtain ⟨j, hj, e⟩ := this
    rw [← Nat.eq_of_beq_eq_true e]; exact hj
   rw [RepA] at r1 ⊢; rw [hG i hi hf.1]; exact r1
  | d y =>
   simp only [fixAL] at hf
   exact RepAL.cons (by rw [RepA] at r1 ⊢; exact r1) (RepAL.fix hG hf ho.2 r2)
  | _ => simp [fixAL] at hf
theorem RepA.fix {h : Array Obj} {os : List Nat} {G' : Nat → Option GR} (hG : ∀ i, i ∈ os → arrO o i = false → G' i = G i) {x : A} {v : Value} (hf : fixA o x = true) (ho : x.onlyB os = true) (r : RepA G I h x v) : RepA G' I h x v := by
 have mem : ∀ i, (os.any fun j => Nat.beq j i) = true → i ∈ os := fun i hi => by
  obtain ⟨j, hj, e⟩ := List.any_eq_true.1 hi
  rw [← Nat.eq_of_beq_eq_true e]; exact hj
 cases x with
 | ref i off =>
  simp only [fixA, Bool.not_eq_true'] at hf
  rw [A.onlyB] at ho
  rw [RepA] at r ⊢; rw [hG i (mem i ho) hf]; exact r
 | own i =>
  rw [A.onlyB] at ho
  have : arrO o i = false := by
   cases e : arrO o i with
   | false => rfl
   | true =>
    unfold arrO at e
    split at e
    ·rename_i T es ho'; simp [fixA, ho'] at hf
    ·cases e
  rw [RepA] at r ⊢; rw [hG i (mem i ho) this]; exact r
 | eref i k sz off => simp [fixA] at hf
 | pre i hi => simp [fixA] at hf
 | sub i ysz off sz n => simp [fixA] at hf
 | fn f a b =>
  simp only [fixA, Bool.and_eq_true] at hf
  rw [A.onlyB, Bool.and_eq_true] at ho
  rw [RepA] at r ⊢
  obtain ⟨x, y, r1, r2, r3⟩ := r
  exact ⟨x, y, r1, RepAL.fix hG hf.1 ho.1 r2, RepAL.fix hG hf.2 ho.2 r3⟩
 | agg cs =>
  rw [A.onlyB] at ho
  rw [RepA] at r ⊢
  obtain ⟨x, r1, r2⟩ := r
  exact ⟨x, r1, RepAL.fix hG hf ho r2⟩
 | tup cs =>
  rw [A.onlyB] at ho
  rw [RepA] at r ⊢
  obtain ⟨x, r1, r2⟩ := r
  exact ⟨x, r1, RepAL.fix hG hf ho r2⟩
 | lst cs => simp [fixA] at hf
 | lptr x => simp [fixA] at hf
 | d y => rw [RepA] at r ⊢; exact r
 | unk => rw [RepA]; trivial
theorem zipS_rep {h : Array Obj} : ∀ {ps : List Nat} {ds : List D} {vs : List Value} {sl : List (Nat × A)} {tmps : Array Value}, RepL I h ds vs → (∀ p ∈ ps, p < tmps.size) → (∀ t, RepA G I h (lookA sl t) (tmps.getD t undef)) →
  ((ps.zip vs).foldl (fun (tmps : Array Value) (q : Nat × Value) => tmps.setIfInBounds q.1 q.2) tmps).size = tmps.size ∧ ∀ t, RepA G I h (lookA (zipS ps ds sl) t) (((ps.zip vs).foldl (fun (tmps : Array Value) (q : Nat × Value) => tmps.setIfInBounds q.1 q.2) tmps).getD t undef)
 | [], ds, vs, sl, tmps, r, hp, hs => ⟨by simp, by simpa [zipS] using hs⟩
 | p :: ps, [], vs, sl, tmps, r, hp, hs => by rw [RepL] at r; subst r; exact ⟨by simp, by simpa [zipS] using hs⟩
 | p :: ps, d :: ds, vs, sl, tmps, r, hp, hs => by
  obtain ⟨v, vs, rfl, r1, r2⟩ := r.uncons
  have := zipS_rep (ps := ps) (sl := (p, .d d) :: sl) (tmps := tmps.setIfInBounds p v) r2 (fun q hq => by simpa using hp q (by simp [hq])) (fun t => by
   rw [lookA]
   cases e : Nat.beq p t with
   | true =>
    have e := Nat.eq_of_beq_eq_true e
    subst e
    have := hp p (by simp)
    rw [cond_true, RepA]
    simpa [Array.getD_eq_getD_getElem?, this] using r1
   | false =>
    have hne : p ≠ t := fun e' => by subst e'; simp at e
    rw [cond_false]
    simpa [Array.getD_eq_getD_getElem?, Array.getElem?_setIfInBounds_ne hne] using hs t)
  simpa [zipS] using this
theorem lookO_keys {ob : List (Nat × Ob)} {i : Nat} (h : (lookO ob i).isSome = true) : i ∈ ob.map (·.1) := by
 obtain ⟨z, hz⟩ := Option.isSome_iff_exists.1 h
 exact List.mem_map.2 ⟨(i, z), lookO_mem hz, rfl⟩
theorem keys_lookO {ob : List (Nat × Ob)} {i : Nat} (h : i ∈ ob.map (·.1)) : (lookO ob i).isSome = true := by
 induction ob with
 | nil => simp at h
 | cons p ob ih =>
  obtain ⟨k, x⟩ := p
  rw [lookO]
  cases e : Nat.beq k i with
  | true => rfl
  | false =>
   rw [cond_false]
   refine ih ?_
   rcases List.mem_cons.1 h with h | h
   ·have h : i = k := h
    subst h; simp at e
   ·exact h
def RoundDoes (tb : TB) (P : Program) (Y : Nat → List D → Bool → Prop) (nt : Nat) (sl : List (Nat × A)) (ps : Array Nat) (assign body : Code) (R : Nat → List (Nat × Ob) → Nat → Option Ex → Prop) (t k : Nat) (ds : List D) (ob1 : List (Nat × Ob)) (n1 : Nat) : Prop :=
 ∀ (F : Fence) (n : Nat) (X' : Ctx) (a1 : Act) (w1 : World) (G1 : Nat → Option GR) (I1 : Nat → Prop), Wide F → EnvOK P X'.E Y → X'.nt = nt → (∀ i, i < X'.nb → X'.G0 i ≠ none → i ∈ ob1.map (·.1)) → X'.nb ≤ n1 → (∀ i, n1 ≤ i → lookO ob1 i = none) →
  Mod tb X' (lookA (zipS ps.toList ds sl)) (lookO ob1) a1 w1 G1 I1 →
  assign.wpIn F n P (fun e a2 w2 => e = .normal ∧ ∃ (s2 : St) (G2 : Nat → Option GR) (I2 : Nat → Prop), Mod tb X' s2.get s2.obj a2 w2 G2 I2 ∧ s2.ok ∧ n1 ≤ s2.n ∧
   ∀ (X'' : Ctx) (a3 : Act) (w3 : World) (G3 : Nat → Option GR) (I3 : Nat → Prop), EnvOK P X''.E Y → X''.nt = nt → (∀ i, i < X''.nb → X''.G0 i ≠ none → i ∈ ob1.map (·.1)) → X''.nb ≤ n1 → Mod tb X'' s2.get s2.obj a3 w3 G3 I3 →
    body.wpIn F n P (fun e a4 w4 => ∃ (ex : Ex) (s4 : St) (G4 : Nat → Option GR) (I4 : Nat → Prop), e = ex.to ∧ Mod tb X'' s4.get s4.obj a4 w4 G4 I4 ∧ s4.ok ∧ ∃ (os2 : List Nat) (no : Nat), (∀ i, i ∈ os2 → i ∈ ob1.map (·.1) ∨ n1 ≤ i) ∧ keep n1 (ob1.map (·.1)) [] os2 no s4 fun s5 => match ex with
     | .nrm => k < t ∧ R (k + 1) s5.ob s5.n none
     | .pan _ => False
     | ex => k = t ∧ R (k + 1) s5.ob s5.n (some ex)) a3 w3) a1 w1
end
end Go.Ev


namespace Go.Ev
open RowKit
section
variable {tb : TB} {P : Program} {Y : Nat → List D → Bool → Prop}
theorem holdE_put {m0 : Nat} {E : Env} {df : List Deferred} {l : Nat} {x y : Obj} {j : Nat} {F1 I : Nat → Prop} {w : World} (h : (holdE m0 E df l x).P j F1 I w) (hI : ∀ b, I b → b < w.heap.size) : (holdE m0 E df l y).P j F1 I (w.putObj l y) ∧ F1 l ∧ ¬ I l ∧ w.heap[l]? = some x := by
 obtain ⟨F2, h1, h2, h3, h4, h5⟩ := h
 have hoth : ∀ k, k ≠ l → (w.putObj l y).heap[k]? = w.heap[k]? := fun k hk => World.putObj_heap_other hk
 have hlz : l < w.heap.size := (Array.getElem?_eq_some_iff.1 h2).1
 refine ⟨⟨F2, h1.st (fun b hb _ => hoth b fun e => h4 (e ▸ hb)) (fun b hb => hoth b fun e => h3 (e ▸ hb)) (fun _ h => h) (fun _ _ h => h) (by rw [World.putObj_size]; exact hI) rfl rfl rfl (by rw [World.putObj_size]; exact Nat.le_refl _), World.putObj_heap_same hlz, h3, h4, h5⟩, (h5 l).2 (.inr rfl), h3, h2⟩
theorem consE_ok {Z : Frame0} {R : Nat → List (Nat × Ob) → Nat → Option Ex → Prop} (hE : EnvOK P Z.X.E Y) (hts : Z.a.tmps.size = Z.X.nt) {ps : Array Nat} {assign body : Code} {fn : FuncId}
  (hrec : ∀ st pe, Z.lr st pe = { state := st, pending := pe, fn := fn, tmps := Z.a.tmps, params := ps, assign := assign, body := body, defers := Z.D }) (hps : ∀ p ∈ ps.toList, p < Z.X.nt)
  (hfix : ∀ t, fixA Z.o (lookA Z.sl t) = true ∧ (lookA Z.sl t).onlyB Z.os = true) {elems : List (List D)} {t : Nat} (hR0 : ∀ k ob n e, R k ob n (some e) → k = t + 1)
  (hround : ∀ k ds ob1 n1, elems[k]? = some ds → k ≤ t → R k ob1 n1 none → ds.length = ps.size ∧ RoundDoes tb P Y Z.X.nt Z.sl ps assign body R t k ds ob1 n1) :
  EnvOK P (consE tb Z R) (Yt elems t) := by
 rintro F n hF k Ft I w ds vs b ⟨ob1, n1, G1, jx, F1, hR, c⟩ hIz hFz ⟨hkt, hel, hb⟩ hrep
 cases jx with
 | some e => have := hR0 _ _ _ _ hR; omega
 | none =>
  obtain ⟨hdl, hrd⟩ := hround k ds ob1 n1 hel hkt hR
  have hhold : ∀ (X : Ctx) (g : Nat → A) (o : Nat → Option Ob) (a : Act) (w : World) (G : Nat → Option GR) (I : Nat → Prop), Mod tb X g o a w G I → a.defers = [] → ∃ j F1, X.E.P j F1 I w ∧ (∀ b, F1 b → b < w.heap.size ∧ (X.lent b ∨ X.w0.heap.size ≤ b)) ∧
    (∀ j oj gj b, o j = some oj → oj.live = true → G j = some gj → gj.blk = some b → ¬ F1 b) ∧ ∀ i k', o i = some (.env k') → i = 0 ∧ k' = j ∧ G 0 = some ⟨X.E.v, none⟩ := by
   intro X g o a w G I m hd
   obtain ⟨j, F2, ⟨dl, F3, e1, e2, e3, e4, e5⟩, f2, f3, f4⟩ := m.env
   have hdl : dl = [] := by rw [hd] at e1; cases dl <;> simp at e1 ⊢
   subst hdl
   have e4' : ∀ b, F2 b ↔ F3 b := fun b => by rw [e4 b]; simp
   exact ⟨j, F3, e5, fun b hb => f2 b ((e4' b).2 hb), fun j' oj gj b h1 h2 h3 h4 hf => f3 j' oj gj b h1 h2 h3 h4 ((e4' b).2 hf), f4⟩
  obtain ⟨j1, H1, p1, p2, p3, p4⟩ := hhold _ _ _ _ _ _ _ c.mod rfl
  have hrl : w.heap[Z.l]? = some (.loop (Z.lr .ready none)) := (holdE_put (y := .loop default) p1 hIz).2.2.2
  have hH1 : ∀ q, H1 q → F1 q := fun q hq => by
   obtain ⟨q1, q2⟩ := p2 q hq
   rcases q2 with q2 | q2
   ·exact q2
   ·exact absurd q1 (Nat.not_lt.2 q2)
  have hlF : Ft Z.l := (c.ft _).2 (.inl (hH1 _ (holdE_put (y := .loop default) p1 hIz).2.1))
  have hlI : ¬ I Z.l := (holdE_put (y := .loop default) p1 hIz).2.2.1
  have hvl : vs.length = ps.size := by rw [RepL.length hrep, hdl]
  have hyr := run_yield (P := P) (args := vs.toArray) hrl (by rw [hrec]; simpa using hvl)
  rw [hrec] at hyr
  obtain ⟨T, hT⟩ : ∃ T, T = (ps.zip vs.toArray).foldl (fun (tmps : Array Value) (q : Nat × Value) => tmps.setIfInBounds q.1 q.2) Z.a.tmps := ⟨_, rfl⟩
  have hT2 : T = (ps.toList.zip vs).foldl (fun (tmps : Array Value) (q : Nat × Value) => tmps.setIfInBounds q.1 q.2) Z.a.tmps := by
   rw [hT, ← Array.foldl_toList, Array.toList_zip]
  obtain ⟨hTs, hTr⟩ := zipS_rep (G := G1) (sl := Z.sl) (tmps := Z.a.tmps) hrep (fun p hp => by rw [hts]; exact hps p hp) c.mod.slots
  rw [← hT2] at hTs hTr
  have hFin : Wide (F.inRound Z.l) := ⟨hF.fn, hF.depth, hF.alive⟩
  refine ⟨Z.l, fn, T, assign, body, rfl, by rw [hT]; exact hyr, roundIn_of_wpIn (hF.fn _) ?_⟩
  have m1 : Mod tb (Z.X.round (Z.env none) w I n1 (lookO ob1) G1 F1 (liveB (lookO ob1) G1)) (lookA (zipS ps.toList ds Z.sl)) (lookO ob1) { tmps := T, defers := [] } w G1 I :=
   { c.mod with tsize := by { show T.size = _; rw [hTs]; exact hts }, slots := hTr }
  have hfx1 : ∀ i, i < n1 → G1 i ≠ none → i ∈ ob1.map (·.1) := fun i _ hg => by
   cases e : G1 i with
   | none => exact absurd e hg
   | some gr => exact lookO_keys (c.mod.dom i gr e)
  refine wpIn_mono (hrd (F.inRound Z.l) n (Z.X.round (Z.env none) w I n1 (lookO ob1) G1 F1 (liveB (lookO ob1) G1)) _ _ _ _ hFin (holdE_ok hE) rfl hfx1 (Nat.le_refl _) c.ok m1) ?_
  rintro e a2 w2 ⟨rfl, s2, G2, I2, m2, ok2, hn2, hbody⟩
  have hd2 : a2.defers = [] := m2.nd rfl
  obtain ⟨j2, H2, q1, q2, q3, q4⟩ := hhold _ _ _ _ _ _ _ m2 hd2
  obtain ⟨w3, hw3⟩ : ∃ w3, w3 = w2.putObj Z.l (.loop (Z.lr .busy none)) := ⟨_, rfl⟩
  obtain ⟨r1, r2, r3, r4⟩ := holdE_put (y := .loop (Z.lr .busy none)) q1 m2.isz
  have hbr : (Instr.beginRound Z.l).run P w2 = .ok () w3 := by
   have := run_beginRound (P := P) (w := w2) (r := Z.lr .ready none) r4 (by rw [hrec])
   rw [hw3, this, hrec, hrec]
  have ho3 : ∀ q, q ≠ Z.l → w3.heap[q]? = w2.heap[q]? := fun q hq => by rw [hw3]; exact World.putObj_heap_other hq
  have hs3 : w3.heap.size = w2.heap.size := by rw [hw3]; exact World.putObj_size
  have hI3 : ∀ q, I2 q → w3.heap[q]? = w2.heap[q]? := fun q hq => ho3 q fun e => r3 (e ▸ hq)
  obtain ⟨X2, hX2⟩ : ∃ X2 : Ctx, X2 = { Z.X.round (holdE Z.X.w0.heap.size Z.X.E (markD Z.D :: Z.a.defers) Z.l (.loop (Z.lr .busy none))) w3 I2 n1 (lookO ob1) (fun i => if i ∈ ob1.map (·.1) then G2 i else none) H2 (liveB s2.obj G2) with nd := true } := ⟨_, rfl⟩
  have m3 : Mod tb X2 s2.get s2.obj a2 w3 G2 I2 := by
   subst hX2
   refine m2.reself m2.tsize rfl rfl (fun i hi hba => ?_) (fun i T es hi hba => m2.barr i T es hi hba) (fun i oi gi q h1 h2 h3 h4 => ⟨i, oi, gi, h1, h2, h3, h4⟩) hI3 (fun _ h => h) (by rw [hs3]; exact m2.isz) (by rw [hs3]; exact Nat.le_refl _)
    (fun i oi gi q h1 h2 h3 h4 => ⟨(m2.own i oi gi q h1 h2 h3 h4).1, ho3 q fun e => q3 i oi gi q h1 h2 h3 h4 (e ▸ r2)⟩) (fun t => RepA.mono (fun _ _ h => h) (fun _ h => h) hI3 _ _ (m2.slots t)) hd2 ⟨j2, H2, by rw [hw3]; exact r1, fun q hq => ⟨by rw [hs3]; exact (q2 q hq).1, .inl hq⟩, q3, q4⟩
   have h1 : G2 i = G1 i := m2.bor i hi hba
   show G2 i = if i ∈ ob1.map (·.1) then G2 i else none
   split
   ·rfl
   ·rename_i hni
    rw [h1]
    cases e : G1 i with
    | none => rfl
    | some gr => exact absurd (lookO_keys (c.mod.dom i gr e)) hni
  have hE2 : EnvOK P X2.E Y := by subst hX2; exact holdE_ok hE
  have hfx2 : ∀ i, i < X2.nb → X2.G0 i ≠ none → i ∈ ob1.map (·.1) := fun i _ hg => by
   subst hX2
   have hg : (if i ∈ ob1.map (·.1) then G2 i else none) ≠ none := hg
   by_cases hi : i ∈ ob1.map (·.1)
   ·exact hi
   ·rw [if_neg hi] at hg; exact absurd rfl hg
  refine ⟨w3, hbr, wpIn_mono (hbody X2 a2 w3 G2 I2 hE2 (by subst hX2; rfl) hfx2 (by subst hX2; exact Nat.le_refl _) m3) ?_⟩
  rintro e a4 w4 ⟨ex, s4, G4, I4, rfl, m4, ok4, os2, no, hos2, hkeep⟩
  obtain ⟨s5, hs5, ok5, hn5, k1, k2, k3, k4, _, G5, m5, k5⟩ := keep_sound hfx2 m4 hkeep
  have hd4 : a4.defers = [] := m5.nd (by subst hX2; rfl)
  obtain ⟨j5, H5, u1, u2, u3, u4⟩ := hhold _ _ _ _ _ _ _ m5 hd4
  have u1' : (holdE Z.X.w0.heap.size Z.X.E (markD Z.D :: Z.a.defers) Z.l (.loop (Z.lr .busy none))).P j5 H5 I4 w4 := by subst hX2; exact u1
  have hX2v : X2.E.v = Z.X.E.v := by subst hX2; rfl
  have u2' : ∀ q, H5 q → q < w4.heap.size ∧ (H2 q ∨ w3.heap.size ≤ q) := by subst hX2; exact u2
  obtain ⟨jx, hjx⟩ : ∃ jx : Option Ex, jx = match ex with | .nrm => none | ex => some ex := ⟨_, rfl⟩
  obtain ⟨v1, v2, v3, v4⟩ := holdE_put (y := Z.obj jx) u1' m5.isz
  obtain ⟨w5, hw5⟩ : ∃ w5, w5 = w4.putObj Z.l (Z.obj jx) := ⟨_, rfl⟩
  rw [← hw5] at v1
  have ho5 : ∀ q, q ≠ Z.l → w5.heap[q]? = w4.heap[q]? := fun q hq => by rw [hw5]; exact World.putObj_heap_other hq
  have hs5' : w5.heap.size = w4.heap.size := by rw [hw5]; exact World.putObj_size
  have hI5 : ∀ q, I4 q → w5.heap[q]? = w4.heap[q]? := fun q hq => ho5 q fun e => v3 (e ▸ hq)
  have z12 : w.heap.size ≤ w2.heap.size := m2.wsz
  have z34 : w3.heap.size ≤ w4.heap.size := by have := m5.wsz; subst hX2; exact this
  have z5 : w.heap.size ≤ w5.heap.size := by omega
  have i02 : ∀ q, I q → I2 q := m2.i0
  have i24 : ∀ q, I2 q → I4 q := fun q hq => m5.i0 q (by subst hX2; exact hq)
  have hl1 : ∀ q, liveB (lookO ob1) G1 q → Ft q := fun q hq => (c.ft q).2 (.inr hq)
  have hF1t : ∀ q, F1 q → Ft q := fun q hq => (c.ft q).2 (.inl hq)
  have hH2 : ∀ q, H2 q → F1 q ∨ w.heap.size ≤ q := fun q hq => (q2 q hq).2
  have hl2 : ∀ q, liveB s2.obj G2 q → w.heap.size ≤ q ∨ liveB (lookO ob1) G1 q := fun q ⟨i, oi, gi, h1, h2, h3, h4⟩ => (m2.own i oi gi q h1 h2 h3 h4).2.2
  have hl5 : ∀ q, liveB s5.obj G5 q → w.heap.size ≤ q ∨ liveB (lookO ob1) G1 q := fun q ⟨i, oi, gi, h1, h2, h3, h4⟩ => by
   have := (m5.own i oi gi q h1 h2 h3 h4).2.2
   subst hX2
   rcases this with h | h
   ·have h : w3.heap.size ≤ q := h
    exact .inl (by omega)
   ·exact hl2 q h
  have hH5 : ∀ q, H5 q → F1 q ∨ w.heap.size ≤ q := fun q hq => by
   rcases (u2' q hq).2 with h | h
   ·exact hH2 q h
   ·exact .inr (by omega)
  have hin2 : ∀ q, I2 q → I q ∨ Ft q ∨ w.heap.size ≤ q := fun q hq => by
   rcases m2.inew q hq with h | h | h | h
   ·exact .inl h
   ·exact .inr (.inl (hF1t q h))
   ·exact .inr (.inl (hl1 q h))
   ·exact .inr (.inr h)
  have hin4 : ∀ q, I4 q → I q ∨ Ft q ∨ w.heap.size ≤ q := fun q hq => by
   have := m5.inew q hq
   subst hX2
   rcases this with h | h | h | h
   ·exact hin2 q h
   ·rcases hH2 q h with h | h
    ·exact .inr (.inl (hF1t q h))
    ·exact .inr (.inr h)
   ·rcases hl2 q h with h | h
    ·exact .inr (.inr h)
    ·exact .inr (.inl (hl1 q h))
   ·have h : w3.heap.size ≤ q := h
    exact .inr (.inr (by omega))
  have hkI : ∀ q, I q → w5.heap[q]? = w.heap[q]? := fun q hq => by
   have e1 : w2.heap[q]? = w.heap[q]? := m2.frame q (hIz q hq) (.inl hq)
   have e2 := hI3 q (i02 q hq)
   have e3 : w4.heap[q]? = w3.heap[q]? := by
    have := m5.frame q (by subst hX2; show q < w3.heap.size; have := hIz q hq; omega) (.inl (by subst hX2; exact i02 q hq))
    subst hX2; exact this
   have e4 := hI5 q (i24 q (i02 q hq))
   rw [e4, e3, e2, e1]
  have hkF : ∀ q, q < w.heap.size → ¬ Ft q → w5.heap[q]? = w.heap[q]? := fun q hq hf => by
   have hql : q ≠ Z.l := fun e => hf (e ▸ hlF)
   have n1' : ¬ F1 q := fun h => hf (hF1t q h)
   have n2' : ¬ liveB (lookO ob1) G1 q := fun h => hf (hl1 q h)
   have e1 : w2.heap[q]? = w.heap[q]? := m2.frame q hq (.inr ⟨n1', n2'⟩)
   have e2 := ho3 q hql
   have e3 : w4.heap[q]? = w3.heap[q]? := by
    have := m5.frame q (by subst hX2; show q < w3.heap.size; omega) (.inr (by
     subst hX2
     refine ⟨fun h => ?_, fun h => ?_⟩
     ·rcases hH2 q h with h | h
      ·exact n1' h
      ·omega
     ·rcases hl2 q h with h | h
      ·omega
      ·exact n2' h))
    subst hX2; exact this
   rw [ho5 q hql, e3, e2, e1]
  have hlive5 : ∀ i oi gi q, s5.obj i = some oi → oi.live = true → G5 i = some gi → gi.blk = some q → ¬ I4 q ∧ w5.heap[q]? = w4.heap[q]? := fun i oi gi q h1 h2 h3 h4 =>
   ⟨(m5.own i oi gi q h1 h2 h3 h4).1, ho5 q fun e => u3 i oi gi q h1 h2 h3 h4 (e ▸ v2)⟩
  have hkept : ∀ i, i ∈ ob1.map (·.1) → arrO (lookO ob1) i = false → arrO s5.obj i = false ∧ G5 i = G1 i := by
   intro i hi ha
   have hin1 : i < n1 := by
    rcases Nat.lt_or_ge i n1 with h | h
    ·exact h
    ·have := c.ok i h
     have h2 := keys_lookO hi
     rw [this] at h2; cases h2
   have g2 : G2 i = G1 i := m2.bor i hin1 ha
   have g5 : G5 i = G2 i := by
    have := m5.bor i (by subst hX2; exact hin1) (by subst hX2; exact ha)
    subst hX2
    have this : G5 i = if i ∈ ob1.map (·.1) then G2 i else none := this
    rw [if_pos hi] at this; exact this
   refine ⟨?_, by rw [g5, g2]⟩
   have hb5 := m5.barr i
   cases e : arrO s5.obj i with
   | false => rfl
   | true =>
    unfold arrO at e
    split at e
    ·rename_i T es he
     exact absurd he (hb5 T es (by subst hX2; exact hin1) (by subst hX2; exact ha))
    ·cases e
  have hfix5 : ∀ i, i ∈ Z.os → (s5.obj i).isSome = true ∧ (arrO Z.o i = false → arrO s5.obj i = false ∧ G5 i = Z.G i) := by
   intro i hi
   obtain ⟨f1, f2⟩ := c.fix i hi
   have hik := lookO_keys f1
   refine ⟨k4 i (k1 i hik), fun ha => ?_⟩
   obtain ⟨f3, f4⟩ := f2 ha
   obtain ⟨f5, f6⟩ := hkept i hik f3
   exact ⟨f5, by rw [f6, f4]⟩
  have hcons : ConsAt tb Z jx s5.ob s5.n G5 H5 (fun q => H5 q ∨ liveB s5.obj G5 q) I4 w5 := by
   refine ⟨?_, ok5, hfix5, fun q hq => ?_, fun q hq => ?_, fun q => Iff.rfl, Nat.le_trans c.wsz z5, fun i hi hsome => ?_, Nat.le_trans c.size hn5⟩
   ·refine m5.reself (X' := Z.X.round (Z.env jx) w5 I4 s5.n (lookO s5.ob) G5 H5 (liveB (lookO s5.ob) G5)) hts rfl rfl (fun _ _ _ => rfl) (fun i T es _ h => arrO_false h T es) (fun i oi gi q h1 h2 h3 h4 => ⟨i, oi, gi, h1, h2, h3, h4⟩) hI5 (fun _ h => h) (by rw [hs5']; exact m5.isz) (by rw [hs5']; exact Nat.le_refl _) hlive5 (fun t => ?_) rfl ⟨j5, H5, v1, fun q hq => ⟨by rw [hs5']; exact (u2' q hq).1, .inl hq⟩, u3, fun i k' h => ?_⟩
    ·have r := c.mod.slots t
     have r2 := RepA.mono (fun _ _ h => h) (fun q h => i24 q (i02 q h)) hkI _ _ r
     obtain ⟨f1, f2⟩ := hfix t
     refine RepA.fix (o := Z.o) (os := Z.os) (G := G1) (fun i hi ha => ?_) f1 f2 r2
     rw [((hfix5 i hi).2 ha).2, ((c.fix i hi).2 ha).2]
    ·obtain ⟨h1, h2, h3⟩ := u4 i k' h
     exact ⟨h1, h2, by rw [h3, hX2v]; rfl⟩
   ·rcases hl5 q hq with h | h
    ·exact .inl (Nat.le_trans c.wsz h)
    ·exact c.own3 q h
   ·rcases hH5 q hq with h | h
    ·exact c.held q h
    ·exact .inr (Nat.le_trans c.wsz h)
   ·obtain ⟨x, hx⟩ := Option.isSome_iff_exists.1 hsome
    rcases hos2 i (k3 i x hx).2 with h | h
    ·exact c.old i hi (keys_lookO h)
    ·have := c.size; omega
  have hturn : Turned Ft I w (fun q => H5 q ∨ liveB s5.obj G5 q) I4 w5 := by
   refine ⟨fun q hq => i24 q (i02 q hq), hin4, by rw [hs5']; exact m5.isz, fun q hq => ?_, fun q h1 h2 => ?_, ?_, ?_, ?_, z5⟩
   ·rcases hq with hq | hq
    ·refine ⟨?_, by rw [hs5']; exact (u2' q hq).1⟩
     rcases hH5 q hq with h | h
     ·exact .inl (hF1t q h)
     ·exact .inr h
    ·obtain ⟨i, oi, gi, h1, h2, h3, h4⟩ := hq
     refine ⟨?_, by rw [hs5']; exact (m5.own i oi gi q h1 h2 h3 h4).2.1⟩
     rcases hl5 q ⟨i, oi, gi, h1, h2, h3, h4⟩ with h | h
     ·exact .inr h
     ·exact .inl (hl1 q h)
   ·rcases h2 with h2 | h2
    ·exact hkI q h2
    ·exact hkF q h1 h2
   ·have e5 : w5.os = w4.os := by rw [hw5]; rfl
    have e4 : w4.os = w3.os := by have := m5.os; subst hX2; exact this
    have e3 : w3.os = w2.os := by rw [hw3]; rfl
    rw [e5, e4, e3]; exact m2.os
   ·have e5 : w5.tape = w4.tape := by rw [hw5]; rfl
    have e4 : w4.tape = w3.tape := by have := m5.tape; subst hX2; exact this
    have e3 : w3.tape = w2.tape := by rw [hw3]; rfl
    rw [e5, e4, e3]; exact m2.tape
   ·have e5 : w5.output = w4.output := by rw [hw5]; rfl
    have e4 : w4.output = w3.output := by have := m5.output; subst hX2; exact this
    have e3 : w3.output = w2.output := by rw [hw3]; rfl
    rw [e5, e4, e3]; exact m2.output
  have hend : ∀ (jump : Option Code), Z.obj jx = .loop (Z.lr (if jump.isNone then .ready else .done) jump) → (Instr.endRound Z.l jump).run P w4 = .ok (.bool jump.isNone) w5 := by
   intro jump he
   have := run_endRound (P := P) (w := w4) (r := Z.lr .busy none) jump v4
   rw [this, hw5, he, hrec, hrec]
  cases ex with
  | nrm =>
   simp only at hs5 hjx
   subst hjx
   refine ⟨_, _, hend none rfl, by rw [hb, decide_eq_true hs5.1]; rfl, _, I4, ⟨s5.ob, s5.n, G5, none, H5, hs5.2, hcons⟩, hturn⟩
  | pan v => exact hs5.elim
  | ret =>
   simp only at hs5 hjx
   subst hjx
   refine ⟨_, _, hend (some .ret) rfl, by rw [hb, decide_eq_false (by omega)]; rfl, _, I4, ⟨s5.ob, s5.n, G5, some .ret, H5, hs5.2, hcons⟩, hturn⟩
  | ex i =>
   simp only at hs5 hjx
   subst hjx
   refine ⟨_, _, hend (some (.exit i)) rfl, by rw [hb, decide_eq_false (by omega)]; rfl, _, I4, ⟨s5.ob, s5.n, G5, some (.ex i), H5, hs5.2, hcons⟩, hturn⟩
end
end Go.Ev


namespace Go.Ev
open RowKit
theorem keepO_mono {os : List Nat} {s : St} : ∀ {l : List Nat} {K K' : List (Nat × Ob) → Prop}, (∀ x, K x → K' x) → keepO os s l K → keepO os s l K'
 | [], K, K', h1, h2 => h1 _ h2
 | i :: r, K, K', h1, h2 => by
  rw [keepO] at h2 ⊢
  cases ho : s.obj i with
  | none => rw [ho] at h2; exact h2.elim
  | some x =>
   rw [ho] at h2
   cases x with
   | var b T cs =>
    cases b with
    | true => exact ⟨h2.1, keepO_mono (fun x hx => h1 _ hx) h2.2⟩
    | false =>
     simp only [fL_eq] at h2 ⊢
     cases hc : A.onlyL os cs with
     | false => rw [hc] at h2; exact h2.elim
     | true => rw [hc] at h2; exact keepO_mono (fun x hx => h1 _ hx) h2
   | ro T cs => exact ⟨h2.1, keepO_mono (fun x hx => h1 _ hx) h2.2⟩
   | arr T es => exact keepO_mono (K := fun r => K ((i, .arr T es) :: r)) (fun x hx => h1 _ hx) h2
   | map a b c => exact keepO_mono (K := fun r => K ((i, .map a b c) :: r)) (fun x hx => h1 _ hx) h2
   | env k => exact keepO_mono (K := fun r => K ((i, .env k) :: r)) (fun x hx => h1 _ hx) h2
   | dead => exact keepO_mono (K := fun r => K ((i, .dead) :: r)) (fun x hx => h1 _ hx) h2
   | arw T cs => exact ⟨h2.1, keepO_mono (fun x hx => h1 _ hx) h2.2⟩
   | iter m q seen =>
    have h2 : bif os.any (fun j => Nat.beq j m) then keepO os s r fun r => K ((i, .iter m q seen) :: r) else False := h2
    show bif os.any (fun j => Nat.beq j m) then keepO os s r fun r => K' ((i, .iter m q seen) :: r) else False
    cases hc : os.any (fun j => Nat.beq j m) with
    | false => rw [hc] at h2; exact h2.elim
    | true => rw [hc] at h2; exact keepO_mono (K := fun r => K ((i, .iter m q seen) :: r)) (fun x hx => h1 _ hx) h2
   | pan v => exact keepO_mono (K := fun r => K ((i, .pan v) :: r)) (fun x hx => h1 _ hx) h2
theorem keepS_mono {os : List Nat} {s : St} : ∀ {l : List Nat} {K K' : List (Nat × A) → Prop}, (∀ x, K x → K' x) → keepS os s l K → keepS os s l K'
 | [], K, K', h1, h2 => h1 _ h2
 | i :: r, K, K', h1, h2 => by
  rw [keepS, fA_eq] at h2 ⊢
  cases hc : (s.get i).onlyB os with
  | false => rw [hc] at h2; exact h2.elim
  | true => rw [hc] at h2; exact keepS_mono (K := fun r => K ((i, s.get i) :: r)) (fun x hx => h1 _ hx) h2
theorem keep_mono {nb : Nat} {fx ks os : List Nat} {no : Nat} {s : St} {K K' : St → Prop} (hK : ∀ s, K s → K' s) (h : keep nb fx ks os no s K) : keep nb fx ks os no s K' := by
 unfold keep at h ⊢
 cases hb : (fx.all (fun i => os.any fun j => Nat.beq j i) && os.all (fun i => Nat.blt i no) && Nat.ble nb no) with
 | false => rw [hb] at h; exact h.elim
 | true =>
  rw [hb, cond_true] at h
  rw [cond_true]
  exact keepS_mono (fun sl hsl => keepO_mono (fun ob hob => hK _ hob) hsl) h
def mend1 (ob : List (Nat × Ob)) (p : Nat × Ob) : Nat × Ob :=
 match lookO ob p.1 with
 | some (.ro T cs) => (p.1, .ro T cs)
 | _ => p
theorem mendO_eq (ob : List (Nat × Ob)) : ∀ (l : List (Nat × Ob)) (K : List (Nat × Ob) → Prop), mendO ob l K = K (l.map (mend1 ob))
 | [], K => rfl
 | (i, x) :: r, K => by
  rw [mendO]
  split
  ·rename_i T cs h
   rw [mendO_eq ob r, List.map_cons, mend1]
   simp only [h]
  ·rename_i h
   rw [mendO_eq ob r, List.map_cons, mend1]
   split
   ·rename_i T cs h'
    exact absurd h' (h T cs)
   ·rfl
theorem lookO_mend (ob : List (Nat × Ob)) (i : Nat) : ∀ (l : List (Nat × Ob)), lookO (l.map (mend1 ob)) i = match lookO l i with
  | some x => (match lookO ob i with | some (.ro T cs) => some (.ro T cs) | _ => some x)
  | none => none
 | [] => rfl
 | (j, x) :: r => by
  rw [List.map_cons]
  have e : (mend1 ob (j, x)).1 = j := by unfold mend1; split <;> rfl
  obtain ⟨y, hy⟩ : ∃ y, mend1 ob (j, x) = (j, y) := ⟨(mend1 ob (j, x)).2, Prod.ext e rfl⟩
  rw [hy, lookO, lookO]
  cases hb : Nat.beq j i with
  | false => exact lookO_mend ob i r
  | true =>
   have := Nat.eq_of_beq_eq_true hb
   subst this
   simp only [cond_true]
   unfold mend1 at hy
   split
   ·rename_i T cs h
    simp only [h] at hy
    cases hy; rfl
   ·rename_i h
    split at hy
    ·rename_i T cs h'; exact absurd h' (h T cs)
    ·cases hy; rfl
section
variable {tb : TB} {P : Program}
theorem range_back {Z : Frame0} {ρ : List Nat} {fx : List Nat} {post : List (Nat × Ob)} {g0 : Nat → A} {w w1 : World} {I : Nat → Prop} {pre : List Ob} {E : Env} {lent : Nat → Prop}
  (m : Mod tb Z.X g0 Z.o Z.a w Z.G I) (hfx : ∀ i, i < Z.X.nb → Z.X.G0 i ≠ none → i ∈ fx) (hnb : Z.X.nb ≤ Z.n0) (hnd : Z.X.nd = false)
  (hnod : nodupB ρ = true) (hρ : ∀ j ∈ ρ, j < Z.n0 - 1) (hn0 : 1 ≤ Z.n0) (hnb' : Z.X.nb ≤ Z.n0 - 1)
  (hpre : pre = ρ.map fun j => invO ((Z.n0 - 1) :: ρ) (Z.o j)) (hsure : ∀ x ∈ pre, x.sure = true ∧ x.arrB = false)
  (hos : ∀ i ∈ Z.os, i < Z.n0 - 1) (hfo : ∀ i ∈ fx, i ∈ Z.os ∨ i ∈ ρ)
  (hpost : ∀ p ∈ post, 0 < p.1 ∧ p.1 < ρ.length + 1 ∧ p.2.envB = false) (hcov : ∀ i, i < ρ.length → (lookO post (i + 1)).isSome = true)
  (hw1 : ∀ q, q < w.heap.size → w1.heap[q]? = w.heap[q]?) (hw1s : w.heap.size ≤ w1.heap.size) (hw1o : w1.os = w.os) (hw1t : w1.tape = w.tape) (hw1u : w1.output = w.output) (hl : w.heap.size ≤ Z.l)
  (hlent : ∀ b, lent b → w.heap.size ≤ b ∨ Z.X.lent b ∨ Z.X.mine b ∨ Z.X.w0.heap.size ≤ b)
  {Gc : Nat → Option GR} (hGc : ∀ i j, ρ[i]? = some j → Gc (i + 1) = Z.G j)
  {kf : Nat} {w' : World} {G' : Nat → Option GR} {I' : Nat → Prop} (mR : Mod tb (Ctx.iter w1 I (.env 0 :: pre) Gc 0 E lent) noG (lookO ((0, .env kf) :: post)) noAct w' G' I')
  {jx : Option Ex} {ob1 : List (Nat × Ob)} {n1 : Nat} {G1 : Nat → Option GR} {F1 Ft : Nat → Prop} (c : ConsAt tb Z jx ob1 n1 G1 F1 Ft I' w')
  (hFt : ∀ j oj gj b, lookO ((0, .env kf) :: post) j = some oj → oj.live = true → G' j = some gj → gj.blk = some b → ¬ Ft b) (hFz : ∀ b, Ft b → b < w'.heap.size)
  {y : Obj} : ∃ G2, Mod tb Z.X (lookA Z.sl) (lookO ((post.map fun p => (outI ((Z.n0 - 1) :: ρ) (Z.n0 - 1) p.1, outO ((Z.n0 - 1) :: ρ) (Z.n0 - 1) p.2)) ++ (Z.n0 - 1, .dead) :: ob1)) { Z.a with defers := markD Z.D :: Z.a.defers } (w'.putObj Z.l y) G2 I' ∧ ∀ i T cs, lookO ob1 i = some (.ro T cs) → ObOK tb G2 I' (w'.putObj Z.l y).heap i (.ro T cs) := by
 obtain ⟨z, hz⟩ : ∃ z, z = Z.n0 - 1 := ⟨_, rfl⟩
 rw [← hz] at hρ hnb' hpre hos ⊢
 obtain ⟨σ, hσ⟩ : ∃ σ, σ = z :: ρ := ⟨_, rfl⟩
 rw [← hσ] at hpre ⊢
 have hnods : nodupB σ = true := by
  rw [hσ, nodupB, Bool.and_eq_true, Bool.not_eq_true']
  refine ⟨?_, hnod⟩
  rw [Bool.eq_false_iff]
  intro h
  obtain ⟨q, hq, e⟩ := List.any_eq_true.1 h
  have e := Nat.eq_of_beq_eq_true e
  subst e
  have := hρ q hq; omega
 have hσ0 : σ[0]? = some z := by rw [hσ]; rfl
 have hσs : ∀ i, σ[i + 1]? = ρ[i]? := fun i => by rw [hσ]; rfl
 have hmem : ∀ i, i ∈ σ ↔ i = z ∨ i ∈ ρ := fun i => by rw [hσ]; simp
 have hO : ∀ i j, σ[i]? = some j → outI σ z i = j := fun i j hj => by simp [outI, hj]
 have hprel : pre.length = ρ.length := by rw [hpre]; simp
 have hbor : ∀ i j, ρ[i]? = some j → G' (i + 1) = Z.G j := fun i j hj => by
  have hi : i < ρ.length := (List.getElem?_eq_some_iff.1 hj).1
  have h1 : i + 1 < (Ctx.iter w1 I (.env 0 :: pre) Gc 0 E lent).nb := by show i + 1 < (Ob.env 0 :: pre).length; simp [hprel]; omega
  have hba : (Ctx.iter w1 I (.env 0 :: pre) Gc 0 E lent).ba (i + 1) = false := by
   show preBa (Ob.env 0 :: pre) (i + 1) = false
   unfold preBa
   split
   ·rename_i T es he
    have he : pre[i]? = some (.arr T es) := by simpa using he
    have := (hsure _ (List.mem_of_getElem? he)).2
    simp [Ob.arrB] at this
   ·rfl
  have := m.os
  rw [mR.bor (i + 1) h1 hba]
  exact hGc i j hj
 have hlook : ∀ k x, lookO ((0, .env kf) :: post) k = some x → k ≠ 0 → lookO post k = some x := fun k x h hk => by
  rw [lookO, beq_ne (Ne.symm hk), cond_false] at h; exact h
 have hlook2 : ∀ k x, lookO post k = some x → 0 < k ∧ k < ρ.length + 1 ∧ x.envB = false ∧ lookO ((0, .env kf) :: post) k = some x := fun k x h => by
  obtain ⟨h1, h2, h3⟩ := hpost _ (lookO_mem h)
  refine ⟨h1, h2, h3, ?_⟩
  have h1 : 0 < k := h1
  rw [lookO, beq_ne (by omega), cond_false]; exact h
 obtain ⟨G2, hG2⟩ : ∃ G2 : Nat → Option GR, G2 = fun i => match idx σ i 0 with | some k => G' k | none => G1 i := ⟨_, rfl⟩
 have hin : ∀ i j, σ[i]? = some j → G2 j = G' i := fun i j hj => by
  rw [hG2]
  have := idx_of 0 hnods hj
  simp only [this, Nat.zero_add]
 have hout : ∀ j, j ∉ σ → G2 j = G1 j := fun j hj => by
  rw [hG2]
  simp only [idx_none 0 hj]
 have hGd : ∀ k gr, G' k = some gr → k < ρ.length + 1 := fun k gr hg => by
  obtain ⟨x, hx⟩ := Option.isSome_iff_exists.1 (mR.dom k gr hg)
  by_cases hk : k = 0
  ·omega
  ·exact (hlook2 k x (hlook k x hx hk)).2.1
 have hGo : ∀ k gr, G' k = some gr → G2 (outI σ z k) = some gr := fun k gr hg => by
  have hk := hGd k gr hg
  have hk' : k < σ.length := by rw [hσ]; simpa using hk
  have hj : σ[k]? = some σ[k] := by simp [hk']
  rw [hO k _ hj, hin k _ hj]; exact hg
 have hold : ∀ i, i < z → (lookO ob1 i).isSome = true → i ∈ Z.os := fun i hi h => c.old i (by omega) h
 have hz1 : lookO ob1 z = none := by
  cases e : lookO ob1 z with
  | none => rfl
  | some x =>
   have := c.old z (by omega) (by rw [e]; rfl)
   have := hos z this; omega
 have hGm : ∀ i gr, G1 i = some gr → G2 i = some gr := by
  intro i gr hg
  by_cases hi : i ∈ σ
  ·rcases (hmem i).1 hi with rfl | hi
   ·have := c.mod.dom _ _ hg
    rw [hz1] at this; cases this
   ·have hio := hold i (hρ i hi) (c.mod.dom i gr hg)
    obtain ⟨q, hq⟩ := List.mem_iff_getElem?.1 hi
    rw [hin (q + 1) i (by rw [hσs]; exact hq), hbor q i hq]
    have ha : arrO Z.o i = false := by
     unfold arrO
     split
     ·rename_i T es he
      have hq2 : pre[q]? = some (invO σ (Z.o i)) := by rw [hpre, List.getElem?_map, hq]; rfl
      have := (hsure _ (List.mem_of_getElem? hq2)).2
      rw [he] at this
      simp [invO, Ob.arrB] at this
     ·rfl
    rw [← ((c.fix i hio).2 ha).2]; exact hg
  ·rw [hout i hi]; exact hg
 obtain ⟨o2, ho2⟩ : ∃ o2, o2 = lookO ((post.map fun p => (outI σ z p.1, outO σ z p.2)) ++ (z, .dead) :: ob1) := ⟨_, rfl⟩
 have hcases : ∀ i x, o2 i = some x → (∃ k ob, lookO post k = some ob ∧ outI σ z k = i ∧ x = outO σ z ob) ∨ (i = z ∧ x = .dead) ∨ (lookO ob1 i = some x ∧ i ∉ σ) := by
  intro i x hx
  rw [ho2, lookO_append] at hx
  cases e : lookO (post.map fun p => (outI σ z p.1, outO σ z p.2)) i with
  | some y => rw [e] at hx; cases hx; exact .inl (lookS_of e)
  | none =>
   rw [e] at hx
   simp only [lookO] at hx
   by_cases hiz : i = z
   ·subst hiz
    simp only [beq_self, cond_true, Option.some.injEq] at hx
    exact .inr (.inl ⟨rfl, hx.symm⟩)
   ·rw [beq_ne (Ne.symm hiz), cond_false] at hx
    refine .inr (.inr ⟨hx, fun hi => ?_⟩)
    rcases (hmem i).1 hi with h | h
    ·exact hiz h
    ·obtain ⟨q, hq⟩ := List.mem_iff_getElem?.1 h
     obtain ⟨zz, hzz⟩ := Option.isSome_iff_exists.1 (hcov q (List.getElem?_eq_some_iff.1 hq).1)
     have h2 := lookI_of (f := outI σ z) (q := outO σ z) hzz
     rw [hO (q + 1) i (by rw [hσs]; exact hq), e] at h2
     cases h2
 have hsome : ∀ i, i ∈ σ ∨ (lookO ob1 i).isSome = true → (o2 i).isSome = true := by
  intro i hi
  rw [ho2, lookO_append]
  cases e : lookO (post.map fun p => (outI σ z p.1, outO σ z p.2)) i with
  | some y => rfl
  | none =>
   simp only [lookO]
   by_cases hiz : i = z
   ·subst hiz; simp
   ·rw [beq_ne (Ne.symm hiz), cond_false]
    rcases hi with hi | hi
    ·rcases (hmem i).1 hi with h | h
     ·exact absurd h hiz
     ·obtain ⟨q, hq⟩ := List.mem_iff_getElem?.1 h
      obtain ⟨zz, hzz⟩ := Option.isSome_iff_exists.1 (hcov q (List.getElem?_eq_some_iff.1 hq).1)
      have h2 := lookI_of (f := outI σ z) (q := outO σ z) hzz
      rw [hO (q + 1) i (by rw [hσs]; exact hq), e] at h2
      cases h2
    ·exact hi
 have houtl : ∀ x, (outO σ z x).live = x.live := fun x => by cases x <;> rfl
 have hlive : ∀ i x gr b, o2 i = some x → x.live = true → G2 i = some gr → gr.blk = some b →
   (∃ k ob, lookO ((0, .env kf) :: post) k = some ob ∧ ob.live = true ∧ G' k = some gr ∧ outI σ z k = i) ∨ (lookO ob1 i = some x ∧ G1 i = some gr) := by
  intro i x gr b h1 h2 h3 h4
  rcases hcases i x h1 with ⟨k, ob, r1, r2, r3⟩ | ⟨_, r⟩ | ⟨r1, r2⟩
  ·have hl' : ob.live = true := by rw [r3, houtl] at h2; exact h2
   obtain ⟨q1, q2, q3, q4⟩ := hlook2 k ob r1
   obtain ⟨gr', hg', _⟩ := ObOK.rec (mR.objs k ob q4) hl'
   have := hGo k gr' hg'
   rw [r2, h3] at this; cases this
   exact .inl ⟨k, ob, q4, hl', hg', r2⟩
  ·subst r; simp [Ob.live] at h2
  ·rw [hout i r2] at h3; exact .inr ⟨r1, h3⟩
 obtain ⟨j, F2, ⟨dl, F3, e1, e2, e3, e4, e5⟩, f2, f3, f4⟩ := c.mod.env
 have hdl : dl = [] := by cases dl <;> simp at e1 ⊢
 subst hdl
 have e4' : ∀ b, F2 b ↔ F3 b := fun b => by rw [e4 b]; simp
 obtain ⟨F4, s1, s2, s3, s4, s5⟩ := e5
 have hF3 : ∀ b, F3 b → F1 b := fun b hb => by
  obtain ⟨p1, p2⟩ := f2 b ((e4' b).2 hb)
  rcases p2 with p2 | p2
  ·exact p2
  ·exact absurd p1 (Nat.not_lt.2 p2)
 have hF3t : ∀ b, F3 b → Ft b := fun b hb => (c.ft b).2 (.inl (hF3 b hb))
 have hFl : F3 Z.l := (s5 _).2 (.inr rfl)
 have hoth : ∀ k, k ≠ Z.l → (w'.putObj Z.l y).heap[k]? = w'.heap[k]? := fun k hk => World.putObj_heap_other hk
 have hsz : (w'.putObj Z.l y).heap.size = w'.heap.size := World.putObj_size
 have hI4 : ∀ b, I' b → (w'.putObj Z.l y).heap[b]? = w'.heap[b]? := fun b hb => hoth b fun e => s3 (e ▸ hb)
 have hlb : ∀ i x gr b, o2 i = some x → x.live = true → G2 i = some gr → gr.blk = some b → b ≠ Z.l := by
  intro i x gr b h1 h2 h3 h4 e
  subst e
  rcases hlive i x gr _ h1 h2 h3 h4 with ⟨k, ob, r1, r2, r3, r4⟩ | ⟨r1, r2⟩
  ·exact hFt k ob gr _ r1 r2 r3 h4 (hF3t _ hFl)
  ·exact f3 i x gr _ r1 h2 r2 h4 ((e4' _).2 hFl)
 have hw1' : w1.heap.size ≤ w'.heap.size := mR.wsz
 have hwz : w.heap.size ≤ w'.heap.size := Nat.le_trans hw1s hw1'
 have hX : Z.X.w0.heap.size ≤ w.heap.size := m.wsz
 have hmine : ∀ b, (Ctx.iter w1 I (.env 0 :: pre) Gc 0 E lent).mine b → I b ∨ Z.X.w0.heap.size ≤ b ∨ Z.X.mine b := by
  rintro b ⟨k, gr, hk, hg, hb⟩
  have hk : k < (Ob.env 0 :: pre).length := hk
  cases k with
  | zero =>
   obtain ⟨_, _, _, _, _, f40⟩ := mR.env
   have hb0 := mR.bor 0 (by show 0 < (Ob.env 0 :: pre).length; simp) rfl
   have := (f40 0 kf (by simp [lookO])).2.2
   have hg0 : (Ctx.iter w1 I (.env 0 :: pre) Gc 0 E lent).G0 0 = some gr := hg
   rw [← hb0, this] at hg0
   cases hg0; cases hb
  | succ k =>
   have hkl : k < ρ.length := by simpa [hprel] using hk
   have hj : ρ[k]? = some ρ[k] := by simp [hkl]
   have hg : Gc (k + 1) = some gr := hg
   rw [hGc k _ hj] at hg
   have hp : pre[k]? = some (invO σ (Z.o ρ[k])) := by rw [hpre]; simp [hkl]
   have hsu := (hsure _ (List.mem_of_getElem? hp)).1
   cases e : Z.o ρ[k] with
   | none => rw [e] at hsu; simp [invO, Ob.sure] at hsu
   | some x =>
    cases x with
    | ro T cs =>
     obtain ⟨b', cc, r1, r0, _⟩ := m.objs _ _ e
     rw [hg] at r1; cases r1; cases hb; exact .inl r0
    | var b' T cs => exact .inr (m.own _ _ gr b e rfl hg hb).2.2
    | map b' T cs => exact .inr (m.own _ _ gr b e rfl hg hb).2.2
    | arr T es => exact .inr (m.own _ _ gr b e rfl hg hb).2.2
    | env k => rw [e] at hsu; simp [invO, Ob.sure] at hsu
    | dead => rw [e] at hsu; simp [invO, Ob.sure] at hsu
    | arw T cs => exact .inr (m.own _ _ gr b e rfl hg hb).2.2
    | iter m' q' seen' => rw [e] at hsu; simp only [invO] at hsu; split at hsu <;> simp [Ob.sure] at hsu
    | pan v => rw [e] at hsu; simp [invO, Ob.sure] at hsu
 rw [← ho2]
 refine ⟨G2, ?_, fun i T cs hi => ObOK.mono hGm (fun _ h => h) hI4 (fun h2 => by simp [Ob.live] at h2) (c.mod.objs i _ hi)⟩
 refine ⟨m.tsize, fun t => ?_, fun i x hx => ?_, fun i gr hg => ?_, ?_, ?_, fun i hi hba => ?_, by rw [hsz]; exact mR.isz, fun b hb => mR.i0 b (m.i0 b hb), fun b hb => ?_, fun b hb hor => ?_, ?_, ?_, ?_, ?_, fun i T es hi hba hx => ?_, ?_, fun h => ?_⟩
 ·exact RepA.mono hGm (fun _ h => h) hI4 _ _ (c.mod.slots t)
 ·rcases hcases i x hx with ⟨k, ob, r1, r2, r3⟩ | ⟨_, r⟩ | ⟨r1, r2⟩
  ·subst r3; subst r2
   obtain ⟨q1, q2, q3, q4⟩ := hlook2 k ob r1
   have h0 := mR.objs k ob q4
   refine ObOK.mono (fun _ _ h => h) (fun _ h => h) hI4 (fun h2 gr b h3 h4 => hoth b (hlb _ _ gr b hx h2 h3 h4)) (ObOK.out hGo h0)
  ·subst r; trivial
  ·exact ObOK.mono hGm (fun _ h => h) hI4 (fun h2 gr b h3 h4 => hoth b (hlb _ _ gr b hx h2 (hGm _ _ h3) h4)) (c.mod.objs i x r1)
 ·by_cases hi : i ∈ σ
  ·exact hsome i (.inl hi)
  ·rw [hout i hi] at hg; exact hsome i (.inr (c.mod.dom i gr hg))
 ·intro i k xi xk gi gk b h1 h2 h3 h4 h5 h6 h7 h8
  rcases hlive i xi gi b h1 h3 h5 h7 with ⟨p, ob, p1, p2, p3, p4⟩ | ⟨p1, p2⟩
  ·rcases hlive k xk gk b h2 h4 h6 h8 with ⟨q, ob', q1, q2, q3, q4⟩ | ⟨q1, q2⟩
   ·rw [← p4, ← q4, mR.sep p q ob ob' gi gk b p1 q1 p2 q2 p3 q3 h7 h8]
   ·exact absurd ((c.ft b).2 (.inr ⟨k, xk, gk, q1, h4, q2, h8⟩)) (hFt p ob gi b p1 p2 p3 h7)
  ·rcases hlive k xk gk b h2 h4 h6 h8 with ⟨q, ob', q1, q2, q3, q4⟩ | ⟨q1, q2⟩
   ·exact absurd ((c.ft b).2 (.inr ⟨i, xi, gi, p1, h3, p2, h7⟩)) (hFt q ob' gk b q1 q2 q3 h8)
   ·exact c.mod.sep i k xi xk gi gk b p1 q1 h3 h4 p2 q2 h7 h8
 ·intro i x gr b h1 h2 h3 h4
  rw [hsz]
  rcases hlive i x gr b h1 h2 h3 h4 with ⟨k, ob, p1, p2, p3, p4⟩ | ⟨p1, p2⟩
  ·obtain ⟨r1, r2, r3⟩ := mR.own k ob gr b p1 p2 p3 h4
   refine ⟨r1, r2, ?_⟩
   rcases r3 with r3 | r3
   ·have r3 : w1.heap.size ≤ b := r3
    exact .inl (by omega)
   ·rcases hmine b r3 with h | h
    ·exact absurd (mR.i0 b h) r1
    ·exact h
  ·obtain ⟨r1, r2, _⟩ := c.mod.own i x gr b p1 h2 p2 h4
   exact ⟨r1, r2, c.own3 b ⟨i, x, gr, p1, h2, p2, h4⟩⟩
 ·have hb := m.bor i hi hba
  by_cases hiσ : i ∈ σ
  ·rcases (hmem i).1 hiσ with h | h
   ·omega
   ·obtain ⟨q, hq⟩ := List.mem_iff_getElem?.1 h
    rw [hin (q + 1) i (by rw [hσs]; exact hq), hbor q i hq]; exact hb
  ·rw [hout i hiσ]
   by_cases hio : i ∈ Z.os
   ·have ha : arrO Z.o i = false := by
     cases e : arrO Z.o i with
     | false => rfl
     | true =>
      unfold arrO at e
      split at e
      ·rename_i T es he; exact absurd he (m.barr i T es hi hba)
      ·cases e
    rw [((c.fix i hio).2 ha).2]; exact hb
   ·have hg1 : G1 i = none := by
     cases e : G1 i with
     | none => rfl
     | some gr => exact absurd (hold i (by omega) (c.mod.dom i gr e)) hio
    rw [hg1]
    by_cases hg : Z.X.G0 i = none
    ·exact hg.symm
    ·rcases hfo i (hfx i hi hg) with h | h
     ·exact absurd h hio
     ·exact absurd ((hmem i).2 (.inr h)) hiσ
 ·rcases mR.inew b hb with h | h | h | h
  ·exact m.inew b h
  ·rcases hlent b h with h | h | h | h
   ·exact .inr (.inr (.inr (Nat.le_trans hX h)))
   ·exact .inr (.inl h)
   ·exact .inr (.inr (.inl h))
   ·exact .inr (.inr (.inr h))
  ·rcases hmine b h with h | h | h
   ·exact m.inew b h
   ·exact .inr (.inr (.inr h))
   ·exact .inr (.inr (.inl h))
  ·have h : w1.heap.size ≤ b := h
   exact .inr (.inr (.inr (by omega)))
 ·rw [hoth b (by omega)]
  have h1 : w'.heap[b]? = w1.heap[b]? := by
   refine mR.frame b (by show b < w1.heap.size; omega) ?_
   by_cases hI : I b
   ·exact .inl hI
   ·refine .inr ⟨fun h => ?_, fun h => ?_⟩
    ·rcases hor with h2 | ⟨h2, h3⟩
     ·exact hI (m.i0 b h2)
     ·rcases hlent b h with h | h | h | h
      ·omega
      ·exact h2 h
      ·exact h3 h
      ·omega
    ·rcases hor with h2 | ⟨h2, h3⟩
     ·exact hI (m.i0 b h2)
     ·rcases hmine b h with h | h | h
      ·exact hI h
      ·omega
      ·exact h3 h
  rw [h1, hw1 b (by omega)]
  exact m.frame b hb hor
 ·have e1 : (w'.putObj Z.l y).os = w'.os := rfl
  have e2 : w'.os = w1.os := mR.os
  rw [e1, e2, hw1o]; exact m.os
 ·have e1 : (w'.putObj Z.l y).tape = w'.tape := rfl
  have e2 : w'.tape = w1.tape := mR.tape
  rw [e1, e2, hw1t]; exact m.tape
 ·have e1 : (w'.putObj Z.l y).output = w'.output := rfl
  have e2 : w'.output = w1.output := mR.output
  rw [e1, e2, hw1u]; exact m.output
 ·rw [hsz]; exact Nat.le_trans hX hwz
 ·rcases hcases i _ hx with ⟨k, ob, r1, r2, r3⟩ | ⟨_, r⟩ | ⟨r1, r2⟩
  ·have hob : ob = .arr T es := by cases ob <;> simp [outO] at r3 <;> simp [r3]
   subst hob
   obtain ⟨q1, q2, q3, q4⟩ := hlook2 k _ r1
   have hk1 : k < (Ctx.iter w1 I (.env 0 :: pre) Gc 0 E lent).nb := by show k < (Ob.env 0 :: pre).length; simp [hprel]; omega
   have hba' : (Ctx.iter w1 I (.env 0 :: pre) Gc 0 E lent).ba k = false := by
    show preBa (Ob.env 0 :: pre) k = false
    unfold preBa
    split
    ·rename_i T es he
     cases k with
     | zero => omega
     | succ k =>
      have he : pre[k]? = some (.arr T es) := by simpa using he
      have := (hsure _ (List.mem_of_getElem? he)).2
      simp [Ob.arrB] at this
    ·rfl
   exact mR.barr k T es hk1 hba' q4
  ·cases r
  ·by_cases hio : i ∈ Z.os
   ·have ha : arrO Z.o i = false := by
     cases e : arrO Z.o i with
     | false => rfl
     | true =>
      unfold arrO at e
      split at e
      ·rename_i T es he; exact absurd he (m.barr i T es hi hba)
      ·cases e
    exact arrO_false ((c.fix i hio).2 ha).1 T es r1
   ·exact hio (hold i (by omega) (by rw [r1]; rfl))
 ·have hF4 : ∀ b, F4 b → F3 b := fun b hb => (s5 b).2 (.inl hb)
  refine ⟨j, F4, s1.st (fun b hb _ => hoth b fun e => s4 (e ▸ hb)) hI4 (fun _ h => h) (fun _ _ h => h) (by rw [hsz]; exact mR.isz) rfl rfl rfl (by rw [hsz]; exact Nat.le_refl _), fun b hb => ⟨?_, c.held b (hF3 b (hF4 b hb))⟩, fun i x gr b h1 h2 h3 h4 hf => ?_, fun i k' hx => ?_⟩
  ·rw [hsz]; exact hFz b (hF3t b (hF4 b hb))
  ·rcases hlive i x gr b h1 h2 h3 h4 with ⟨k, ob, p1, p2, p3, p4⟩ | ⟨p1, p2⟩
   ·exact hFt k ob gr b p1 p2 p3 h4 (hF3t b (hF4 b hf))
   ·exact f3 i x gr b p1 h2 p2 h4 ((e4' b).2 (hF4 b hf))
  ·rcases hcases i _ hx with ⟨k, ob, r1, r2, r3⟩ | ⟨_, r⟩ | ⟨r1, r2⟩
   ·have hob : ob = .env k' := by cases ob <;> simp [outO] at r3 <;> simp [r3]
    subst hob
    have := (hlook2 k _ r1).2.2.1
    simp [Ob.envB] at this
   ·cases r
   ·obtain ⟨h1, h2, h3⟩ := f4 i k' r1
    exact ⟨h1, h2, hGm _ _ h3⟩
 ·rw [hnd] at h; cases h
end
end Go.Ev


namespace Go.Ev
open RowKit
section
variable {tb : TB} {X : Ctx} {P : Program} {Wn : Nat} {Y : Nat → List D → Bool → Prop} {F : Fence} {n : Nat}
theorem any_look {i : Nat} : ∀ {post : List (Nat × Ob)}, (post.any fun p => Nat.beq p.1 i) = true → (lookO post i).isSome = true
 | [], h => by simp at h
 | (k, x) :: post, h => by
  rw [lookO]
  cases e : Nat.beq k i with
  | true => rfl
  | false => rw [List.any_cons, e, Bool.false_or] at h; exact any_look h
def Snd (tb : TB) (P : Program) (Wn : Nat) (Y : Nat → List D → Bool → Prop) (c : Code) : Prop :=
 ∀ (X : Ctx) (F : Fence) (n : Nat) (fx : List Nat) (nb : Nat) (Q : Exit → Act → World → Prop) (s : St) (K : Ex → St → Prop) (a : Act) (w : World) (G : Nat → Option GR) (I : Nat → Prop), Wide F → EnvOK P X.E Y → (∀ i, i < X.nb → X.G0 i ≠ none → i ∈ fx) → X.nb ≤ nb → codeB X.nt c = true → s.ok → nb ≤ s.n → Mod tb X s.get s.obj a w G I →
  ev tb (Con P tb Wn Y) nb fx false c s K → (∀ e a' w' s' G' I', Mod tb X s'.get s'.obj a' w' G' I' → s'.ok → nb ≤ s'.n → K e s' → Q e.to a' w') → c.wpIn F n P Q a w
theorem getFn_rep {g : Nat → A} {o : Nat → Option Ob} {a : Act} {w : World} {G : Nat → Option GR} {I : Nat → Prop} (m : Mod tb X g o a w G I) {f : Operand} {fid : FuncId} {first caps : List A} (hfn : getFn (opA g f) = some (fid, first, caps)) :
  ∃ x y, a.eval f = .func (.func fid) x y ∧ RepAL G I w.heap first x.toList ∧ RepAL G I w.heap caps y.toList := by
 have rf := m.eval f
 unfold getFn at hfn
 split at hfn
 ·rename_i f' p q hx
  simp only [Option.some.injEq, Prod.mk.injEq] at hfn
  obtain ⟨rfl, rfl, rfl⟩ := hfn
  rw [hx, RepA, RepD] at rf
  obtain ⟨x, y, h1, h2, h3⟩ := rf
  exact ⟨x, y, h1, RepAL.of_d.2 h2, RepAL.of_d.2 h3⟩
 ·rename_i f' p q hx
  simp only [Option.some.injEq, Prod.mk.injEq] at hfn
  obtain ⟨rfl, rfl, rfl⟩ := hfn
  rw [hx, RepA] at rf
  obtain ⟨x, y, h1, h2, h3⟩ := rf
  exact ⟨x, y, h1, h2, h3⟩
 ·cases hfn
set_option maxHeartbeats 800000 in
theorem range_case (hP : PG P tb) (hF : Wide F) (hro : F.round = none) (hnd : X.nd = false) (hE : EnvOK P X.E Y) {fx : List Nat} (hfx : ∀ i, i < X.nb → X.G0 i ≠ none → i ∈ fx) {nb : Nat} (hnb : X.nb ≤ nb) {Q : Exit → Act → World → Prop} {s : St} {K : Ex → St → Prop} {a : Act} {w : World} {G : Nat → Option GR} {I : Nat → Prop}
  (ok : s.ok) (hn : nb ≤ s.n) (m : Mod tb X s.get s.obj a w G I) {f : Operand} {ps : Array Nat} {x y : Code} {fid : FuncId} {first caps : List A} (hfn : getFn (opA s.get f) = some (fid, first, caps)) {ρ ks os : List Nat} {elems : List (List D)} {t : Nat} {post : List (Nat × Ob)} {J : Nat → List (Nat × Ob) → Nat → Prop} {pre : List Ob}
  (hit : Iter tb P fid (invAL (s.n :: ρ) (first ++ .own s.n :: caps)) pre elems t post) (hpre : pre = ρ.map fun j => invO (s.n :: ρ) (s.obj j))
  (b1 : nodupB ρ = true) (b2 : ∀ j ∈ ρ, j < s.n) (b3 : ∀ x ∈ pre, x.sure = true ∧ x.arrB = false) (b4 : ∀ i ∈ os, i < s.n)
  (b6 : ∀ i ∈ fx, (os.any fun j => Nat.beq j i) = true ∨ (ρ.any fun j => Nat.beq j i) = true) (b7 : ∀ p ∈ post, (0 < p.1 ∧ p.1 < ρ.length + 1) ∧ p.2.envB = false) (b8 : ∀ i, i < ρ.length → (post.any fun p => Nat.beq p.1 (i + 1)) = true)
  (hb : codeB X.nt (.rangeFunc f ps x y) = true)
  (h : keepS os s ks fun sl => keepO os (lentS ρ s) os fun ob => bif fixSl s.obj sl then
      J 0 ob (s.n + 1) ∧
      (∀ k ds ob1 n1, elems[k]? = some ds → k ≤ t → J k ob1 n1 → ds.length = ps.size ∧
       ev tb (Con P tb Wn Y) n1 (ob1.map (·.1)) false x ⟨zipS ps.toList ds sl, ob1, n1⟩ fun e s1 => match e with
        | .nrm => ev tb (Con P tb Wn Y) n1 (ob1.map (·.1)) false y s1 fun e s' => ∃ (os2 : List Nat) (no : Nat), os2.all (fun i => (ob1.any fun p => Nat.beq p.1 i) || Nat.ble n1 i) = true ∧ keep n1 (ob1.map (·.1)) [] os2 no s' fun s2 => match e with
         | .nrm => k < t ∧ J (k + 1) s2.ob s2.n
         | .pan _ => False
         | e => k = t ∧ backO ρ s.n post s2.ob fun ob2 => K e ⟨sl, ob2, s2.n⟩
        | _ => False) ∧
      (∀ ob1 n1, elems.length ≤ t → J elems.length ob1 n1 → backO ρ s.n post ob1 fun ob2 => K .nrm ⟨sl, ob2, n1⟩)
     else False)
  (ihx : Snd tb P Wn Y x) (ihy : Snd tb P Wn Y y)
  (hQ : ∀ e a' w' s' G' I', Mod tb X s'.get s'.obj a' w' G' I' → s'.ok → nb ≤ s'.n → K e s' → Q e.to a' w') : (Code.rangeFunc f ps x y).wpIn F n P Q a w := by
 simp only [codeB, Bool.and_eq_true, List.all_eq_true, Nat.blt_eq] at hb
 obtain ⟨⟨hbx, hby⟩, hbp⟩ := hb
 obtain ⟨xv, yv, hfv, hfr, hcr⟩ := getFn_rep m hfn
 obtain ⟨X0, hX0⟩ : ∃ X0 : Ctx, X0 = { X with nb := 0 } := ⟨_, rfl⟩
 have m0 : Mod tb X0 (lentS ρ s).get (lentS ρ s).obj a w G I := by
  subst hX0
  have m := m.lentS ρ
  exact { m with bor := fun i hi => absurd hi (Nat.not_lt_zero _), barr := fun i _ _ hi => absurd hi (Nat.not_lt_zero _) }
 have hkeep : keep 0 [] ks os s.n (lentS ρ s) fun s' => s'.n = s.n ∧ bif fixSl s.obj s'.sl then
      J 0 s'.ob (s.n + 1) ∧
      (∀ k ds ob1 n1, elems[k]? = some ds → k ≤ t → J k ob1 n1 → ds.length = ps.size ∧
       ev tb (Con P tb Wn Y) n1 (ob1.map (·.1)) false x ⟨zipS ps.toList ds s'.sl, ob1, n1⟩ fun e s1 => match e with
        | .nrm => ev tb (Con P tb Wn Y) n1 (ob1.map (·.1)) false y s1 fun e s2' => ∃ (os2 : List Nat) (no : Nat), os2.all (fun i => (ob1.any fun p => Nat.beq p.1 i) || Nat.ble n1 i) = true ∧ keep n1 (ob1.map (·.1)) [] os2 no s2' fun s2 => match e with
         | .nrm => k < t ∧ J (k + 1) s2.ob s2.n
         | .pan _ => False
         | e => k = t ∧ backO ρ s.n post s2.ob fun ob2 => K e ⟨s'.sl, ob2, s2.n⟩
        | _ => False) ∧
      (∀ ob1 n1, elems.length ≤ t → J elems.length ob1 n1 → backO ρ s.n post ob1 fun ob2 => K .nrm ⟨s'.sl, ob2, n1⟩)
     else False := by
  unfold keep
  have : ((([] : List Nat).all fun i => os.any fun j => Nat.beq j i) && os.all (fun i => Nat.blt i s.n) && Nat.ble 0 s.n) = true := by
   simp only [List.all_nil, Bool.true_and, Bool.and_eq_true, List.all_eq_true, Nat.blt_eq, Nat.ble_eq, Nat.zero_le, and_true]
   exact b4
  rw [this, cond_true, keepS_lent]
  exact keepS_mono (fun sl hsl => keepO_mono (fun ob hob => ⟨rfl, hob⟩) hsl) h
 obtain ⟨s', ⟨hsn, hs'⟩, ok', _, _, _, k3', k4, k5, G1, mk, hG1⟩ := keep_sound (by subst hX0; exact fun i hi => absurd hi (Nat.not_lt_zero _)) m0 hkeep
 have k3 : ∀ i x, s'.obj i = some x → ((s.obj i = some x ∧ (i ∈ ρ → ∃ T cs, x = .ro T cs)) ∨ (x = .dead ∧ i ∈ ρ)) ∧ i ∈ os := fun i x h => ⟨lentS_obj (k3' i x h).1, (k3' i x h).2⟩
 have hG1' : ∀ i, i ∈ os → G1 i = G i := fun i hi => hG1 i (List.any_eq_true.2 ⟨i, hi, by simp⟩)
 obtain ⟨sl, ob, n'⟩ := s'
 have hsn : n' = s.n := hsn
 subst hsn
 cases hfs : fixSl s.obj sl with
 | false => simp only [hfs] at hs'; exact hs'.elim
 | true =>
  simp only [hfs, cond_true] at hs'
  obtain ⟨h0, hrounds, hend⟩ := hs'
  have hany : ∀ (l : List Nat) (i : Nat), (l.any fun j => Nat.beq j i) = true ↔ i ∈ l := fun l i => by
   rw [List.any_eq_true]
   constructor
   ·rintro ⟨j, hj, e⟩; rw [← Nat.eq_of_beq_eq_true e]; exact hj
   ·intro hi; exact ⟨i, hi, by simp⟩
  refine wpIn_rangeFunc ?_
  intro fn hfn'
  rw [hro]
  obtain ⟨Z, hZ⟩ : ∃ Z : Frame0, Z = ⟨X, G, s.obj, os, sl, a, w.heap.size, w.heap.size + 1, s.n + 1, fun st pe => { state := st, pending := pe, fn := fn, tmps := a.tmps, params := ps, assign := x, body := y, defers := w.heap.size }⟩ := ⟨_, rfl⟩
  obtain ⟨R, hR⟩ : ∃ R : Nat → List (Nat × Ob) → Nat → Option Ex → Prop, R = fun k ob n jx => match jx with
   | none => k ≤ t ∧ J k ob n
   | some e => k = t + 1 ∧ (e ≠ .nrm ∧ ∀ v, e ≠ .pan v) ∧ backO ρ s.n post ob fun ob2 => K e ⟨sl, ob2, n⟩ := ⟨_, rfl⟩
  obtain ⟨w1, hw1⟩ : ∃ w1, w1 = (w.alloc (.deferred (some []))).alloc (Z.obj none) := ⟨_, rfl⟩
  have hw1s : w1.heap.size = w.heap.size + 2 := by rw [hw1]; simp
  have hw1k : ∀ q, q < w.heap.size → w1.heap[q]? = w.heap[q]? := fun q hq => by
   rw [hw1]
   have e1 : ((w.alloc (.deferred (some []))).alloc (Z.obj none)).heap[q]? = (w.alloc (.deferred (some []))).heap[q]? := Below.heap_alloc _ _ _ (by simp; omega)
   rw [e1]; exact Below.heap_alloc _ _ _ hq
  have hD : w1.heap[w.heap.size]? = some (.deferred (some [])) := by
   rw [hw1]
   have e1 : ((w.alloc (.deferred (some []))).alloc (Z.obj none)).heap[w.heap.size]? = (w.alloc (.deferred (some []))).heap[w.heap.size]? := Below.heap_alloc _ _ _ (by simp)
   rw [e1]; exact World.alloc_heap_new w _
  have hL : w1.heap[w.heap.size + 1]? = some (Z.obj none) := by
   rw [hw1]
   have := World.alloc_heap_new (w.alloc (.deferred (some []))) (Z.obj none)
   rwa [World.size_alloc] at this
  have hI1 : ∀ q, I q → w1.heap[q]? = w.heap[q]? := fun q hq => hw1k q (m.isz q hq)
  have hZ1 : Z.X = X := by rw [hZ]
  have hZ2 : Z.G = G := by rw [hZ]
  have hZ3 : Z.o = s.obj := by rw [hZ]
  have hZ4 : Z.os = os := by rw [hZ]
  have hZ5 : Z.sl = sl := by rw [hZ]
  have hZ6 : Z.a = a := by rw [hZ]
  have hZ7 : Z.D = w.heap.size := by rw [hZ]
  have hZ8 : Z.l = w.heap.size + 1 := by rw [hZ]
  have hZ9 : Z.n0 = s.n + 1 := by rw [hZ]
  have hZr : ∀ st pe, Z.lr st pe = { state := st, pending := pe, fn := fn, tmps := Z.a.tmps, params := ps, assign := x, body := y, defers := Z.D } := fun st pe => by rw [hZ]
  obtain ⟨j, F2, ⟨dl, F3, e1, e2, e3, e4, e5⟩, f2, f3, f4⟩ := m.env
  have hF2z : ∀ q, F2 q → q < w.heap.size := fun q hq => (f2 q hq).1
  obtain ⟨H0, hH0⟩ : ∃ H0 : Nat → Prop, H0 = fun q => (F2 q ∨ q = w.heap.size) ∨ q = w.heap.size + 1 := ⟨_, rfl⟩
  have hM : MarksP X.w0.heap.size X.E (markD w.heap.size :: a.defers) j (fun q => F2 q ∨ q = w.heap.size) I w1 := by
   have e5' := X.E.st j F3 I I w w1 e5 (fun q hq _ => hw1k q (hF2z q ((e4 q).2 (.inl hq)))) hI1 (fun _ h => h) (fun _ _ h => h) (fun q hq => by have := m.isz q hq; omega) (by rw [hw1]; rfl) (by rw [hw1]; rfl) (by rw [hw1]; rfl) (by omega)
   refine ⟨w.heap.size :: dl, F3, by rw [e1]; rfl, ?_, fun r hr => ?_, fun q => ?_, e5'⟩
   ·rw [List.nodup_cons]
    refine ⟨fun h => ?_, e2⟩
    have := hF2z _ ((e4 _).2 (.inr h)); omega
   ·rcases List.mem_cons.1 hr with rfl | hr
    ·exact ⟨hD, fun h => by have := m.isz _ h; omega, m.wsz, fun h => by have := hF2z _ ((e4 _).2 (.inl h)); omega⟩
    ·obtain ⟨q1, q2, q3, q4⟩ := e3 r hr
     exact ⟨by rw [hw1k r (hF2z r ((e4 r).2 (.inr hr)))]; exact q1, q2, q3, q4⟩
   ·show (F2 q ∨ q = w.heap.size) ↔ _
    rw [e4 q, List.mem_cons]
    constructor
    ·rintro ((h | h) | h)
     ·exact .inl h
     ·exact .inr (.inr h)
     ·exact .inr (.inl h)
    ·rintro (h | h | h)
     ·exact .inl (.inl h)
     ·exact .inr h
     ·exact .inl (.inr h)
  have hHold : (Z.env none).P j H0 I w1 := by
   refine ⟨fun q => F2 q ∨ q = w.heap.size, by rw [hZ1, hZ7, hZ6]; exact hM, by rw [hZ8]; exact hL, fun h => ?_, fun h => ?_, fun q => by rw [hH0, hZ8]⟩
   ·rw [hZ8] at h; have := m.isz _ h; omega
   ·rw [hZ8] at h
    rcases h with h | h
    ·have := hF2z _ h; omega
    ·omega
  have hliveK : ∀ i oi gi q, lookO ob i = some oi → oi.live = true → G1 i = some gi → gi.blk = some q → ¬ I q ∧ q < w.heap.size ∧ (X.w0.heap.size ≤ q ∨ X.mine q) ∧ ¬ F2 q := by
   intro i oi gi q h1 h2 h3 h4
   obtain ⟨h5, h6⟩ := k3 i oi h1
   have h5 : s.obj i = some oi := by
    rcases h5 with h | h
    ·exact h.1
    ·rw [h.1] at h2; simp [Ob.live] at h2
   rw [hG1' i h6] at h3
   obtain ⟨p1, p2, p3⟩ := m.own i oi gi q h5 h2 h3 h4
   exact ⟨p1, p2, p3, f3 i oi gi q h5 h2 h3 h4⟩
  have hliveH : ∀ q, q < w.heap.size → ¬ F2 q → ¬ H0 q := fun q p1 p2 h => by
   rw [hH0] at h
   rcases h with (h | h) | h
   ·exact p2 h
   ·omega
   ·omega
  have hcons : ConsAt tb Z none ob (s.n + 1) G1 H0 (fun q => H0 q ∨ liveB (lookO ob) G1 q) I w1 := by
   refine ⟨?_, fun i hi => ok' i (by show s.n ≤ i; omega), fun i hi => ?_, fun q hq => ?_, fun q hq => ?_, fun q => Iff.rfl, ?_, fun i hi hsome => ?_, by rw [hZ9]; exact Nat.le_refl _⟩
   ·refine mk.reself (X' := Z.X.round (Z.env none) w1 I (s.n + 1) (lookO ob) G1 H0 (liveB (lookO ob) G1)) (by rw [hZ6]; show a.tmps.size = Z.X.nt; rw [hZ1]; exact m.tsize) rfl rfl (fun _ _ _ => rfl) (fun i T es _ h => arrO_false h T es) (fun i oi gi q h1 h2 h3 h4 => ⟨i, oi, gi, h1, h2, h3, h4⟩) hI1 (fun _ h => h) (fun q hq => by have := m.isz q hq; omega) (by omega)
     (fun i oi gi q h1 h2 h3 h4 => ⟨(hliveK i oi gi q h1 h2 h3 h4).1, hw1k q (hliveK i oi gi q h1 h2 h3 h4).2.1⟩) (fun t => ?_) rfl ⟨j, H0, hHold, fun q hq => ⟨?_, .inl hq⟩, fun i oi gi q h1 h2 h3 h4 => hliveH q (hliveK i oi gi q h1 h2 h3 h4).2.1 (hliveK i oi gi q h1 h2 h3 h4).2.2.2, fun i k' hi => ?_⟩
    ·rw [hZ5, hZ6]
     exact RepA.mono (fun _ _ h => h) (fun _ h => h) hI1 _ _ (mk.slots t)
    ·rw [hH0] at hq
     rcases hq with (hq | hq) | hq
     ·have := hF2z q hq; omega
     ·omega
     ·omega
    ·obtain ⟨h1, h2⟩ := k3 i _ hi
     have h1 : s.obj i = some (.env k') := by
      rcases h1 with h | h
      ·exact h.1
      ·cases h.1
     obtain ⟨q1, q2, q3⟩ := f4 i k' h1
     subst q1
     refine ⟨rfl, q2, ?_⟩
     rw [hG1' 0 h2, q3]
     show some _ = some (GR.mk (Z.env none).v none)
     simp only [Frame0.env, holdE, hZ1]
   ·rw [hZ4] at hi
    refine ⟨k4 i hi, fun ha => ⟨?_, by rw [hZ2]; exact hG1' i hi⟩⟩
    rw [hZ3] at ha
    obtain ⟨xx, hxx⟩ := Option.isSome_iff_exists.1 (k4 i hi)
    have hxx : lookO ob i = some xx := hxx
    obtain ⟨h1, _⟩ := k3 i xx hxx
    rcases h1 with h1 | h1
    ·unfold arrO at ha ⊢
     rw [h1.1] at ha
     rw [hxx]; exact ha
    ·unfold arrO
     rw [hxx, h1.1]
   ·obtain ⟨i, oi, gi, h1, h2, h3, h4⟩ := hq
    rw [hZ1]; exact (hliveK i oi gi q h1 h2 h3 h4).2.2.1
   ·rw [hZ1]
    rw [hH0] at hq
    have := m.wsz
    rcases hq with (hq | hq) | hq
    ·exact (f2 q hq).2
    ·exact .inr (by omega)
    ·exact .inr (by omega)
   ·rw [hZ1, hw1s]; have := m.wsz; omega
   ·rw [hZ4]
    obtain ⟨xx, hxx⟩ := Option.isSome_iff_exists.1 hsome
    exact (k3 i xx hxx).2
  have hEc : EnvOK P (consE tb Z R) (Yt elems t) := by
   refine consE_ok (Y := Y) (by rw [hZ1]; exact hE) (by rw [hZ6, hZ1]; exact m.tsize) hZr (by rw [hZ1]; exact fun p hp => hbp p hp) (fun q => ?_) (fun k ob n e h => by rw [hR] at h; exact h.1) ?_
   ·rw [hZ3, hZ4, hZ5]
    refine ⟨?_, k5 q⟩
    have : ∀ (l : List (Nat × A)), (l.all fun p => fixA s.obj p.2) = true → fixA s.obj (lookA l q) = true := by
     intro l
     induction l with
     | nil => intro _; rfl
     | cons p l ih =>
      obtain ⟨k, x⟩ := p
      intro h
      rw [List.all_cons, Bool.and_eq_true] at h
      rw [lookA]
      cases Nat.beq k q with
      | true => exact h.1
      | false => exact ih h.2
    exact this sl hfs
   ·intro k ds ob1 n1 hel hkt hJ
    rw [hR] at hJ
    obtain ⟨hdl, hev⟩ := hrounds k ds ob1 n1 hel hkt hJ.2
    refine ⟨hdl, ?_⟩
    intro F' n' X' a1 w1 G1 I1 hF' hE' hnt hfx' hnb' hok' m1
    rw [hZ5] at m1
    refine ihx X' F' n' _ n1 _ ⟨zipS ps.toList ds sl, ob1, n1⟩ _ a1 w1 G1 I1 hF' hE' hfx' hnb' (by rw [hnt, hZ1]; exact hbx) hok' (Nat.le_refl _) m1 hev fun e a2 w2 s2 G2 I2 m2 ok2 hn2 hK => ?_
    cases e with
    | ex i => exact hK.elim
    | ret => exact hK.elim
    | pan v => exact hK.elim
    | nrm =>
     refine ⟨rfl, s2, G2, I2, m2, ok2, hn2, fun X'' a3 w3 G3 I3 hE'' hnt'' hfx'' hnb'' m3 => ?_⟩
     refine ihy X'' F' n' _ n1 _ s2 _ a3 w3 G3 I3 hF' hE'' hfx'' hnb'' (by rw [hnt'', hZ1]; exact hby) ok2 hn2 m3 hK fun e a4 w4 s4 G4 I4 m4 ok4 hn4 hK4 => ?_
     obtain ⟨os2, no, hos2, hK4⟩ := hK4
     refine ⟨e, s4, G4, I4, rfl, m4, ok4, os2, no, fun i hi => ?_, keep_mono (fun s5 h5 => ?_) hK4⟩
     ·have := List.all_eq_true.1 hos2 i hi
      rw [Bool.or_eq_true, Nat.ble_eq] at this
      refine this.imp (fun h => ?_) id
      obtain ⟨p, hp, e⟩ := List.any_eq_true.1 h
      exact List.mem_map.2 ⟨p, hp, Nat.eq_of_beq_eq_true e⟩
     ·cases e with
      | nrm => rw [hR]; exact ⟨h5.1, by show k + 1 ≤ t; omega, h5.2⟩
      | ret => rw [hR]; exact ⟨h5.1, by show k + 1 = t + 1; omega, ⟨(fun e => by cases e), (fun _ e => by cases e)⟩, h5.2⟩
      | ex i => rw [hR]; exact ⟨h5.1, by show k + 1 = t + 1; omega, ⟨(fun e => by cases e), (fun _ e => by cases e)⟩, h5.2⟩
      | pan v => exact h5.elim
  obtain ⟨G', hG'⟩ : ∃ G' : Nat → Option GR, G' = updG G s.n ⟨.func (.yield (w.heap.size + 1)) #[] #[], none⟩ := ⟨_, rfl⟩
  have hGn : G s.n = none := by
   cases e : G s.n with
   | none => rfl
   | some gr =>
    have := m.dom _ _ e
    rw [ok s.n (Nat.le_refl _)] at this; cases this
  have hGG : ∀ i gr, G i = some gr → G' i = some gr := fun i gr hg => by
   rw [hG']
   by_cases e : s.n = i
   ·subst e; rw [hGn] at hg; cases hg
   ·rw [updG_ne e]; exact hg
  have hG'n : ∀ i, i ≠ s.n → G' i = G i := fun i hi => by rw [hG', updG_ne (Ne.symm hi)]
  obtain ⟨Gc, hGc⟩ : ∃ Gc, Gc = subG (s.n :: ρ) G' := ⟨_, rfl⟩
  have hGc0 : Gc 0 = some ⟨.func (.yield (w.heap.size + 1)) #[] #[], none⟩ := by rw [hGc, hG']; simp [subG, updG_self]
  have hGcs : ∀ i jj, ρ[i]? = some jj → Gc (i + 1) = G jj := fun i jj hj => by
   rw [hGc]
   have := b2 jj (List.mem_of_getElem? hj)
   simp only [subG, List.getElem?_cons_succ, hj, Option.bind_some]
   exact hG'n jj (by omega)
  have hprel : pre.length = ρ.length := by rw [hpre]; simp
  have hplook : ∀ (i : Nat) (x : Ob), pre[i]? = some x → ∃ (jj : Nat) (oj : Ob), ρ[i]? = some jj ∧ s.obj jj = some oj ∧ x = invO (s.n :: ρ) (some oj) ∧ x.live = oj.live ∧ (∀ T cs, oj = .ro T cs → x ≠ .dead) := by
   intro i x hx
   have hs := (b3 x (List.mem_of_getElem? hx)).1
   rw [hpre, List.getElem?_map] at hx
   obtain ⟨jj, hjj, rfl⟩ := Option.map_eq_some_iff.1 hx
   cases e : s.obj jj with
   | none => rw [e] at hs; simp [invO, Ob.sure] at hs
   | some oj =>
    rw [e] at hs
    refine ⟨jj, oj, hjj, e, rfl, ?_, ?_⟩
    ·clear e
     cases oj with
     | iter m' q' seen' => simp only [invO] at hs; split at hs <;> simp [Ob.sure] at hs
     | _ => first | rfl | (exact absurd hs (by simp [invO, Ob.sure]))
    ·intro T cs h; subst h; simp [invO]
  have hobj : ∀ i ob, s.obj i = some ob → ObOK tb G' I w1.heap i ob := fun i ob hi =>
   ObOK.mono hGG (fun _ h => h) hI1 (fun h2 gr b h3 h4 => hw1k b (m.own i ob gr b hi h2 h3 h4).2.1) (m.objs i ob hi)
  have mC : Mod tb (Ctx.iter w1 I (.env 0 :: pre) Gc 0 (consE tb Z R) (fun q => H0 q ∨ liveB (lookO ob) G1 q)) noG (fun i => (Ob.env 0 :: pre)[i]?) noAct w1 Gc I := by
   refine ⟨rfl, fun t => by rw [RepA]; trivial, fun i xx hx => ?_, fun i gr hg => ?_, ?_, ?_, fun _ _ _ => rfl, fun q hq => by have := m.isz q hq; omega, fun _ h => h, fun _ h => .inl h, fun _ _ _ => rfl, rfl, rfl, rfl, Nat.le_refl _, fun i T es _ hba hx => ?_, ?_, fun _ => rfl⟩
   ·cases i with
    | zero => have hx : some (Ob.env 0) = some xx := hx; cases hx; trivial
    | succ i =>
     have hx : pre[i]? = some xx := hx
     obtain ⟨jj, oj, h1, h2, h3, _⟩ := hplook i xx hx
     subst h3
     rw [hGc]
     have := ObOK.invO (tb := tb) (ρ := s.n :: ρ) (o := s.obj) (h := w1.heap) hobj (i := i + 1) (j := jj) (by simpa using h1)
     rw [h2] at this; exact this
   ·show ((Ob.env 0 :: pre)[i]?).isSome = true
    cases i with
    | zero => rfl
    | succ i =>
     rw [hGc] at hg
     simp only [subG, List.getElem?_cons_succ] at hg
     cases e : ρ[i]? with
     | none => rw [e] at hg; cases hg
     | some jj =>
      have : i < pre.length := by rw [hprel]; exact (List.getElem?_eq_some_iff.1 e).1
      simp [this]
   ·intro i k oi ok' gi gk q h1 h2 h3 h4 h5 h6 h7 h8
    cases i with
    | zero => have h1 : some (Ob.env 0) = some oi := h1; cases h1; simp [Ob.live] at h3
    | succ i =>
     cases k with
     | zero => have h2 : some (Ob.env 0) = some ok' := h2; cases h2; simp [Ob.live] at h4
     | succ k =>
      obtain ⟨jj, oj, p1, p2, p3, p4, _⟩ := hplook i oi h1
      obtain ⟨jk, oj', q1, q2, q3, q4, _⟩ := hplook k ok' h2
      rw [hGcs i jj p1] at h5
      rw [hGcs k jk q1] at h6
      have := m.sep jj jk oj oj' gi gk q p2 q2 (by rw [← p4]; exact h3) (by rw [← q4]; exact h4) h5 h6 h7 h8
      subst this
      rw [nodupB_spec b1 p1 q1]
   ·intro i oi gi q h1 h2 h3 h4
    have hlt : i < (Ob.env 0 :: pre).length := (List.getElem?_eq_some_iff.1 h1).1
    cases i with
    | zero => have h1 : some (Ob.env 0) = some oi := h1; cases h1; simp [Ob.live] at h2
    | succ i =>
     obtain ⟨jj, oj, p1, p2, p3, p4, _⟩ := hplook i oi h1
     have h3' := h3
     rw [hGcs i jj p1] at h3
     obtain ⟨r1, r2, _⟩ := m.own jj oj gi q p2 (by rw [← p4]; exact h2) h3 h4
     exact ⟨r1, by omega, .inr ⟨i + 1, gi, hlt, h3', h4⟩⟩
   ·cases i with
    | zero => have hx : some (Ob.env 0) = some (Ob.arr T es) := hx; cases hx
    | succ i =>
     have hx : pre[i]? = some (Ob.arr T es) := hx
     have := (b3 _ (List.mem_of_getElem? hx)).2
     simp [Ob.arrB] at this
   ·refine ⟨0, fun q => H0 q ∨ liveB (lookO ob) G1 q, ⟨[], fun q => H0 q ∨ liveB (lookO ob) G1 q, rfl, List.nodup_nil, fun r hr => (nomatch hr), fun q => by simp, ob, s.n + 1, G1, none, H0, by rw [hR]; exact ⟨Nat.zero_le _, h0⟩, hcons⟩, fun q hq => ⟨?_, .inl hq⟩, fun i oi gi q h1 h2 h3 h4 hf => ?_, fun i k' hi => ?_⟩
    ·rcases hq with hq | ⟨i, oi, gi, h1, h2, h3, h4⟩
     ·rw [hH0] at hq
      rcases hq with (hq | hq) | hq
      ·have := hF2z q hq; omega
      ·omega
      ·omega
     ·have := (hliveK i oi gi q h1 h2 h3 h4).2.1; omega
    ·cases i with
     | zero => have h1 : some (Ob.env 0) = some oi := h1; cases h1; simp [Ob.live] at h2
     | succ i =>
      obtain ⟨jj, oj, p1, p2, p3, p4, p5⟩ := hplook i oi h1
      rw [hGcs i jj p1] at h3
      have hlv : oj.live = true := by rw [← p4]; exact h2
      obtain ⟨_, r2, _⟩ := m.own jj oj gi q p2 hlv h3 h4
      rcases hf with hf | ⟨i', oi', gi', q1, q2, q3, q4⟩
      ·exact hliveH q r2 (f3 jj oj gi q p2 hlv h3 h4) hf
      ·obtain ⟨u1, u2⟩ := k3 i' oi' q1
       rw [hG1' i' u2] at q3
       rcases u1 with u1 | u1
       ·have := m.sep jj i' oj oi' gi gi' q p2 u1.1 hlv q2 h3 q3 h4 q4
        subst this
        obtain ⟨T, cs, hx⟩ := u1.2 (List.mem_of_getElem? p1)
        rw [hx] at q2; simp [Ob.live] at q2
       ·rw [u1.1] at q2; simp [Ob.live] at q2
    ·cases i with
     | zero =>
      have hi : some (Ob.env 0) = some (.env k') := hi
      cases hi
      exact ⟨rfl, rfl, by rw [hGc0]; show _ = some (GR.mk (consE tb Z R).v none); simp only [consE, hZ8]⟩
     | succ i =>
      have hi : pre[i]? = some (.env k') := hi
      have := (b3 _ (List.mem_of_getElem? hi)).1
      simp [Ob.sure] at this
  obtain ⟨vs, hvs⟩ : ∃ vs : List Value, vs = xv.toList ++ .func (.yield (w.heap.size + 1)) #[] #[] :: yv.toList := ⟨_, rfl⟩
  have hrep : RepAL Gc I w1.heap (invAL (s.n :: ρ) (first ++ .own s.n :: caps)) vs := by
   rw [hGc, hvs]
   refine RepAL.inv (ρ := s.n :: ρ) _ _ (RepAL.append (RepAL.mono hGG (fun _ h => h) hI1 _ _ hfr) (RepAL.cons ?_ (RepAL.mono hGG (fun _ h => h) hI1 _ _ hcr)))
   rw [RepA, hG']
   exact ⟨⟨_, updG_self, rfl⟩, rfl⟩
  have hcall := hit.2 (consE tb Z R) _ hEc w1 I Gc vs mC hrep
  obtain ⟨fnr, hf1, hf2, hf3⟩ := hit.1
  have g1 : fnr.name ≠ "runtime.NumGoroutine" := by simpa using hf2
  have g2 : fnr.body ≠ none := fun e => by rw [e] at hf3; cases hf3
  have hargs : (xv ++ #[.func (.yield (w.heap.size + 1)) #[] #[]]) ++ yv = vs.toArray := by
   rw [hvs]; apply Array.ext'; simp
  refine ⟨w.heap.size + 1, [markD w.heap.size], w1, { target := .fn (.func fid) yv, args := xv ++ #[.func (.yield (w.heap.size + 1)) #[] #[]] }, w1, fid, vs.toArray, w1, ?_, ?_, fun f' _ => hF.fn f', ?_, fun hd => by rw [hF.depth] at hd; (cases hd), ?_⟩
  ·rw [run_enterLoop_outer, hw1]
   simp only [Frame0.obj, hZr, hZ6, hZ7, markD]
  ·simp only [resolve, rangeCall, hfv]
   simp [Deferred.ofValue, Act.eval]
  ·rw [← hargs]
   simp [invoke, callFunc, hf1, g1, g2]
  ·refine hF.calls.2 (hcall.mono fun e w' he => ?_)
   obtain ⟨v, rfl, G3, I3, mR⟩ := he
   obtain ⟨kE, Ft, ⟨dlE, FE, u1, u2, u3, u4, ⟨ob1, n1, G4, jx, F1, hRk, hc⟩⟩, v2, v3, v4⟩ := mR.env
   have hdlE : dlE = [] := by cases dlE <;> simp [noAct] at u1 ⊢
   subst hdlE
   have u4' : ∀ q, Ft q ↔ FE q := fun q => by rw [u4 q]; simp
   obtain ⟨_, hkE, _⟩ := v4 0 _ (by rw [lookO]; rfl)
   have hcF : ConsAt tb Z jx ob1 n1 G4 F1 FE I3 w' := hc
   obtain ⟨jj, F5, ⟨dl5, F6, t1, t2, t3, t4, t5⟩, _, _, _⟩ := hc.mod.env
   have hrec : w'.heap[Z.l]? = some (Z.obj jx) := by
    have t5' : (Z.env jx).P jj F6 I3 w' := t5
    obtain ⟨_, _, q, _⟩ := t5'
    exact q
   have hback : ∀ y, ∃ G2, Mod tb X (lookA sl) (lookO ((post.map fun p => (outI (s.n :: ρ) s.n p.1, outO (s.n :: ρ) s.n p.2)) ++ (s.n, .dead) :: ob1)) { a with defers := markD w.heap.size :: a.defers } (w'.putObj (w.heap.size + 1) y) G2 I3 ∧ ∀ i T cs, lookO ob1 i = some (.ro T cs) → ObOK tb G2 I3 (w'.putObj (w.heap.size + 1) y).heap i (.ro T cs) := by
    intro y
    have := range_back (Z := Z) (ρ := ρ) (fx := fx) (post := post) (g0 := s.get) (w := w) (w1 := w1) (I := I) (pre := pre) (by rw [hZ1, hZ2, hZ3, hZ6]; exact m) (by rw [hZ1]; exact hfx) (by rw [hZ1, hZ9]; omega) (by rw [hZ1]; exact hnd) b1 (by rw [hZ9]; exact b2) (by rw [hZ9]; omega) (by rw [hZ1, hZ9]; omega)
     (by rw [hZ9, hZ3]; exact hpre) b3 (by rw [hZ4, hZ9]; exact b4) (by
      rw [hZ4]
      intro i hi
      exact (b6 i hi).imp (hany os i).1 (hany ρ i).1) (fun p hp => ⟨(b7 p hp).1.1, (b7 p hp).1.2, (b7 p hp).2⟩) (fun i hi => any_look (b8 i hi)) hw1k (by omega) (by rw [hw1]; rfl) (by rw [hw1]; rfl) (by rw [hw1]; rfl) (by rw [hZ8]; omega) (by
      rw [hZ1]
      intro q hq
      rcases hq with hq | ⟨i, oi, gi, h1, h2, h3, h4⟩
      ·rw [hH0] at hq
       rcases hq with (hq | hq) | hq
       ·rcases (f2 q hq).2 with h | h
        ·exact .inr (.inl h)
        ·exact .inr (.inr (.inr h))
       ·exact .inl (by omega)
       ·exact .inl (by omega)
      ·rcases (hliveK i oi gi q h1 h2 h3 h4).2.2.1 with h | h
       ·exact .inr (.inr (.inr h))
       ·exact .inr (.inr (.inl h))) (by rw [hZ2]; exact hGcs) mR hcF (fun i oi gi q h1 h2 h3 h4 hf => v3 i oi gi q h1 h2 h3 h4 ((u4' q).2 hf)) (fun q hq => (v2 q ((u4' q).2 hq)).1) (y := y)
    rw [hZ1, hZ5, hZ6, hZ7, hZ8, hZ9] at this
    exact this
   have hn1 : s.n + 1 ≤ n1 := by have := hc.size; rw [hZ9] at this; exact this
   have hfin : ∀ (e : Ex) (y : Obj), (backO ρ s.n post ob1 fun ob2 => K e ⟨sl, ob2, n1⟩) → Q e.to { a with defers := markD w.heap.size :: a.defers } (w'.putObj (w.heap.size + 1) y) := by
    intro e y hk
    obtain ⟨G2, m2, hro2⟩ := hback y
    unfold backO at hk
    rw [outObs_eq, mendO_eq, catO_eq] at hk
    have m3 : Mod tb X (lookA sl) (lookO (((post.map fun p => (outI (s.n :: ρ) s.n p.1, outO (s.n :: ρ) s.n p.2)).map (mend1 ob1)) ++ (s.n, .dead) :: ob1)) { a with defers := markD w.heap.size :: a.defers } (w'.putObj (w.heap.size + 1) y) G2 I3 := by
     refine m2.rekeep (fun i x hx => ?_) (fun i hi => ?_)
     ·rw [lookO_append, lookO_mend] at hx
      rw [lookO_append]
      cases e : lookO (post.map fun p => (outI (s.n :: ρ) s.n p.1, outO (s.n :: ρ) s.n p.2)) i with
      | none => rw [e] at hx; exact .inl hx
      | some z =>
       rw [e] at hx
       simp only at hx
       split at hx
       ·rename_i y hy
        split at hy
        ·rename_i T cs hro'
         cases hy; cases hx
         exact .inr ⟨⟨T, cs, rfl⟩, hro2 i T cs hro'⟩
        ·cases hy; cases hx; exact .inl rfl
       ·rename_i hy
        split at hy <;> cases hy
     ·rw [lookO_append] at hi
      rw [lookO_append, lookO_mend]
      cases e : lookO (post.map fun p => (outI (s.n :: ρ) s.n p.1, outO (s.n :: ρ) s.n p.2)) i with
      | none => rw [e] at hi; exact hi
      | some z =>
       simp only
       split
       ·rfl
       ·rename_i hy
        split at hy <;> cases hy
    refine hQ e _ _ ⟨sl, ((post.map fun p => (outI (s.n :: ρ) s.n p.1, outO (s.n :: ρ) s.n p.2)).map (mend1 ob1)) ++ (s.n, .dead) :: ob1, n1⟩ G2 I3 m3 (fun i hi => ?_) (by show nb ≤ n1; omega) hk
    have hi : n1 ≤ i := hi
    show lookO _ i = none
    rw [lookO_append, lookO_mend]
    cases e : lookO (post.map fun p => (outI (s.n :: ρ) s.n p.1, outO (s.n :: ρ) s.n p.2)) i with
    | some yy =>
     exfalso
     obtain ⟨k, xx, r1, r2, _⟩ := lookS_of e
     have hk := (b7 _ (lookO_mem r1)).1
     have hk1 : 0 < k := hk.1
     have hk2 : k < ρ.length + 1 := hk.2
     obtain ⟨k, rfl⟩ : ∃ k', k = k' + 1 := ⟨k - 1, by omega⟩
     have hj : ρ[k]? = some ρ[k] := by simp
     have : outI (s.n :: ρ) s.n (k + 1) = ρ[k] := by simp [outI, hj]
     rw [this] at r2
     have := b2 _ (List.mem_of_getElem? hj)
     omega
    | none =>
     simp only [lookO]
     rw [beq_ne (by omega), cond_false]
     exact hc.ok i hi
   have hel : ∀ {r : Loop}, w'.heap[Z.l]? = some (.loop r) → r.state ≠ .busy → (Instr.endLoop Z.l).run P w' = .ok r.pending (w'.putObj Z.l (.loop { r with state := .exhausted })) := fun h1 h2 => run_endLoop h1 h2
   rw [hR] at hRk
   cases jx with
   | none =>
    have hk := hRk.1
    have := hel (r := Z.lr .ready none) hrec (by rw [hZr]; simp)
    refine ⟨none, _, by rw [hZ8] at this; rw [hZr] at this; exact this, ?_⟩
    refine hfin .nrm _ (hend ob1 n1 ?_ ?_)
    ·rw [← hkE] at hk; omega
    ·have hke : kE = elems.length := by rw [← hkE] at hk ⊢; omega
     rw [← hke]; exact hRk.2
   | some e =>
    obtain ⟨_, hne, hbk⟩ := hRk
    cases e with
    | nrm => exact absurd rfl hne.1
    | pan v => exact absurd rfl (hne.2 v)
    | ret =>
     have := hel (r := Z.lr .done (some .ret)) hrec (by rw [hZr]; simp)
     exact ⟨some .ret, _, by rw [hZ8] at this; rw [hZr] at this; exact this, wpIn_ret (hfin .ret _ hbk)⟩
    | ex i =>
     have := hel (r := Z.lr .done (some (.exit i))) hrec (by rw [hZr]; simp)
     exact ⟨some (.exit i), _, by rw [hZ8] at this; rw [hZr] at this; exact this, wpIn_exit (hfin (.ex i) _ hbk)⟩
theorem exists_min {p : Nat → Prop} (h : ∃ m, p m) : ∃ m, p m ∧ ∀ k, p k → m ≤ k := by
 obtain ⟨m, hm⟩ := h
 induction m using Nat.strongRecOn with
 | _ m ih =>
  by_cases h : ∃ k, k < m ∧ p k
  ·obtain ⟨k, hk, hp⟩ := h; exact ih k hk hp
  ·refine ⟨m, hm, fun k hk => ?_⟩
   rcases Nat.lt_or_ge k m with hl | hl
   ·exact absurd ⟨k, hl, hk⟩ h
   ·exact hl
theorem wpIn_loop_m {P : Program} {F : Fence} {n : Nat} {Q : Exit → Act → World → Prop} {a : Act} {w : World} {c : Code} (J : Nat → Act → World → Prop) (h0 : ∃ m, J m a w)
  (round : ∀ m a w, J m a w → c.wpIn F n P (Exit.then (fun a' w' => ∃ m', m' < m ∧ J m' a' w') Q) a w) : (Code.loop c).wpIn F n P Q a w := by
 classical
 have hμ : ∃ μ : Act → World → Nat, ∀ a w, (∃ m, J m a w) → J (μ a w) a w ∧ ∀ k, J k a w → μ a w ≤ k :=
  ⟨fun a w => if h : ∃ m, J m a w then (exists_min h).choose else 0, fun a w h => by simp only [h, dif_pos]; exact (exists_min h).choose_spec⟩
 obtain ⟨μ, hμ⟩ := hμ
 refine wpIn_loop (fun a w => ∃ m, J m a w) μ h0 fun a w hJ => ?_
 refine wpIn_mono (round (μ a w) a w (hμ a w hJ).1) fun e a' w' hq => ?_
 cases e with
 | normal =>
  obtain ⟨m', hlt, hj⟩ := hq
  exact ⟨⟨m', hj⟩, Nat.lt_of_le_of_lt ((hμ a' w' ⟨m', hj⟩).2 m' hj) hlt⟩
 | _ => exact hq
theorem ev_sound (hWn : Nat.beq Wn 8 = false) (hP : PG P tb) : ∀ (c : Code) {X : Ctx} {F : Fence} {n : Nat} {Y : Nat → List D → Bool → Prop} {fx : List Nat} {rf : Bool} {nb : Nat} {Q : Exit → Act → World → Prop} {s : St} {K : Ex → St → Prop} {a : Act} {w : World} {G : Nat → Option GR} {I : Nat → Prop}, Wide F → EnvOK P X.E Y → (∀ i, i < X.nb → X.G0 i ≠ none → i ∈ fx) → X.nb ≤ nb → codeB X.nt c = true → s.ok → nb ≤ s.n → Mod tb X s.get s.obj a w G I → (rf = true → F.round = none ∧ X.nd = false) →
  ev tb (Con P tb Wn Y) nb fx rf c s K → (∀ e a' w' s' G' I', Mod tb X s'.get s'.obj a' w' G' I' → s'.ok → nb ≤ s'.n → K e s' → Q e.to a' w') → c.wpIn F n P Q a w := by
 intro c
 induction c with
 | skip => intro X F n Y fx rf nb Q s K a w G I hF hE hfx hnb hb ok hn m hrf h hQ; exact wpIn_skip (hQ .nrm a w s G I m ok hn h)
 | label l => intro X F n Y fx rf nb Q s K a w G I hF hE hfx hnb hb ok hn m hrf h hQ; exact wpIn_label (hQ .nrm a w s G I m ok hn h)
 | region id ops draw =>
  intro X F n Y fx rf nb Q s K a w G I hF hE hfx hnb hb ok hn m hrf h hQ
  simp only [codeB, Bool.and_eq_true, List.all_eq_true, Bool.or_eq_true, Bool.not_eq_true'] at hb
  have hd : ∀ y ∈ ops.toList, ∀ d, y.dst = some d → d < X.nt := fun y hy d hd => by
   have := hb.1 y hy
   rw [hd] at this
   simpa using this
  cases draw with
  | false =>
   simp only [ev_region] at h
   refine wpIn_region ?_
   have := seq_sound (ops := ops) (n := n) hP hF hE (Q := Q) (K := K .nrm) (KP := fun v => K (.pan v)) ops.toList 0 (s := s) (fun j => by simp) hd (Nat.le_trans hnb hn) ok m h (fun a' w' s' G' I' m' ok' hle hK => hQ .nrm a' w' s' G' I' m' ok' (by omega) hK) (fun v a' w' s' G' I' m' ok' hle hK => hQ (.pan v) a' w' s' G' I' m' ok' (by omega) hK)
   rw [List.range_eq_range']
   simpa using this
  | true =>
   simp only [ev_region, gN_eq, fN_eq] at h
   have hB : drawB ops.toList = true := by simpa using hb.2
   exact draw_sound hP hF hE hd (Nat.le_trans hnb hn) ok hB m h (fun a' w' s' G' I' m' ok' hle hK => hQ .nrm a' w' s' G' I' m' ok' (by omega) hK) (fun v a' w' s' G' I' m' ok' hle hK => hQ (.pan v) a' w' s' G' I' m' ok' (by omega) hK)
 | seq x y ihx ihy =>
  intro X F n Y fx rf nb Q s K a w G I hF hE hfx hnb hb ok hn m hrf h hQ
  simp only [codeB, Bool.and_eq_true] at hb
  rw [ev_seq] at h
  refine wpIn_seq (ihx hF hE hfx hnb hb.1 ok hn m hrf h fun e a' w' s' G' I' m' ok' hn' hK => ?_)
  cases e with
  | nrm => exact ihy hF hE hfx hnb hb.2 ok' hn' m' hrf hK hQ
  | ex i => exact hQ (.ex i) a' w' s' G' I' m' ok' hn' hK
  | ret => exact hQ .ret a' w' s' G' I' m' ok' hn' hK
  | pan v => exact hQ (.pan v) a' w' s' G' I' m' ok' hn' hK
 | cond c x y ihx ihy =>
  intro X F n Y fx rf nb Q s K a w G I hF hE hfx hnb hb ok hn m hrf h hQ
  simp only [codeB, Bool.and_eq_true] at hb
  rw [ev_cond] at h
  split at h
  ·rename_i t ht
   have hc := m.eval c
   rw [ht, RepA, RepD] at hc
   exact wpIn_cond_split hc (fun e => ihx hF hE hfx hnb hb.1 ok hn m hrf (h.1 e) hQ) (fun e => ihy hF hE hfx hnb hb.2 ok hn m hrf (h.2 e) hQ)
  ·exact h.elim
 | block id c ih =>
  intro X F n Y fx rf nb Q s K a w G I hF hE hfx hnb hb ok hn m hrf h hQ
  rw [ev_block] at h
  refine wpIn_block (ih hF hE hfx hnb hb ok hn m hrf h fun e a' w' s' G' I' m' ok' hn' hK => ?_)
  cases e with
  | nrm => exact hQ .nrm a' w' s' G' I' m' ok' hn' hK
  | ex i =>
   simp only [Ex.to, Exit.inBlock]
   by_cases e : i = id
   ·subst e
    simp only [Nat.beq_refl, cond_true] at hK
    rw [if_pos rfl]; exact hQ .nrm a' w' s' G' I' m' ok' hn' hK
   ·rw [if_neg e]
    simp only [beq_ne e, cond_false] at hK
    exact hQ (.ex i) a' w' s' G' I' m' ok' hn' hK
  | ret => exact hQ .ret a' w' s' G' I' m' ok' hn' hK
  | pan v => exact hQ (.pan v) a' w' s' G' I' m' ok' hn' hK
 | loop c ih =>
  intro X F n Y fx rf nb Q s K a w G I hF hE hfx hnb hb ok hn m hrf h hQ
  rw [ev_loop] at h
  obtain ⟨cv, ks, os, no, J, h0, hr⟩ := h
  obtain ⟨s0, G0, I0, h0, ok0, hn0, m0⟩ := cvS_sound hnb cv h0 m ok (Nat.le_trans hnb hn)
  refine wpIn_loop_m (fun k a w => ∃ s1 G1 I1, J k s1 ∧ s1.ok ∧ nb ≤ s1.n ∧ Mod tb X s1.get s1.obj a w G1 I1) ?_ ?_
  ·obtain ⟨s', ⟨k, hk⟩, h2, h3, _, _, _, _, _, G', m', _⟩ := keep_sound hfx m0 h0
   exact ⟨k, s', G', I0, hk, h2, h3, m'⟩
  ·rintro k a1 w1 ⟨s1, G1, I1, hj, ok1, hn1, m1⟩
   refine ih hF hE hfx hnb hb ok1 hn1 m1 hrf (hr k s1 hj) fun e a' w' s' G' I' m' ok' hn' hK => ?_
   cases e with
   | nrm =>
    obtain ⟨s3, G3, I3, hK, ok3, hn3, m3⟩ := mvS_sound hnb cv hK m' ok' hn'
    obtain ⟨s2, ⟨k', hlt, hk⟩, h2, h3, _, _, _, _, _, G2, m2, _⟩ := keep_sound hfx m3 hK
    exact ⟨k', hlt, s2, G2, I3, hk, h2, h3, m2⟩
   | ex i => exact hQ (.ex i) a' w' s' G' I' m' ok' hn' hK
   | ret => exact hQ .ret a' w' s' G' I' m' ok' hn' hK
   | pan v => exact hQ (.pan v) a' w' s' G' I' m' ok' hn' hK
 | scope c ih =>
  intro X F n Y fx rf nb Q s K a w G I hF hE hfx hnb hb ok hn m hrf h hQ
  rw [ev_scope] at h
  refine wpIn_scope (ih hF hE hfx hnb hb ok hn m hrf h fun e a' w' s' G' I' m' ok' hn' hK => ?_)
  cases e with
  | nrm => exact hQ .nrm a' w' s' G' I' m' ok' hn' hK
  | ex i => exact hQ (.ex i) a' w' s' G' I' m' ok' hn' hK
  | ret => exact hQ .ret a' w' s' G' I' m' ok' hn' hK
  | pan v => exact hQ (.pan v) a' w' s' G' I' m' ok' hn' hK
 | exit id => intro X F n Y fx rf nb Q s K a w G I hF hE hfx hnb hb ok hn m hrf h hQ; exact wpIn_exit (hQ (.ex id) a w s G I m ok hn h)
 | ret => intro X F n Y fx rf nb Q s K a w G I hF hE hfx hnb hb ok hn m hrf h hQ; exact wpIn_ret (hQ .ret a w s G I m ok hn h)
 | rangeFunc f ps x y ihx ihy =>
  intro X F n Y fx rf nb Q s K a w G I hF hE hfx hnb hb ok hn m hrf h hQ
  cases rf with
  | false => simp only [ev_range] at h
  | true =>
  obtain ⟨hro, hnd⟩ := hrf rfl
  simp only [ev_range, gN_eq] at h
  split at h
  ·rename_i fid first caps hfn
   obtain ⟨ρ, ks, os, elems, t, post, J, hit, h⟩ := h
   obtain ⟨pre, hpre⟩ : ∃ pre, pre = ρ.map fun j => invO (s.n :: ρ) (s.obj j) := ⟨_, rfl⟩
   rw [← hpre] at hit h
   cases hB : rngB fx s.n ρ os s.obj pre post with
   | false => rw [hB] at h; exact h.elim
   | true =>
    rw [hB, cond_true] at h
    simp only [rngB, postB_eq, memK_eq, Nat.ble_eq, Bool.and_eq_true, List.all_eq_true, Nat.blt_eq, Bool.or_eq_true, Bool.not_eq_true', List.mem_range] at hB
    obtain ⟨⟨⟨⟨⟨⟨b1, b2⟩, b3⟩, b4⟩, b6⟩, b7⟩, b8⟩ := hB
    exact range_case hP hF hro hnd hE hfx hnb ok hn m hfn hit hpre b1 b2 (fun x hx => b3 x hx) b4 b6 (fun p hp => b7 p hp) b8 hb h
     (fun X' F' n' fx' nb' Q' s' K' a' w' G' I' hF' hE' hfx' hnb' hb' ok' hn' m' h' hQ' => ihx (rf := false) hF' hE' hfx' hnb' hb' ok' hn' m' (fun e => nomatch e) h' hQ')
     (fun X' F' n' fx' nb' Q' s' K' a' w' G' I' hF' hE' hfx' hnb' hb' ok' hn' m' h' hQ' => ihy (rf := false) hF' hE' hfx' hnb' hb' ok' hn' m' (fun e => nomatch e) h' hQ') hQ
  ·exact h.elim
 | goto l => intro X F n Y fx rf nb Q s K a w G I hF hE hfx hnb hb ok hn m hrf h hQ; rw [ev_goto] at h; exact h.elim
 | refuse y => intro X F n Y fx rf nb Q s K a w G I hF hE hfx hnb hb ok hn m hrf h hQ; rw [ev_refuse] at h; exact h.elim
end
end Go.Ev


namespace Go.Ev
open RowKit
def resA (tb : TB) (T : TypeId) (x : A) (o : Nat → Option Ob) (K : A → Prop) : Prop :=
 match tb T with
 | some y =>
  match x with
  | .ref i off => match o i with
   | some (.var true _ cs) =>
    bif y.k.agg then ∃ ds, (cs.drop off).take y.size = ds.map A.d ∧ ds.length = y.size ∧ K (.d (.agg ds))
    else ∃ c, cs[off]? = some c ∧ K c
   | some (.var false _ cs) =>
    bif y.k.agg then fL ((cs.drop off).take y.size) fun l => bif Nat.beq l.length y.size then K (aggA l) else False
    else match cs[off]? with
     | some c => K c
     | none => False
   | _ => False
  | _ => False
 | none => False
def resL (tb : TB) (g : Nat → A) (o : Nat → Option Ob) : List ResultVar → (List A → Prop) → Prop
 | [], K => K []
 | .tmp t :: r, K => fA (g t) fun x => resL tb g o r fun xs => K (x :: xs)
 | .cell a T :: r, K => resA tb T (g a) o fun x => resL tb g o r fun xs => K (x :: xs)
def oneD : List D → D
 | [d] => d
 | ds => .tup ds
def fin (tb : TB) (rs : List ResultVar) (R : D → Prop) (e : Ex) (s : St) : Prop :=
 match e with
 | .ex _ => False
 | .pan _ => False
 | _ => resL tb s.get s.obj rs fun xs => match toDs (handL true s.obj xs).1 with
  | some ds => R (oneD ds)
  | none => False
def argSl : Nat → List D → List (Nat × A)
 | _, [] => []
 | k, d :: r => (k, .d d) :: argSl (k + 1) r
section
variable {tb : TB} {X : Ctx} {P : Program} {Wn : Nat} {Y : Nat → List D → Bool → Prop} {g : Nat → A} {o : Nat → Option Ob} {a : Act} {w : World} {G : Nat → Option GR} {I : Nat → Prop}
theorem resA_run (hP : PG P tb) (m : Mod tb X g o a w G I) {T : TypeId} {x : A} {u : Value} {K : A → Prop} (rx : RepA G I w.heap x u) (h : resA tb T x o K) :
  ∃ y v, K y ∧ RepA G I w.heap y v ∧ (do loadVar T (← asAddr u) : Sem Value).run P w = .ok v w := by
 unfold resA at h
 split at h
 ·rename_i y hy
  have hT := hP.ty T y hy
  split at h
  ·rename_i i off
   rw [RepA] at rx
   obtain ⟨b, hg, hu⟩ := rx
   have main : ∀ bulk T' cs, o i = some (.var bulk T' cs) → ∃ c, w.heap[b]? = some (.cells c T' (0, 0)) ∧ RepAL G I w.heap cs c.toList := by
    intro bulk T' cs ho
    obtain ⟨b', c, h1, h2, h3, _⟩ := m.objs i _ ho
    rw [hg] at h1; cases h1
    exact ⟨c, h2, h3⟩
   have fin : ∀ T' cs, (∃ c : Array Value, w.heap[b]? = some (.cells c T' (0, 0)) ∧ RepAL G I w.heap cs c.toList) → ∀ l : List A, (cs.drop off).take y.size = l → l.length = y.size →
     ∀ xr : A, (∀ vs : List Value, RepAL G I w.heap l vs → RepA G I w.heap xr (if y.k.agg then .agg vs.toArray else vs.getD 0 undef)) → K xr → ∃ y v, K y ∧ RepA G I w.heap y v ∧ (do loadVar T (← asAddr u) : Sem Value).run P w = .ok v w := by
    rintro T' cs ⟨c, hc, hr⟩ l hl hlen xr hxr h
    have r2 : RepAL G I w.heap l ((c.toList.drop off).take y.size) := by rw [← hl]; exact (hr.drop off).take y.size
    have hvl : ((c.toList.drop off).take y.size).length = y.size := by rw [RepAL.length r2, hlen]
    refine ⟨xr, _, h, hxr _ r2, ?_⟩
    rw [hu]
    simp [asAddr, run_loadVar hT hc rfl hvl]
   split at h
   ·rename_i T' cs ho
    have hm := main _ _ _ ho
    cases ha : y.k.agg with
    | true =>
     simp only [ha, cond_true] at h
     obtain ⟨ds, h1, h2, h⟩ := h
     refine fin T' cs hm (ds.map A.d) h1 (by simpa using h2) _ ?_ h
     intro vs r
     rw [ha, if_pos rfl, RepA, RepD]
     exact ⟨_, rfl, by simpa using RepAL.of_d.1 r⟩
    | false =>
     simp only [ha, cond_false] at h
     obtain ⟨c, h1, h⟩ := h
     have hs := hT.scal ha
     refine fin T' cs hm [c] ?_ (by simp [hs]) c ?_ h
     ·rw [hs]
      have : (cs.drop off)[0]? = some c := by simpa using h1
      cases hcd : cs.drop off with
      | nil => rw [hcd] at this; simp at this
      | cons z zs => rw [hcd] at this; simp at this; simp [this]
     ·intro vs r
      obtain ⟨v, q, rfl, r1, _⟩ := r.uncons
      simpa [ha] using r1
   ·rename_i T' cs ho
    have hm := main _ _ _ ho
    cases ha : y.k.agg with
    | true =>
     simp only [ha, cond_true, fL_eq] at h
     by_cases hl : Nat.beq ((cs.drop off).take y.size).length y.size = true
     ·simp only [hl, cond_true] at h
      refine fin T' cs hm _ rfl (Nat.eq_of_beq_eq_true hl) _ ?_ h
      intro vs r
      rw [ha, if_pos rfl]
      exact RepA.aggA r
     ·rw [Bool.not_eq_true] at hl; rw [hl] at h; exact h.elim
    | false =>
     simp only [ha, cond_false] at h
     split at h
     ·rename_i c h1
      have hs := hT.scal ha
      refine fin T' cs hm [c] ?_ (by simp [hs]) c ?_ h
      ·rw [hs]
       have : (cs.drop off)[0]? = some c := by simpa using h1
       cases hcd : cs.drop off with
       | nil => rw [hcd] at this; simp at this
       | cons z zs => rw [hcd] at this; simp at this; simp [this]
      ·intro vs r
       obtain ⟨v, q, rfl, r1, _⟩ := r.uncons
       simpa [ha] using r1
     ·exact h.elim
   ·exact h.elim
  ·exact h.elim
 ·exact h.elim
def resF (tmps : Array Value) : ResultVar → Sem Value
 | .tmp t => pure (tmps.getD t undef)
 | .cell a t => do loadVar t (← asAddr (tmps.getD a undef))
theorem resL_run (hP : PG P tb) (m : Mod tb X g o a w G I) : ∀ (rs : List ResultVar) {K : List A → Prop}, resL tb g o rs K → ∃ xs vs, K xs ∧ RepAL G I w.heap xs vs ∧ vs.length = rs.length ∧ (rs.mapM (resF a.tmps)).run P w = .ok vs w
 | [], K, h => ⟨[], [], h, RepAL.nil, rfl, by simp⟩
 | .tmp t :: r, K, h => by
  rw [resL, fA_eq] at h
  obtain ⟨xs, vs, h1, h2, h3, h4⟩ := resL_run hP m r h
  exact ⟨_, _, h1, RepAL.cons (m.slots t) h2, by simp [h3], by simp [List.mapM_cons, resF, h4]⟩
 | .cell b T :: r, K, h => by
  rw [resL] at h
  obtain ⟨y, v, h, r1, hrun⟩ := resA_run hP m (m.slots b) h
  obtain ⟨xs, vs, h1, h2, h3, h4⟩ := resL_run hP m r h
  refine ⟨_, _, h1, RepAL.cons r1 h2, by simp [h3], ?_⟩
  rw [List.mapM_cons, Sem.run_bind]
  rw [show (resF a.tmps (ResultVar.cell b T)).run P w = .ok v w from hrun]
  simp [h4]
theorem run_results {fn : Func} {tmps : Array Value} {vs : List Value} (h : (fn.results.toList.mapM (resF tmps)).run P w = .ok vs w) :
  (results fn tmps).run P w = .ok (if h : vs.toArray.size = 1 then vs.toArray[0] else .tuple vs.toArray) w := by
 have key : ∀ φ : ResultVar → Sem Value, φ = resF tmps → (do let vs ← fn.results.mapM φ; pure (if h : vs.size = 1 then vs[0] else .tuple vs) : Sem Value).run P w = .ok (if h : vs.toArray.size = 1 then vs.toArray[0] else .tuple vs.toArray) w := by
  intro φ hφ
  subst hφ
  rw [Sem.run_bind, Array.mapM_eq_mapM_toList]
  simp [h]
 exact key _ (funext fun x => by cases x <;> rfl)
theorem oneD_rep {h : Array Obj} {ds : List D} {vs : List Value} (r : RepL I h ds vs) : RepD I h (oneD ds) (if h : vs.toArray.size = 1 then vs.toArray[0] else .tuple vs.toArray) := by
 match ds, vs, r with
 | [], vs, r =>
  rw [RepL] at r
  subst r
  simp only [oneD]
  rw [RepD]
  exact ⟨#[], by simp, RepL.nil⟩
 | [d], vs, r =>
  rw [RepL] at r
  obtain ⟨v, q, rfl, r1, r2⟩ := r
  rw [RepL] at r2
  subst r2
  simpa [oneD] using r1
 | d :: e :: ds, vs, r =>
  have hl := RepL.length r
  rw [dif_neg (by simp at hl ⊢; omega)]
  simp only [oneD]
  rw [RepD]
  exact ⟨vs.toArray, rfl, by simpa using r⟩
theorem argSl_get {n : Nat} : ∀ (args : List D) (vs : List Value) (k : Nat) {h : Array Obj}, RepL I h args vs → ∀ t, RepA G I h (lookA (argSl k args) t) ((vs ++ List.replicate n undef).getD (t - k) undef) ∨ t < k
 | [], vs, k, h, r, t => by simp only [argSl, lookA]; left; rw [RepA]; trivial
 | d :: r, vs, k, h, rr, t => by
  rw [RepL] at rr
  obtain ⟨v, q, rfl, r1, r2⟩ := rr
  simp only [argSl, lookA]
  cases e : Nat.beq k t with
  | true =>
   have := Nat.eq_of_beq_eq_true e
   subst this
   left
   simp only [cond_true, Nat.sub_self]
   rw [RepA]
   simpa using r1
  | false =>
   have hne := Nat.ne_of_beq_eq_false e
   rcases argSl_get (n := n) r q (k + 1) r2 t with h1 | h1
   ·rcases Nat.lt_or_ge t k with h2 | h2
    ·exact .inr h2
    ·left
     simp only [cond_false]
     rw [show t - k = (t - (k + 1)) + 1 by omega]
     simpa using h1
   ·exact .inr (by omega)
theorem pure_of_ev (hP : PG P tb) {f : FuncId} {fn : Func} {c : Code} {args : List D} {R : D → Prop} (hf : P.funcs[f]? = some fn) (hb : fn.body = some c) (hn : (fn.name == "runtime.NumGoroutine") = false) (hc : codeB fn.ntmps c = true)
  (hl : args.length ≤ fn.ntmps) (h : ev tb (Con P tb 1000000 fun _ _ _ => False) 0 [] true c ⟨argSl 0 args, [], 0⟩ (fin tb fn.results.toList R)) {r : D} (hR : ∀ d, R d → ∀ (I : Nat → Prop) (h : Array Obj) (v : Value), RepD I h d v → RepD I h r v) : Pure P f args r := by
 refine ⟨⟨fn, hf, hn, by rw [hb]; rfl⟩, fun w I vs hI rep => callsIn_wide.1 (callsIn_of_wp_marks (F := Fence.wide) (n := 0) hf hb trivial ?_)⟩
 have hlen := RepL.length rep
 obtain ⟨X, hX⟩ : ∃ X : Ctx, X = Ctx.call w I [] (fun _ => none) fn.ntmps := ⟨_, rfl⟩
 have hW : Wide Fence.wide := ⟨fun _ => trivial, rfl, rfl⟩
 have m0 : Mod tb X (St.get ⟨argSl 0 args, [], 0⟩) (St.obj ⟨argSl 0 args, [], 0⟩) { tmps := vs.toArray ++ Array.replicate (fn.ntmps - vs.toArray.size) undef, defers := [] } w (fun _ => none) I := by
  subst hX
  refine ⟨by simp [Ctx.call]; omega, fun t => ?_, fun i ob h => (nomatch h), fun i gr h => (nomatch h), fun i j oi oj gi gj b h => (nomatch h), fun i oi gi b h => (nomatch h), fun i hi _ => rfl, hI, fun b h => h, fun b h => .inl h, fun b _ _ => rfl, rfl, rfl, rfl, Nat.le_refl _, fun i T es hi => (nomatch hi), ⟨0, fun _ => False, trivM _ _ _ _, fun b hf => hf.elim, fun _ _ _ _ _ _ _ _ hf => hf, fun i k h => (nomatch h)⟩, fun _ => rfl⟩
  have := (argSl_get (G := fun _ => none) (n := fn.ntmps - vs.toArray.size) args vs 0 rep t).resolve_right (by omega)
  simp only [Nat.sub_zero] at this
  have e : (vs ++ List.replicate (fn.ntmps - vs.toArray.size) undef).getD t undef = (vs.toArray ++ Array.replicate (fn.ntmps - vs.toArray.size) undef).getD t undef := by
   simp [Array.getD_eq_getD_getElem?, List.getD_eq_getElem?_getD, ← Array.getElem?_toList]
  rw [← e]
  exact this
 refine ev_sound rfl hP c (X := X) hW (by subst hX; exact envOK_no _ _) (fun i hi => by subst hX; exact (nomatch hi)) (by subst hX; exact Nat.le_refl _) (by subst hX; exact hc) (fun i _ => rfl) (Nat.le_refl _) m0 (fun _ => ⟨rfl, by subst hX; rfl⟩) (by subst hX; exact h) fun e a' w' s' G' I' m ok hn hK => ?_
 have main : resL tb s'.get s'.obj fn.results.toList (fun xs => match toDs (handL true s'.obj xs).1 with | some ds => R (oneD ds) | none => False) → bodyPostM Fence.wide 0 P fn (fun e w'' => ∃ v, e = .returned v ∧ ∃ I', RepD I' w''.heap r v ∧ (∀ b, I b → I' b) ∧ (∀ b, I' b → I b ∨ w.heap.size ≤ b) ∧ (∀ b, I' b → b < w''.heap.size) ∧ Below w.heap.size w w'') .ret a' w' := by
  intro hK
  refine leaves_of a'.defers rfl m (by rw [hX]; rfl) fun a'' w'' m et ed => ?_
  obtain ⟨xs, us, h1, h2, h3, h4⟩ := resL_run hP m _ hK
  split at h1
  ·rename_i ds hds
   have hz := handL_zok (cv := true) (o := s'.obj) xs
   have hrep := handL_rep (cv := true) hz m.objs (fun p hp => hp) h2
   rw [toDs_eq hds] at hrep
   have hrep := RepAL.of_d.1 hrep
   have m1 := m.freeze hz.frz
   subst hX
   refine ⟨_, run_results h4, _, rfl, _, ?_, m1.i0, fun b hb => ?_, m1.isz, ⟨m.os, m.tape, m.output, m.wsz, fun k hk => m.frame k hk (.inr ⟨fun h => h, fun ⟨i, gr, hi, _⟩ => (nomatch hi)⟩)⟩⟩
   ·exact hR _ h1 _ _ _ (oneD_rep hrep)
   ·rcases m1.inew b hb with h | h | ⟨i, gr, hi, _⟩ | h
    ·exact .inl h
    ·exact absurd h (fun h => h)
    ·exact (nomatch hi)
    ·exact .inr h
  ·exact h1.elim
 cases e with
 | ex i => exact hK.elim
 | pan v => exact hK.elim
 | nrm => exact main hK
 | ret => exact main hK
end
end Go.Ev


namespace Go.Ev
open RowKit
def bodyOf (fn : Func) : Code :=
 match fn.body with
 | some c => c
 | none => .skip
def fnB (fn : Func) (k : Nat) : Bool :=
 fn.body.isSome && !(fn.name == "runtime.NumGoroutine") && codeB fn.ntmps (bodyOf fn) && Nat.ble k fn.ntmps
theorem pure_of {P : Program} {tb : TB} (hP : PG P tb) {f : FuncId} {fn : Func} (hf : P.funcs[f]? = some fn) {args : List D} {r : D} (hk : fnB fn args.length = true)
  (h : ev tb (Con P tb 1000000 fun _ _ _ => False) 0 [] true (bodyOf fn) ⟨argSl 0 args, [], 0⟩ (fin tb fn.results.toList fun d => d = r)) : Pure P f args r := by
 simp only [fnB, Bool.and_eq_true, Bool.not_eq_true'] at hk
 obtain ⟨⟨⟨h1, h2⟩, h3⟩, h4⟩ := hk
 obtain ⟨c, hc⟩ := Option.isSome_iff_exists.1 h1
 have e : bodyOf fn = c := by unfold bodyOf; rw [hc]
 rw [e] at h h3
 exact pure_of_ev hP hf hc h2 h3 (Nat.le_of_ble_eq_true h4) h fun d hd _ _ _ hr => hd ▸ hr
theorem kT {b : Bool} {p q : Prop} (h : b = true) (x : p) : (b = true → p) ∧ (b = false → q) := ⟨fun _ => x, fun h' => nomatch h.symm.trans h'⟩
theorem kF {b : Bool} {p q : Prop} (h : b = false) (x : q) : (b = true → p) ∧ (b = false → q) := ⟨fun h' => (nomatch h.symm.trans h'), fun _ => x⟩
theorem kB {b : Bool} {p q : Prop} (x : b = true → p) (y : b = false → q) : (b = true → p) ∧ (b = false → q) := ⟨x, y⟩
theorem kA {b : Bool} {p q : Prop} (x : p) (h : b = true := by first | with_reducible rfl | with_reducible assumption | decide) : (b = true → p) ∧ (b = false → q) := kT h x
theorem kE {b : Bool} {p q : Prop} (x : q) (h : b = false := by first | with_reducible rfl | with_reducible assumption | decide) : (b = true → p) ∧ (b = false → q) := kF h x
abbrev dI (n : Int) : D := .v (.int .i64 n)
abbrev dB (b : Bool) : D := .v (.bool b)
abbrev dU (n : Int) : D := .v (.int .u8 n)
end Go.Ev


namespace Go.Ev
open RowKit
def argSlA : Nat → List A → List (Nat × A)
 | _, [] => []
 | k, d :: r => (k, d) :: argSlA (k + 1) r
def obSl : Nat → List Ob → List (Nat × Ob)
 | _, [] => []
 | k, d :: r => (k, d) :: obSl (k + 1) r
def roS (nb : Nat) : List Nat → St → (St → Prop) → Prop
 | [], s, K => K s
 | z :: r, s, K => match s.obj z with
  | some (.var _ T cs) => bif Nat.ble nb z then roS nb r ⟨s.sl, (z, .ro T cs) :: s.ob, s.n⟩ K else False
  | _ => False
def oneA : List A → A
 | [x] => x
 | xs => tupA xs
def finB (tb : TB) (nb : Nat) (rs : List ResultVar) (R : A → List (Nat × Ob) → Prop) (e : Ex) (s : St) : Prop :=
 match e with
 | .ex _ => False
 | .pan _ => False
 | _ => resL tb s.get s.obj rs fun xs => match handL true s.obj xs with
  | (as, frz) => s.app ⟨none, frz.map fun p => (p.1, .dead), [], 0, frz, []⟩ fun s => ∃ (zs os : List Nat), roS nb zs s fun s =>
   bif A.onlyL os as then gN s fun n => keep nb (List.range nb) [] os n s fun s => R (oneA as) s.ob else False
section
variable {tb : TB} {X : Ctx} {P : Program} {g : Nat → A} {o : Nat → Option Ob} {a : Act} {w : World} {G : Nat → Option GR} {I : Nat → Prop}
theorem Mod.toRo (m : Mod tb X g o a w G I) {z : Nat} {bulk : Bool} {T : TypeId} {cs : List A} (hz : o z = some (.var bulk T cs)) (hn : X.nb ≤ z) :
  ∃ I', Mod tb X g (updO o z (.ro T cs)) a w G I' ∧ ∀ b, I b → I' b := by
 obtain ⟨b, c, r1, r2, r3, r4⟩ := m.objs z _ hz
 obtain ⟨h1, h2, h3⟩ := m.own z _ _ b hz rfl r1 rfl
 have hI : ∀ b', I b' → (I b' ∨ b' = b) := fun _ h => .inl h
 refine ⟨fun b' => I b' ∨ b' = b, { m with slots := fun t => RepA.mono (fun _ _ h => h) hI (fun _ _ => rfl) _ _ (m.slots t), objs := ?_, dom := ?_, sep := ?_, own := ?_, isz := ?_, i0 := fun b' h => .inl (m.i0 b' h), inew := ?_, barr := ?_, env := ?_ }, hI⟩
 ·intro j oj hj
  by_cases e : z = j
  ·subst e; rw [updO_self] at hj; cases hj
   exact ⟨b, c, r1, .inr rfl, r2, RepAL.mono (fun _ _ h => h) hI (fun _ _ => rfl) _ _ r3, r4⟩
  ·rw [updO_ne e] at hj
   exact ObOK.mono (fun _ _ h => h) hI (fun _ _ => rfl) (fun _ _ _ _ _ => rfl) (m.objs j oj hj)
 ·intro j gr hg
  by_cases e : z = j
  ·subst e; rw [updO_self]; rfl
  ·rw [updO_ne e]; exact m.dom j gr hg
 ·intro i j oi oj gi gj b' hi hj hli hlj
  by_cases e : z = i
  ·subst e; rw [updO_self] at hi; cases hi; simp [Ob.live] at hli
  ·by_cases e' : z = j
   ·subst e'; rw [updO_self] at hj; cases hj; simp [Ob.live] at hlj
   ·rw [updO_ne e] at hi; rw [updO_ne e'] at hj
    exact m.sep i j oi oj gi gj b' hi hj hli hlj
 ·intro i oi gi b' hi hli hg hb
  by_cases e : z = i
  ·subst e; rw [updO_self] at hi; cases hi; simp [Ob.live] at hli
  ·rw [updO_ne e] at hi
   obtain ⟨q1, q2, q3⟩ := m.own i oi gi b' hi hli hg hb
   refine ⟨fun h => ?_, q2, q3⟩
   rcases h with h | h
   ·exact q1 h
   ·subst h; exact e (m.sep z i _ oi _ gi b' hz hi rfl hli r1 hg rfl hb)
 ·rintro b' (h | h)
  ·exact m.isz b' h
  ·subst h; exact h2
 ·rintro b' (h | h)
  ·exact m.inew b' h
  ·subst h
   rcases h3 with h3 | h3
   ·exact .inr (.inr (.inr h3))
   ·exact .inr (.inr (.inl h3))
 ·intro i T' es hi hba
  by_cases e : z = i
  ·subst e; rw [updO_self]; simp
  ·rw [updO_ne e]; exact m.barr i T' es hi hba
 ·obtain ⟨k, Ft, f1, f2, f3, f4⟩ := m.env
  refine ⟨k, Ft, f1.st (fun _ _ _ => rfl) (fun _ _ => rfl) hI (fun b' hf h => ?_) ?_ rfl rfl rfl (Nat.le_refl _), f2, fun j oj gj b' hj hlj hg hb => ?_, fun i k' hi => ?_⟩
  ·rcases h with h | h
   ·exact h
   ·subst h; exact absurd hf (f3 z _ _ b' hz rfl r1 rfl)
  ·rintro b' (h | h)
   ·exact m.isz b' h
   ·subst h; exact h2
  ·by_cases e' : z = j
   ·subst e'; rw [updO_self] at hj; cases hj; simp [Ob.live] at hlj
   ·rw [updO_ne e'] at hj; exact f3 j oj gj b' hj hlj hg hb
  ·by_cases e : z = i
   ·subst e; rw [updO_self] at hi; cases hi
   ·rw [updO_ne e] at hi; exact f4 i k' hi
theorem roS_sound : ∀ (zs : List Nat) {s : St} {K : St → Prop} {I : Nat → Prop}, Mod tb X s.get s.obj a w G I → s.ok → (∀ z ∈ zs, z < s.n ∨ True) → roS X.nb zs s K →
  ∃ s' I', K s' ∧ Mod tb X s'.get s'.obj a w G I' ∧ (∀ b, I b → I' b) ∧ s'.n = s.n
 | [], s, K, I, m, _, _, h => ⟨s, I, h, m, fun _ h => h, rfl⟩
 | z :: r, s, K, I, m, ok, _, h => by
  rw [roS] at h
  split at h
  ·rename_i bulk T cs hz
   cases hb : Nat.ble X.nb z with
   | false => rw [hb] at h; exact h.elim
   | true =>
    rw [hb, cond_true] at h
    obtain ⟨I1, m1, hI1⟩ := m.toRo hz (Nat.le_of_ble_eq_true hb)
    have ok' : St.ok ⟨s.sl, (z, .ro T cs) :: s.ob, s.n⟩ := fun i hi => by
     show lookO ((z, .ro T cs) :: s.ob) i = none
     have hi : s.n ≤ i := hi
     rw [lookO]
     by_cases e : z = i
     ·subst e; rw [ok z hi] at hz; cases hz
     ·rw [beq_ne e]; exact ok i hi
    obtain ⟨s', I', h1, h2, h3, h4⟩ := roS_sound r (s := ⟨s.sl, (z, .ro T cs) :: s.ob, s.n⟩) m1 ok' (fun _ _ => .inr trivial) h
    exact ⟨s', I', h1, h2, fun b hb => h3 b (hI1 b hb), h4⟩
  ·exact h.elim
theorem argSlA_get {n : Nat} : ∀ (args : List A) (vs : List Value) (k : Nat) {h : Array Obj}, RepAL G I h args vs → ∀ t, RepA G I h (lookA (argSlA k args) t) ((vs ++ List.replicate n undef).getD (t - k) undef) ∨ t < k
 | [], vs, k, h, r, t => by simp only [argSlA, lookA]; left; rw [RepA]; trivial
 | d :: r, vs, k, h, rr, t => by
  obtain ⟨v, q, rfl, r1, r2⟩ := rr.uncons
  simp only [argSlA, lookA]
  cases e : Nat.beq k t with
  | true =>
   have := Nat.eq_of_beq_eq_true e
   subst this
   left
   simp only [cond_true, Nat.sub_self]
   simpa using r1
  | false =>
   have hne := Nat.ne_of_beq_eq_false e
   rcases argSlA_get (n := n) r q (k + 1) r2 t with h1 | h1
   ·rcases Nat.lt_or_ge t k with h2 | h2
    ·exact .inr h2
    ·left
     simp only [cond_false]
     rw [show t - k = (t - (k + 1)) + 1 by omega]
     simpa using h1
   ·exact .inr (by omega)
theorem obSl_look : ∀ (pre : List Ob) (k i : Nat), lookO (obSl k pre) (k + i) = pre[i]?
 | [], k, i => by simp [obSl, lookO]
 | x :: r, k, i => by
  rw [obSl, lookO]
  cases i with
  | zero => simp
  | succ i =>
   rw [beq_ne (by omega), cond_false, show k + (i + 1) = k + 1 + i by omega, obSl_look r (k + 1) i]
   simp
theorem oneA_rep {h : Array Obj} {as : List A} {vs : List Value} (r : RepAL G I h as vs) : RepA G I h (oneA as) (if h : vs.toArray.size = 1 then vs.toArray[0] else .tuple vs.toArray) := by
 have tup : ∀ {as : List A} {vs : List Value}, RepAL G I h as vs → vs.length ≠ 1 → RepA G I h (tupA as) (if h : vs.toArray.size = 1 then vs.toArray[0] else .tuple vs.toArray) := by
  intro as vs r hne
  rw [dif_neg (by simpa using hne)]
  unfold tupA
  cases e : toDs as with
  | some ds =>
   simp only
   rw [toDs_eq e] at r
   rw [RepA, RepD]
   exact ⟨vs.toArray, rfl, by simpa using RepAL.of_d.1 r⟩
  | none =>
   simp only
   rw [RepA]
   exact ⟨vs.toArray, rfl, by simpa using r⟩
 match as, vs, r with
 | [], vs, r => exact tup r (by have := RepAL.length r; simp only [List.length_nil] at this; omega)
 | [x], vs, r =>
  obtain ⟨v, q, rfl, r1, r2⟩ := r.uncons
  rw [RepAL] at r2
  subst r2
  simpa [oneA] using r1
 | x :: y :: l, vs, r => exact tup r (by have := RepAL.length r; simp only [List.length_cons] at this; omega)
theorem bor_of (hP : PG P tb) {f : FuncId} {fn : Func} (hf : P.funcs[f]? = some fn) {args : List A} {pre : List Ob} {N : Nat} {r : A} {post : List (Nat × Ob)} (hk : fnB fn args.length = true)
  (h : fLit pre.length fun n => ev tb (Con P tb 1000000 fun _ _ _ => False) n (List.range n) true (bodyOf fn) ⟨argSlA 0 args, obSl 0 pre, n⟩ (finB tb n fn.results.toList fun x l => x = r ∧ l = post)) (hnd : noDead post 0 pre = true := by rfl) : Bor tb P f args pre N r post := by
 rw [fLit_eq] at h
 simp only [fnB, Bool.and_eq_true, Bool.not_eq_true'] at hk
 obtain ⟨⟨⟨q1, hn⟩, hc⟩, q4⟩ := hk
 obtain ⟨c, hb⟩ := Option.isSome_iff_exists.1 q1
 have e : bodyOf fn = c := by unfold bodyOf; rw [hb]
 rw [e] at h hc
 refine ⟨⟨fn, hf, hn, by rw [hb]; rfl⟩, fun w I G vs mp rep => ?_⟩
 rw [Ctx.callD_eq hnd]
 refine callsIn_wide.1 (callsIn_of_wp_marks (F := Fence.wide) (n := 0) hf hb trivial ?_)
 have hlen := RepAL.length rep
 have hl : args.length ≤ fn.ntmps := Nat.le_of_ble_eq_true q4
 obtain ⟨X, hX⟩ : ∃ X : Ctx, X = Ctx.call w I pre G fn.ntmps := ⟨_, rfl⟩
 have hW : Wide Fence.wide := ⟨fun _ => trivial, rfl, rfl⟩
 have hobj : St.obj ⟨argSlA 0 args, obSl 0 pre, pre.length⟩ = fun i => pre[i]? := by
  funext i
  have := obSl_look pre 0 i
  rw [Nat.zero_add] at this
  exact this
 have m0 : Mod tb X (St.get ⟨argSlA 0 args, obSl 0 pre, pre.length⟩) (St.obj ⟨argSlA 0 args, obSl 0 pre, pre.length⟩) { tmps := vs.toArray ++ Array.replicate (fn.ntmps - vs.toArray.size) undef, defers := [] } w G I := by
  rw [hobj]
  subst hX
  refine ⟨by simp [Ctx.call]; omega, fun t => ?_, mp.objs, mp.dom, mp.sep, mp.own, mp.bor, mp.isz, mp.i0, mp.inew, mp.frame, mp.os, mp.tape, mp.output, mp.wsz, mp.barr, mp.env, fun _ => rfl⟩
  have := (argSlA_get (G := G) (n := fn.ntmps - vs.toArray.size) args vs 0 rep t).resolve_right (by omega)
  simp only [Nat.sub_zero] at this
  have e : (vs ++ List.replicate (fn.ntmps - vs.toArray.size) undef).getD t undef = (vs.toArray ++ Array.replicate (fn.ntmps - vs.toArray.size) undef).getD t undef := by
   simp [Array.getD_eq_getD_getElem?, List.getD_eq_getElem?_getD, ← Array.getElem?_toList]
  rw [← e]
  exact this
 have ok0 : St.ok ⟨argSlA 0 args, obSl 0 pre, pre.length⟩ := fun i hi => by
  rw [hobj]
  exact List.getElem?_eq_none hi
 refine ev_sound rfl hP c (X := X) hW (by subst hX; exact envOK_no _ _) (fun i hi _ => by subst hX; exact List.mem_range.2 hi) (by subst hX; exact Nat.le_refl _) (by subst hX; exact hc) ok0 (Nat.le_refl _) m0 (fun _ => ⟨rfl, by subst hX; rfl⟩) (by subst hX; exact h) fun e a' w' s' G' I' m ok hn hK => ?_
 have main : resL tb s'.get s'.obj fn.results.toList (fun xs => match handL true s'.obj xs with
   | (as, frz) => s'.app ⟨none, frz.map fun p => (p.1, .dead), [], 0, frz, []⟩ fun s => ∃ (zs os : List Nat), roS pre.length zs s fun s => bif A.onlyL os as then gN s fun n => keep pre.length (List.range pre.length) [] os n s fun s => oneA as = r ∧ s.ob = post else False) →
   bodyPostM Fence.wide 0 P fn (fun e w'' => ∃ v, e = .returned v ∧ ∃ G' I', Mod tb (Ctx.call w I pre G 0) noG (lookO post) noAct w'' G' I' ∧ RepA G' I' w''.heap r v) .ret a' w' := by
  intro hK
  refine leaves_of a'.defers rfl m (by rw [hX]; rfl) fun a'' w'' m et ed => ?_
  obtain ⟨xs, us, h1, h2, h3, h4⟩ := resL_run hP m _ hK
  obtain ⟨as, frz, hh⟩ : ∃ as frz, handL true s'.obj xs = (as, frz) := ⟨_, _, rfl⟩
  rw [hh] at h1
  simp only at h1
  have hz := handL_zok (cv := true) (o := s'.obj) xs
  have hrep := handL_rep (cv := true) hz m.objs (fun p hp => hp) h2
  rw [hh] at hrep hz
  simp only at hrep hz
  have m1 := m.freeze hz.frz
  obtain ⟨s1, e1, e2, e3, h1, _⟩ := St.app_iff h1
  have eo : s1.obj = frzObs s'.obj frz := by
   rw [e2]
   have := appO_call (o := s'.obj) (slot := none) (z := frz)
   rw [← this]
   rfl
  have eg : s1.get = fun t => frzA frz (s'.get t) := by
   rw [e1]
   funext t
   have := trA_call (slot := none) (z := frz) (obs := frz.map fun p => (p.1, Ob.dead)) (rd := []) (k := 0)
   simp only [appG, this]
  rw [← eo, ← eg] at m1
  obtain ⟨zs, os, h1⟩ := h1
  have ok1 : s1.ok := fun i hi => by
   have h0 := ok i (by rw [e3] at hi; exact Nat.le_trans (Nat.le_add_right _ _) hi)
   rw [eo]
   unfold frzObs
   cases e : lookD frz i with
   | some d => obtain ⟨T, es, q, _⟩ := hz.frz _ _ e; rw [h0] at q; cases q
   | none => simp only [h0]; rfl
  subst hX
  obtain ⟨s2, I2, h1, m2, hI2, hn2⟩ := roS_sound (X := Ctx.call w I pre G fn.ntmps) zs m1 ok1 (fun _ _ => .inr trivial) h1
  cases hon : A.onlyL os as with
  | false => rw [hon] at h1; exact h1.elim
  | true =>
   rw [hon, cond_true] at h1
   rw [gN_eq] at h1
   obtain ⟨s3, ⟨hr, hp⟩, _, _, _, _, _, _, _, G3, m3, hG3⟩ := keep_sound (X := Ctx.call w I pre G fn.ntmps) (fun i hi _ => List.mem_range.2 hi) m2 h1
   refine ⟨_, run_results h4, _, rfl, G3, I2, ?_, ?_⟩
   ·have e5 : s3.obj = lookO post := by rw [← hp]; rfl
    rw [e5] at m3
    have menv := m3.env
    rw [ed] at menv
    exact ⟨rfl, fun t => by rw [RepA]; trivial, m3.objs, m3.dom, m3.sep, m3.own, m3.bor, m3.isz, m3.i0, m3.inew, m3.frame, m3.os, m3.tape, m3.output, m3.wsz, m3.barr, menv, fun _ => rfl⟩
   ·rw [← hr]
    have hrep := RepAL.mono (fun _ _ h => h) hI2 (fun _ _ => rfl) _ _ hrep
    exact oneA_rep (RepAL.only hG3 _ _ hon hrep)
 cases e with
 | ex i => exact hK.elim
 | pan v => exact hK.elim
 | nrm => exact main hK
 | ret => exact main hK
end
end Go.Ev


namespace Go.Ev
theorem wrapI {n : Int} (h1 : -9223372036854775808 ≤ n) (h2 : n < 9223372036854775808) : IntKind.i64.wrap n = n := by
 simp [IntKind.wrap, IntKind.signed, IntKind.bits]
 omega
end Go.Ev


namespace Go.Ev
open RowKit
def finI (tb : TB) (nb : Nat) (rs : List ResultVar) (post : List (Nat × Ob)) (e : Ex) (s : St) : Prop :=
 match e with
 | .ex _ => False
 | .pan _ => False
 | _ => resL tb s.get s.obj rs fun _ => ∃ os : List Nat, gN s fun n => keep nb (List.range nb) [] os n s fun s => s.ob = post
section
variable {tb : TB} {P : Program}
theorem iter_of (hP : PG P tb) {f : FuncId} {fn : Func} (hf : P.funcs[f]? = some fn) {args : List A} {pre : List Ob} {elems : List (List D)} {t : Nat} {post : List (Nat × Ob)} (hk : fnB fn args.length = true)
  (h : fLit pre.length fun n => ev tb (Con P tb 1000000 (Yt elems t)) (n + 1) (List.range (n + 1)) true (bodyOf fn) ⟨argSlA 0 args, obSl 0 (.env 0 :: pre), n + 1⟩ (finI tb (n + 1) fn.results.toList ((0, .env (min (t + 1) elems.length)) :: post))) : Iter tb P f args pre elems t post := by
 rw [fLit_eq] at h
 simp only [fnB, Bool.and_eq_true, Bool.not_eq_true'] at hk
 obtain ⟨⟨⟨q1, hn⟩, hc⟩, q4⟩ := hk
 obtain ⟨c, hb⟩ := Option.isSome_iff_exists.1 q1
 have e : bodyOf fn = c := by unfold bodyOf; rw [hb]
 rw [e] at h hc
 refine ⟨⟨fn, hf, hn, by rw [hb]; rfl⟩, fun E lent hE w I G vs mp rep => callsIn_wide.1 (callsIn_of_wp_marks (F := Fence.wide) (n := 0) hf hb trivial ?_)⟩
 have hlen := RepAL.length rep
 have hl : args.length ≤ fn.ntmps := Nat.le_of_ble_eq_true q4
 obtain ⟨X, hX⟩ : ∃ X : Ctx, X = Ctx.iter w I (.env 0 :: pre) G fn.ntmps E lent := ⟨_, rfl⟩
 have hW : Wide Fence.wide := ⟨fun _ => trivial, rfl, rfl⟩
 have hbase : X.E.base = [] := by
  obtain ⟨k, Ft, ⟨ds, F1, e1, _⟩, _⟩ := mp.env
  rw [hX]
  exact (List.append_eq_nil_iff.1 e1.symm).2
 have hobj : St.obj ⟨argSlA 0 args, obSl 0 (.env 0 :: pre), pre.length + 1⟩ = fun i => (Ob.env 0 :: pre)[i]? := by
  funext i
  have := obSl_look (.env 0 :: pre) 0 i
  rw [Nat.zero_add] at this
  exact this
 have m0 : Mod tb X (St.get ⟨argSlA 0 args, obSl 0 (.env 0 :: pre), pre.length + 1⟩) (St.obj ⟨argSlA 0 args, obSl 0 (.env 0 :: pre), pre.length + 1⟩) { tmps := vs.toArray ++ Array.replicate (fn.ntmps - vs.toArray.size) undef, defers := [] } w G I := by
  rw [hobj]
  subst hX
  refine ⟨by simp [Ctx.iter]; omega, fun t => ?_, mp.objs, mp.dom, mp.sep, mp.own, mp.bor, mp.isz, mp.i0, mp.inew, mp.frame, mp.os, mp.tape, mp.output, mp.wsz, mp.barr, mp.env, fun _ => rfl⟩
  have := (argSlA_get (G := G) (n := fn.ntmps - vs.toArray.size) args vs 0 rep t).resolve_right (by omega)
  simp only [Nat.sub_zero] at this
  have e : (vs ++ List.replicate (fn.ntmps - vs.toArray.size) undef).getD t undef = (vs.toArray ++ Array.replicate (fn.ntmps - vs.toArray.size) undef).getD t undef := by
   simp [Array.getD_eq_getD_getElem?, List.getD_eq_getElem?_getD, ← Array.getElem?_toList]
  rw [← e]
  exact this
 have ok0 : St.ok ⟨argSlA 0 args, obSl 0 (.env 0 :: pre), pre.length + 1⟩ := fun i hi => by
  rw [hobj]
  exact List.getElem?_eq_none (by simpa using hi)
 refine ev_sound rfl hP c (X := X) hW (by subst hX; exact hE) (fun i hi _ => by subst hX; exact List.mem_range.2 hi) (by subst hX; exact Nat.le_refl _) (by subst hX; exact hc) ok0 (Nat.le_refl _) m0 (fun _ => ⟨rfl, by subst hX; rfl⟩) (by subst hX; exact h) fun e a' w' s' G' I' m ok hn hK => ?_
 have main : resL tb s'.get s'.obj fn.results.toList (fun _ => ∃ os : List Nat, gN s' fun n => keep (pre.length + 1) (List.range (pre.length + 1)) [] os n s' fun s => s.ob = (0, .env (min (t + 1) elems.length)) :: post) →
   bodyPostM Fence.wide 0 P fn (fun e w'' => ∃ v, e = .returned v ∧ ∃ G' I', Mod tb (Ctx.iter w I (.env 0 :: pre) G 0 E lent) noG (lookO ((0, .env (min (t + 1) elems.length)) :: post)) noAct w'' G' I') .ret a' w' := by
  intro hK
  refine leaves_of a'.defers rfl m hbase fun a'' w'' m et ed => ?_
  obtain ⟨xs, us, h1, h2, h3, h4⟩ := resL_run hP m _ hK
  obtain ⟨os, h1⟩ := h1
  rw [gN_eq] at h1
  subst hX
  obtain ⟨s3, hp, _, _, _, _, _, _, _, G3, m3, hG3⟩ := keep_sound (X := Ctx.iter w I (.env 0 :: pre) G fn.ntmps E lent) (fun i hi _ => List.mem_range.2 hi) m h1
  refine ⟨_, run_results h4, _, rfl, G3, I', ?_⟩
  have e5 : s3.obj = lookO ((0, .env (min (t + 1) elems.length)) :: post) := by rw [← hp]; rfl
  rw [e5] at m3
  have menv := m3.env
  rw [ed] at menv
  exact ⟨rfl, fun t => by rw [RepA]; trivial, m3.objs, m3.dom, m3.sep, m3.own, m3.bor, m3.isz, m3.i0, m3.inew, m3.frame, m3.os, m3.tape, m3.output, m3.wsz, m3.barr, menv, fun _ => rfl⟩
 cases e with
 | ex i => exact hK.elim
 | pan v => exact hK.elim
 | nrm => exact main hK
 | ret => exact main hK
end
end Go.Ev


namespace Go.Ev
open RowKit
end Go.Ev


namespace Go.Ev
open RowKit WideShapes ChangeShapes
def goodT (tb : TB) : Nat → TypeId → Bool
 | 0, _ => false
 | n + 1, t => match tb t with
  | some ⟨.bool, _, _, _, _⟩ | some ⟨.int _, _, _, _, _⟩ | some ⟨.str, _, _, _, _⟩ => true
  | some ⟨.slice e, _, _, _, _⟩ => (match tb e with | some y => Nat.blt 0 y.size | none => false) && goodT tb n e
  | some ⟨.struct fs, sz, _, _, _⟩ => goodF tb (goodT tb n) sz 0 fs
  | some ⟨.arr m e, sz, _, _, _⟩ => (match tb e with | some y => Nat.beq sz (m * y.size) | none => false) && goodT tb n e
  | _ => false
where
 goodF (tb : TB) (r : TypeId → Bool) (sz : Nat) : Nat → List (Nat × TypeId) → Bool
  | k, [] => Nat.beq k sz
  | k, (off, t) :: fs => Nat.beq off k && r t && (match tb t with | some y => goodF tb r sz (k + y.size) fs | none => false)
def OkF (r : TypeId → List D → Prop) : List (Nat × TypeId) → List D → Prop
 | [], ds => ds = []
 | (_, t) :: fs, ds => ∃ d1 d2, ds = d1 ++ d2 ∧ r t d1 ∧ OkF r fs d2
def OkN (r : List D → Prop) : Nat → List D → Prop
 | 0, ds => ds = []
 | m + 1, ds => ∃ d1 d2, ds = d1 ++ d2 ∧ r d1 ∧ OkN r m d2
def OkD (tb : TB) : Nat → TypeId → List D → Prop
 | 0, _, _ => False
 | n + 1, t, ds => match tb t with
  | some ⟨.bool, _, _, _, _⟩ => ∃ b, ds = [.v (.bool b)]
  | some ⟨.int k, _, _, _, _⟩ => ∃ i, ds = [.v (.int k i)] ∧ (Lit.int k i).wf = true
  | some ⟨.str, _, _, _, _⟩ => ∃ s : ByteArray, ds = [.v (.string s)] ∧ s.size ≤ maxLen
  | some ⟨.slice e, _, _, _, _⟩ => ∃ es, ds = [.seq es] ∧ es.length ≤ maxLen ∧ ∀ el ∈ es, OkD tb n e el
  | some ⟨.struct fs, _, _, _, _⟩ => OkF (OkD tb n) fs ds
  | some ⟨.arr m e, _, _, _, _⟩ => OkN (OkD tb n e) m ds
  | _ => False
section
variable {H : Type} {enc : TypeId × Value → H} {P : Program} {tb : TB} {W : World}
abbrev old (W : World) : Nat → Prop := fun b => b < W.heap.size
theorem TyOK.cells {t : TypeId} {y : Ty} (h : TyOK P t y) : P.cellsOf t = y.size := by
 obtain ⟨i, z, h1, h2, _⟩ := h.info
 simp [Program.cellsOf, h1, h2]
theorem repR_of {I : Nat → Prop} {h : Array Obj} {sz : Nat} : ∀ (es : List (List D)) (vs : List Value), (∀ i el, es[i]? = some el → el.length = sz ∧ RepL I h el ((vs.drop (i * sz)).take sz) ∧ ∀ v ∈ (vs.drop (i * sz)).take sz, v.oneCell' = true) → RepR I h sz es vs
 | [], vs, _ => by rw [RepR]; trivial
 | el :: es, vs, hh => by
  rw [RepR]
  obtain ⟨h1, h2, h3⟩ := hh 0 el rfl
  rw [Nat.zero_mul, List.drop_zero] at h2 h3
  refine ⟨h1, h2, h3, repR_of es (vs.drop sz) fun i el' hi => ?_⟩
  have := hh (i + 1) el' hi
  rw [List.drop_drop, show sz + i * sz = (i + 1) * sz by rw [Nat.add_mul]; omega]
  exact this
theorem trod_okD (hP : PG P tb) : ∀ (n : Nat) (t : TypeId) (cs : List Value) (x : DataW H × List MemPlace) (fuel : Nat), goodT tb n t = true → DataW.trod enc P W 0 (fun _ => true) true fuel t cs = some x →
  ∃ ds, RepL (old W) W.heap ds cs ∧ OkD tb n t ds ∧ ∀ v ∈ cs, v.oneCell' = true := by
 intro n
 induction n with
 | zero => intro t cs x fuel hg; cases hg
 | succ n ih =>
  intro t cs x fuel hg h
  unfold goodT at hg
  split at hg
  ·rename_i sz by' z f ht
   obtain ⟨b, rfl, _⟩ := DataW.trod_bool (hP.ty t _ ht).kind h
   simp only [OkD, ht]
   exact ⟨[.v (.bool b)], RepL.cons (by rw [RepD]) RepL.nil, ⟨b, rfl⟩, by simp [Value.oneCell']⟩
  ·rename_i k sz by' z f ht
   obtain ⟨b, rfl, _, hw⟩ := DataW.trod_int (hP.ty t _ ht).kind h
   simp only [OkD, ht]
   exact ⟨[.v (.int k b)], RepL.cons (by rw [RepD]) RepL.nil, ⟨b, rfl, hw⟩, by simp [Value.oneCell']⟩
  ·rename_i sz by' z f ht
   obtain ⟨b, rfl, _, hw⟩ := DataW.trod_string (hP.ty t _ ht).kind h
   simp only [OkD, ht]
   exact ⟨[.v (.string b)], RepL.cons (by rw [RepD]) RepL.nil, ⟨b, rfl, hw⟩, by simp [Value.oneCell']⟩
  ·rename_i e sz by' z f ht
   simp only [OkD, ht]
   rw [Bool.and_eq_true] at hg
   obtain ⟨hg1, hg2⟩ := hg
   split at hg1
   ·rename_i y hy
    have hys := (hP.ty e _ hy).cells
    have hpos : 0 < y.size := by simpa using hg1
    rcases DataW.trod_slice (hP.ty t _ ht).kind h with ⟨rfl, _⟩ | ⟨a, len, cap, elems, rest, m, _, rfl, _, hb, hlc, hcap, hel, hat, _, _⟩
    ·refine ⟨[.seq []], RepL.cons (by rw [RepD]; exact ⟨none, 0, 0, rfl, rfl, Nat.le_refl _, .inl rfl⟩) RepL.nil, ⟨[], rfl, Nat.zero_le _, fun _ h => (by cases h)⟩, by simp [Value.oneCell']⟩
    ·rw [hys] at hat
     have each : ∀ i, ∃ ds, i < len → ∃ cs, W.cells? 0 (a.add (i * y.size)) y.size = some cs ∧ RepL (old W) W.heap ds cs ∧ OkD tb n e ds ∧ ∀ v ∈ cs, v.oneCell' = true := by
      intro i
      by_cases hi : i < len
      ·have h1 := hat i hi
       have h2 : ∃ z, elems[i]? = some z := ⟨elems[i]'(by omega), List.getElem?_eq_getElem (by omega)⟩
       obtain ⟨z, hz⟩ := h2
       rw [hz, Option.bind_eq_some_iff] at h1
       obtain ⟨cs, h3, h4⟩ := h1
       obtain ⟨ds, h5, h6, h7⟩ := ih e cs z m hg2 h4
       exact ⟨ds, fun _ => ⟨cs, h3, h5, h6, h7⟩⟩
      ·exact ⟨[], fun h => absurd h hi⟩
     obtain ⟨f, hf⟩ := Classical.axiomOfChoice each
     have hlen : ((List.range len).map f).length = len := by simp
     refine ⟨[.seq ((List.range len).map f)], RepL.cons ?_ RepL.nil, ⟨_, rfl, by rw [hlen]; omega, fun el he => ?_⟩, by simp [Value.oneCell']⟩
     ·rw [RepD]
      refine ⟨some a, len, cap, rfl, hlen, hlc, ?_⟩
      rcases Nat.eq_zero_or_pos len with h0 | h0
      ·exact .inl h0
      ·right
       obtain ⟨cs0, g1, _⟩ := hf 0 h0
       obtain ⟨_, g2, g3⟩ := World.cells?_some g1
       have g4 := g3 0 hpos
       obtain ⟨v0, hv0⟩ : ∃ v0, cs0[0]? = some v0 := ⟨cs0[0]'(by omega), List.getElem?_eq_getElem (by omega)⟩
       rw [hv0, Nat.zero_mul] at g4
       have g4 : W.cell? a = some v0 := by simpa [Addr.add] using g4
       obtain ⟨b, off, spot⟩ := a
       have hsp : spot = none := by simpa using World.cell?_spot g4
       subst hsp
       obtain ⟨c, T, fr, hc⟩ : ∃ c T fr, W.heap[b]? = some (.cells c T fr) := by
        unfold World.cell? at g4
        split at g4
        ·rename_i c T fr hc; exact ⟨c, T, fr, hc⟩
        ·cases g4
       refine ⟨y.size, b, off, c, T, fr, rfl, (Array.getElem?_eq_some_iff.1 hc).1, hc, repR_of _ _ fun i el hi => ?_⟩
       have hil : i < len := by
        have := (List.getElem?_eq_some_iff.1 hi).1
        rwa [hlen] at this
       have hfi : el = f i := by
        rw [List.getElem?_map, List.getElem?_range hil] at hi
        simpa using hi.symm
       subst hfi
       obtain ⟨cs, q1, q2, q3, q4⟩ := hf i hil
       obtain ⟨_, q5, q6⟩ := World.cells?_some q1
       have e2 : ((c.toList.drop off).drop (i * y.size)).take y.size = cs := by
        refine List.ext_getElem? fun j => ?_
        rw [List.getElem?_take]
        split
        ·rename_i hj
         have := q6 j hj
         rw [addr_add, addr_add, cell_at hc] at this
         rw [List.getElem?_drop, List.getElem?_drop, Array.getElem?_toList, ← this, Nat.add_assoc]
        ·rename_i hj
         exact (List.getElem?_eq_none (by omega)).symm
       rw [e2]
       exact ⟨by rw [← RepL.length q2, q5], q2, q4⟩
     ·obtain ⟨i, hi, rfl⟩ := List.mem_map.1 he
      obtain ⟨cs, _, _, q, _⟩ := hf i (List.mem_range.1 hi)
      exact q
   ·cases hg1
  ·rename_i fs sz by' z f ht
   simp only [OkD, ht]
   have hT := hP.ty t _ ht
   have hc := hT.cells
   obtain ⟨fields, hu, hfs⟩ := hT.kind
   obtain ⟨xs, m, _, _, hl, hxl, hat⟩ := DataW.trod_struct hu h
   rw [hc] at hl
   have key : ∀ (fs' : List (Nat × TypeId)) (j k : Nat), (∀ i p, fs'[i]? = some p → ∃ fld, fields[j + i]? = some fld ∧ fld.offset = p.1 ∧ fld.type = p.2) → goodT.goodF tb (goodT tb n) sz k fs' = true →
     ∃ ds, RepL (old W) W.heap ds (cs.drop k) ∧ OkF (OkD tb n) fs' ds ∧ ∀ v ∈ cs.drop k, v.oneCell' = true := by
    intro fs'
    induction fs' with
    | nil =>
     intro j k _ hg
     have hk : k = sz := by simpa [goodT.goodF] using hg
     have hd : cs.drop k = [] := List.drop_of_length_le (by rw [hl, hk]; exact Nat.le_refl _)
     rw [hd]
     exact ⟨[], RepL.nil, rfl, fun v hv => by cases hv⟩
    | cons p fs' ihf =>
     obtain ⟨off, ft⟩ := p
     intro j k hfl hg
     simp only [goodT.goodF, Bool.and_eq_true, Nat.beq_eq] at hg
     obtain ⟨⟨rfl, hg2⟩, hg3⟩ := hg
     obtain ⟨fld, r1, r2, r3⟩ := hfl 0 _ rfl
     rw [Nat.add_zero] at r1
     simp only at r2 r3
     split at hg3
     ·rename_i y hy
      have hj : j < fields.size := (Array.getElem?_eq_some_iff.1 r1).1
      obtain ⟨z, hz⟩ : ∃ z, xs[j]? = some z := ⟨xs[j]'(by omega), List.getElem?_eq_getElem (by omega)⟩
      have h2 := hat j fld r1
      rw [hz, r2, r3, (hP.ty ft _ hy).cells] at h2
      obtain ⟨d1, p1, p2, p3⟩ := ih ft _ z m hg2 h2
      obtain ⟨d2, p4, p5, p6⟩ := ihf (j + 1) (off + y.size) (fun i p hp => by
       have := hfl (i + 1) p hp
       rwa [show j + (i + 1) = j + 1 + i by omega] at this) hg3
      have e : cs.drop off = (cs.drop off).take y.size ++ cs.drop (off + y.size) := by rw [← List.drop_drop, List.take_append_drop]
      rw [e]
      exact ⟨d1 ++ d2, RepL.append p1 p4, ⟨d1, d2, rfl, p2, p5⟩, fun v hv => (List.mem_append.1 hv).elim (p3 v) (p6 v)⟩
     ·cases hg3
   have := key fs 0 0 (fun i p hp => by
    rw [← hfs, List.getElem?_map] at hp
    obtain ⟨fld, q1, q2⟩ := Option.map_eq_some_iff.1 hp
    refine ⟨fld, by rw [Nat.zero_add, ← Array.getElem?_toList]; exact q1, ?_, ?_⟩ <;> rw [← q2]) hg
   rwa [List.drop_zero] at this
  ·rename_i m' e sz by' z f ht
   simp only [OkD, ht]
   have hT := hP.ty t _ ht
   have hc := hT.cells
   rw [Bool.and_eq_true] at hg
   obtain ⟨hg1, hg2⟩ := hg
   split at hg1
   ·rename_i y hy
    have hsz : sz = m' * y.size := by simpa using hg1
    obtain ⟨xs, m, _, _, hl, hxl, hat⟩ := DataW.trod_array hT.kind h
    rw [hc, hsz] at hl
    rw [(hP.ty e _ hy).cells] at hat
    have key : ∀ (q k : Nat), k + q = m' → ∃ ds, RepL (old W) W.heap ds (cs.drop (k * y.size)) ∧ OkN (OkD tb n e) q ds ∧ ∀ v ∈ cs.drop (k * y.size), v.oneCell' = true := by
     intro q
     induction q with
     | zero =>
      intro k hk
      have hd : cs.drop (k * y.size) = [] := List.drop_of_length_le (by rw [hl, ← hk]; exact Nat.le_refl _)
      rw [hd]
      exact ⟨[], RepL.nil, rfl, fun v hv => by cases hv⟩
     | succ q ihq =>
      intro k hk
      obtain ⟨z, hz⟩ : ∃ z, xs[k]? = some z := ⟨xs[k]'(by omega), List.getElem?_eq_getElem (by omega)⟩
      have h2 := hat k (by omega)
      rw [hz] at h2
      obtain ⟨d1, p1, p2, p3⟩ := ih e _ z m hg2 h2
      obtain ⟨d2, p4, p5, p6⟩ := ihq (k + 1) (by omega)
      have e : cs.drop (k * y.size) = (cs.drop (k * y.size)).take y.size ++ cs.drop ((k + 1) * y.size) := by
       rw [show (k + 1) * y.size = k * y.size + y.size by rw [Nat.add_mul]; omega, ← List.drop_drop, List.take_append_drop]
      rw [e]
      exact ⟨d1 ++ d2, RepL.append p1 p4, ⟨d1, d2, rfl, p2, p5⟩, fun v hv => (List.mem_append.1 hv).elim (p3 v) (p6 v)⟩
    have := key m' 0 (by omega)
    rwa [Nat.zero_mul, List.drop_zero] at this
   ·cases hg1
  ·cases hg
def oneOf (agg : Bool) (ds : List D) : D :=
 bif agg then .agg ds else match ds with
  | d :: _ => d
  | [] => .v undef
def OkV (tb : TB) (n : Nat) (t : TypeId) (d : D) : Prop := ∃ y ds, tb t = some y ∧ OkD tb n t ds ∧ d = oneOf y.k.agg ds
def OkA (tb : TB) (n : Nat) : List TypeId → List D → Prop
 | [], args => args = []
 | t :: ts, args => ∃ d r, args = d :: r ∧ OkV tb n t d ∧ OkA tb n ts r
theorem goodT_tb {n : Nat} {t : TypeId} (h : goodT tb n t = true) : ∃ y, tb t = some y := by
 cases n with
 | zero => cases h
 | succ n =>
  unfold goodT at h
  cases e : tb t with
  | none => rw [e] at h; cases h
  | some y => exact ⟨y, rfl⟩
theorem arg_rep (hP : PG P tb) {n : Nat} {t : TypeId} {v : Value} {d : DataW H} {ps : List MemPlace} {r : Reach} {b0 : Nat} (hg : goodT tb n t = true) (hv : Value.okWide P W r b0 t v)
  (h : DataW.Trod enc P W 0 (fun _ => true) true t v d ps) : ∃ x, OkV tb n t x ∧ RepD (old W) W.heap x v := by
 obtain ⟨fuel, h⟩ := h
 obtain ⟨y, hy⟩ := goodT_tb hg
 obtain ⟨ds, h1, h2, h3⟩ := trod_okD hP n t _ _ fuel hg h
 have hT := hP.ty t y hy
 refine ⟨_, ⟨y, ds, hy, h2, rfl⟩, ?_⟩
 have hk := hT.kind
 have scal : v.oneCell' = true → y.k.agg = false → RepD (old W) W.heap (oneOf y.k.agg ds) v := by
  intro ho ha
  rw [one_cells ho] at h1
  cases ds with
  | nil => rw [RepL] at h1; cases h1
  | cons d r =>
   obtain ⟨v', q, e, r1, _⟩ := h1.uncons
   cases e
   rw [ha]
   exact r1
 have agg : (∃ cs, v = .agg cs) → y.k.agg = true → RepD (old W) W.heap (oneOf y.k.agg ds) v := by
  rintro ⟨cs, rfl⟩ ha
  rw [ha]
  show RepD _ _ (.agg ds) _
  rw [RepD]
  exact ⟨cs, rfl, h1⟩
 cases n with
 | zero => cases hg
 | succ n =>
  unfold goodT at hg
  rw [hy] at hg
  obtain ⟨k, sz, by', z, fl⟩ := y
  cases k with
  | int k => obtain ⟨i, rfl⟩ := okWide_int hk hv; exact scal rfl rfl
  | bool => obtain ⟨i, rfl⟩ := okWide_bool hk hv; exact scal rfl rfl
  | str => obtain ⟨i, rfl⟩ := okWide_string hk hv; exact scal rfl rfl
  | slice e => obtain ⟨a, l, c, rfl⟩ := okWide_slice hk hv; exact scal rfl rfl
  | struct fs =>
   obtain ⟨fields, hu, _⟩ := hk
   obtain ⟨cs, rfl, _⟩ := okWide_struct hu hv
   exact agg ⟨cs, rfl⟩ rfl
  | arr m e =>
   have hu : P.underlying t = some (.array m e) := hk
   unfold Value.okWide at hv
   rw [hu] at hv
   obtain ⟨cs, rfl, _⟩ := hv
   exact agg ⟨cs, rfl⟩ rfl
  | _ => cases hg
theorem args_rep (hP : PG P tb) {n : Nat} {r : Reach} {b0 : Nat} : ∀ {ts : List TypeId} {vs : List Value} {ds : List (DataW H)} {ps : List MemPlace}, (∀ t ∈ ts, goodT tb n t = true) → (∀ (j : Nat) t v, ts[j]? = some t → vs[j]? = some v → Value.okWide P W r b0 t v) →
  DataW.TrodAll enc P W 0 (fun _ => true) true ts vs ds ps → ∃ xs, OkA tb n ts xs ∧ RepL (old W) W.heap xs vs
 | [], vs, ds, ps, _, _, h => by
  obtain ⟨rfl, _, _⟩ := trodAll_nil h
  exact ⟨[], rfl, RepL.nil⟩
 | t :: ts, vs, ds, ps, hg, hv, h => by
  obtain ⟨v, vs', d, ds', p, q, rfl, rfl, rfl, h1, h2⟩ := trodAll_cons h
  obtain ⟨x, q1, q2⟩ := arg_rep hP (hg t (by simp)) (hv 0 t v rfl rfl) h1
  obtain ⟨xs, q3, q4⟩ := args_rep hP (fun t ht => hg t (by simp [ht])) (fun j t v h1 h2 => hv (j + 1) t v h1 h2) h2
  exact ⟨x :: xs, ⟨x, xs, rfl, q1, q3⟩, RepL.cons q2 q4⟩
theorem args_stay (hl : laidOutB P = true) {W' : World} (hb : Below W.heap.size W W') {sp : Nat → Bool} : ∀ {ts : List TypeId} {vs : List Value} {ds : List (DataW H)} {ps : List MemPlace}, (∀ t ∈ ts, P.readableRec t = true ∧ t < P.types.size) →
  DataW.TrodAll enc P W 0 (fun _ => true) true ts vs ds ps → (∀ p ∈ ps, sp p.block = true) → DataW.TrodAll enc P W' 0 sp true ts vs ds ps
 | [], vs, ds, ps, _, h, _ => by
  obtain ⟨rfl, rfl, rfl⟩ := trodAll_nil h
  exact rfl
 | t :: ts, vs, ds, ps, hr, h, hs => by
  obtain ⟨v, vs', d, ds', p, q, rfl, rfl, rfl, h1, h2⟩ := trodAll_cons h
  have hlt : ∀ x ∈ p, x.block < W.heap.size := by
   obtain ⟨n, hn⟩ := h1
   exact DataW.trod_lt n _ _ _ hn
  exact trodAll_cons_mk (WideElems.Trod_stays hl (hr t (by simp)).1 (hr t (by simp)).2 h1 (fun x hx => hb.same (hlt x hx)) (fun x hx => hs x (by simp [hx]))) (args_stay hl hb (fun t ht => hr t (by simp [ht])) h2 (fun x hx => hs x (by simp [hx])))
theorem post_of_below {f : Func} {s : ChangeSpec} {apart fresh handsOn again : Bool} {W' : World} {args : Array Value} {v : Value} {ds gs : List (DataW H)} {before pa pv : List MemPlace}
  (hW : DataW.Whole enc P f.params.toList s.vars apart W args.toList ds gs before)
  (hres : ∀ (b : Nat) (sp : Nat → Bool) (hd : Bool), DataW.TrodAll enc P W' b sp hd f.resultTypes.toList (v.resultList f.resultTypes.size) (s.fn H (ds ++ gs)).results [])
  (hargs : ∀ sp : Nat → Bool, (∀ p ∈ before, sp p.block = true) → DataW.TrodAll enc P W' 0 sp true f.params.toList args.toList (s.fn H (ds ++ gs)).args pa)
  (hvars : ∀ sp : Nat → Bool, (∀ p ∈ before, sp p.block = true) → DataW.TrodVars enc P W' sp s.vars (s.fn H (ds ++ gs)).vars pv)
  (hps : before = pa ++ pv) (hb : Below W.heap.size W W')
  (hok : ∀ (j : Nat) (t : TypeId) (r : Value), f.resultTypes[j]? = some t → (v.resultList f.resultTypes.size)[j]? = some r → Value.okWide P W' .any 0 t r) :
  s.post enc P f apart fresh handsOn again W args v W' := by
 have hlt : ∀ p ∈ before, p.block < W.heap.size := fun p hp => hW.lt p hp
 have hold : ∀ p ∈ before, (fun b => decide (b < W.heap.size)) p.block = true := fun p hp => by simpa using hlt p hp
 refine ⟨ds, gs, before, [], pa, pv, hW, hres _ _ _, hargs _ hold, hvars _ hold, World.keptBut_mono (fun p hp => ⟨hp, ?_⟩) (hb.frame (· ∈ before)), fun _ => ?_⟩
 ·rw [hps, List.mem_append] at hp
  exact Or.inr hp
 ·obtain ⟨_, _, _, _, _, hz, hn⟩ := hW
  refine ⟨hok, _, _, ([] ++ pa) ++ pv, ⟨[] ++ pa, pv, trodAll_append (hargs _ (fun _ _ => rfl)) (hres _ _ _), hvars _ (fun _ _ => rfl), rfl, ?_, ?_⟩, ?_⟩
  ·intro b off hp
   have hin : MemPlace.cell b off ∈ before := by rw [hps]; simpa using hp
   rw [hb.frozen (hlt _ hin)]
   exact hz b off hin
  ·intro ha
   have := hn ha
   rw [hps] at this
   simpa using this
  ·intro p hp _
   rw [hps]
   simpa using hp
theorem law_contract (hP : PG P tb) (hl : laidOutB P = true) {f : FuncId} {fn : Func} {s : ChangeSpec} {tB : TypeId} (n : Nat) (hvars : s.vars = []) (hres : fn.resultTypes = #[tB]) (hB : P.underlying tB = some .bool)
  (hg : (fn.params.toList.all fun t => goodT tb n t && P.readableRec t && decide (t < P.types.size)) = true)
  (hfn : ∀ (H : Type) (ds : List (DataW H)), ds.length = fn.params.toList.length → (s.fn H ds).results = [.lit (.bool true)] ∧ (s.fn H ds).args = ds ∧ (s.fn H ds).vars = [])
  (hp : ∀ args, OkA tb n fn.params.toList args → Pure P f args (dB true))
  {args : Array Value} {ds gs : List (DataW H)} {before : List MemPlace} {r : Reach} {base : Nat} {apart fresh handsOn again : Bool}
  (hval : ∀ (j : Nat) t v, fn.params[j]? = some t → args[j]? = some v → Value.okWide P W r base t v)
  (hW : DataW.Whole enc P fn.params.toList s.vars apart W args.toList ds gs before) :
  Calls P f args W fun e W' => ∃ v, e = .returned v ∧ s.post enc P fn apart fresh handsOn again W args v W' := by
 have hW0 := hW
 rw [hvars] at hW
 obtain ⟨p, q, hA, hV, rfl, hz, hd⟩ := hW
 obtain ⟨rfl, rfl⟩ := trodVars_none hV
 rw [List.all_eq_true] at hg
 have hg' : ∀ t ∈ fn.params.toList, goodT tb n t = true ∧ P.readableRec t = true ∧ t < P.types.size := fun t ht => by
  have := hg t ht
  simp only [Bool.and_eq_true, decide_eq_true_eq] at this
  exact ⟨this.1.1, this.1.2, this.2⟩
 obtain ⟨xs, h1, h2⟩ := args_rep hP (fun t ht => (hg' t ht).1) (fun j t v q1 q2 => hval j t v (by simpa using q1) (by simpa using q2)) hA
 obtain ⟨_, hc⟩ := hp xs h1
 have hlen : ds.length = fn.params.toList.length := by
  have : ∀ {ts : List TypeId} {vs : List Value} {ds : List (DataW H)} {ps : List MemPlace}, DataW.TrodAll enc P W 0 (fun _ => true) true ts vs ds ps → ds.length = ts.length := by
   intro ts
   induction ts with
   | nil => intro vs ds ps h; obtain ⟨_, rfl, _⟩ := trodAll_nil h; rfl
   | cons t ts ih =>
    intro vs ds ps h
    obtain ⟨v, vs', d, ds', p, q, rfl, rfl, rfl, _, h2⟩ := trodAll_cons h
    simp [ih h2]
  exact this hA
 obtain ⟨e1, e2, e3⟩ := hfn H ds hlen
 have hargs : args = args.toList.toArray := by simp
 rw [hargs]
 refine (hc W (old W) args.toList (fun _ h => h) h2).mono fun e W' he => ?_
 obtain ⟨v, rfl, I', hr, _, _, _, hb⟩ := he
 rw [RepD] at hr
 subst hr
 refine ⟨_, rfl, ?_⟩
 rw [← hargs]
 refine post_of_below (pa := p) (pv := []) hW0 ?_ ?_ ?_ (by simp) hb ?_
 ·intro b sp hd
  rw [List.append_nil, e1, hres]
  exact trodAll_mk1 (shut_bool hB true)
 ·intro sp hs
  rw [List.append_nil, e2]
  exact args_stay hl hb (fun t ht => (hg' t ht).2) hA (fun x hx => hs x (by simp [hx]))
 ·intro sp _
  rw [List.append_nil, e3, hvars]
  rfl
 ·exact ok_one hres rfl (okWide_bool_mk hB _)
end
end Go.Ev


namespace Go.Ev
open RowKit
mutual
def nilD : D → D
 | .v (.slice none 0 0) => .seq []
 | .agg cs => .agg (nilL cs)
 | .tup cs => .tup (nilL cs)
 | .v x => .v x
 | .seq es => .seq es
 | .iptr cs => .iptr cs
 | .bptr cs n => .bptr cs n
 | .fn f a b => .fn f a b
def nilL : List D → List D
 | [] => []
 | d :: ds => nilD d :: nilL ds
end
section
variable {I : Nat → Prop} {h : Array Obj}
mutual
theorem RepD.nil : ∀ (d : D) (u : Value), RepD I h d u → RepD I h (nilD d) u
 | .v x, u, r => by
  unfold nilD
  split
  all_goals (rename_i e; cases e)
  ·have r' : u = Value.slice none 0 0 := by simpa only [RepD] using r
   rw [RepD]
   exact ⟨none, 0, 0, r', rfl, Nat.le_refl _, .inl rfl⟩
  ·exact r
 | .agg cs, u, r => by
  rw [nilD]
  rw [RepD] at r ⊢
  obtain ⟨x, h1, h2⟩ := r
  exact ⟨x, h1, RepL.nils cs _ h2⟩
 | .tup cs, u, r => by
  rw [nilD]
  rw [RepD] at r ⊢
  obtain ⟨x, h1, h2⟩ := r
  exact ⟨x, h1, RepL.nils cs _ h2⟩
 | .seq es, u, r => by rw [nilD]; exact r
 | .iptr cs, u, r => by rw [nilD]; exact r
 | .bptr cs n, u, r => by rw [nilD]; exact r
 | .fn f a b, u, r => by rw [nilD]; exact r
theorem RepL.nils : ∀ (ds : List D) (us : List Value), RepL I h ds us → RepL I h (nilL ds) us
 | [], us, r => by rw [nilL]; exact r
 | d :: ds, us, r => by
  rw [nilL]
  rw [RepL] at r ⊢
  obtain ⟨v, q, h1, h2, h3⟩ := r
  exact ⟨v, q, h1, RepD.nil d v h2, RepL.nils ds q h3⟩
end
end
theorem pure_of_n {P : Program} {tb : TB} (hP : PG P tb) {f : FuncId} {fn : Func} (hf : P.funcs[f]? = some fn) {args : List D} {r : D} (hk : fnB fn args.length = true)
  (h : ev tb (Con P tb 1000000 fun _ _ _ => False) 0 [] true (bodyOf fn) ⟨argSl 0 args, [], 0⟩ (fin tb fn.results.toList fun d => nilD d = r)) : Pure P f args r := by
 simp only [fnB, Bool.and_eq_true, Bool.not_eq_true'] at hk
 obtain ⟨⟨⟨h1, h2⟩, h3⟩, h4⟩ := hk
 obtain ⟨c, hc⟩ := Option.isSome_iff_exists.1 h1
 have e : bodyOf fn = c := by unfold bodyOf; rw [hc]
 rw [e] at h h3
 exact pure_of_ev hP hf hc h2 h3 (Nat.le_of_ble_eq_true h4) h fun d hd _ _ _ hr => hd ▸ RepD.nil d _ hr
end Go.Ev


namespace Go.Ev
open RowKit
def finO (tb : TB) (nb : Nat) (rs : List ResultVar) (R : A → List (Nat × Ob) → Prop) (e : Ex) (s : St) : Prop :=
 match e with
 | .ex _ => False
 | .pan _ => False
 | _ => resL tb s.get s.obj rs fun as => ∃ os : List Nat, bif A.onlyL os as then gN s fun n => keep nb (List.range nb) [] os n s fun s => R (oneA as) s.ob else False
section
variable {tb : TB} {X : Ctx} {P : Program}
theorem bor_ofO (hP : PG P tb) {f : FuncId} {fn : Func} (hf : P.funcs[f]? = some fn) {args : List A} {pre : List Ob} {N : Nat} {r : A} {post : List (Nat × Ob)} (hk : fnB fn args.length = true)
  (h : fLit pre.length fun n => ev tb (Con P tb 1000001 fun _ _ _ => False) n (List.range n) true (bodyOf fn) ⟨argSlA 0 args, obSl 0 pre, n⟩ (finO tb n fn.results.toList fun x l => x = r ∧ l = post)) (hnd : noDead post 0 pre = true := by rfl) : Bor tb P f args pre N r post := by
 rw [fLit_eq] at h
 simp only [fnB, Bool.and_eq_true, Bool.not_eq_true'] at hk
 obtain ⟨⟨⟨q1, hn⟩, hc⟩, q4⟩ := hk
 obtain ⟨c, hb⟩ := Option.isSome_iff_exists.1 q1
 have e : bodyOf fn = c := by unfold bodyOf; rw [hb]
 rw [e] at h hc
 refine ⟨⟨fn, hf, hn, by rw [hb]; rfl⟩, fun w I G vs mp rep => ?_⟩
 rw [Ctx.callD_eq hnd]
 refine callsIn_wide.1 (callsIn_of_wp_marks (F := Fence.wide) (n := 0) hf hb trivial ?_)
 have hlen := RepAL.length rep
 have hl : args.length ≤ fn.ntmps := Nat.le_of_ble_eq_true q4
 obtain ⟨X, hX⟩ : ∃ X : Ctx, X = Ctx.call w I pre G fn.ntmps := ⟨_, rfl⟩
 have hW : Wide Fence.wide := ⟨fun _ => trivial, rfl, rfl⟩
 have hobj : St.obj ⟨argSlA 0 args, obSl 0 pre, pre.length⟩ = fun i => pre[i]? := by
  funext i
  have := obSl_look pre 0 i
  rw [Nat.zero_add] at this
  exact this
 have m0 : Mod tb X (St.get ⟨argSlA 0 args, obSl 0 pre, pre.length⟩) (St.obj ⟨argSlA 0 args, obSl 0 pre, pre.length⟩) { tmps := vs.toArray ++ Array.replicate (fn.ntmps - vs.toArray.size) undef, defers := [] } w G I := by
  rw [hobj]
  subst hX
  refine ⟨by simp [Ctx.call]; omega, fun t => ?_, mp.objs, mp.dom, mp.sep, mp.own, mp.bor, mp.isz, mp.i0, mp.inew, mp.frame, mp.os, mp.tape, mp.output, mp.wsz, mp.barr, mp.env, fun _ => rfl⟩
  have := (argSlA_get (G := G) (n := fn.ntmps - vs.toArray.size) args vs 0 rep t).resolve_right (by omega)
  simp only [Nat.sub_zero] at this
  have e : (vs ++ List.replicate (fn.ntmps - vs.toArray.size) undef).getD t undef = (vs.toArray ++ Array.replicate (fn.ntmps - vs.toArray.size) undef).getD t undef := by
   simp [Array.getD_eq_getD_getElem?, List.getD_eq_getElem?_getD, ← Array.getElem?_toList]
  rw [← e]
  exact this
 have ok0 : St.ok ⟨argSlA 0 args, obSl 0 pre, pre.length⟩ := fun i hi => by
  rw [hobj]
  exact List.getElem?_eq_none hi
 refine ev_sound rfl hP c (X := X) hW (by subst hX; exact envOK_no _ _) (fun i hi _ => by subst hX; exact List.mem_range.2 hi) (by subst hX; exact Nat.le_refl _) (by subst hX; exact hc) ok0 (Nat.le_refl _) m0 (fun _ => ⟨rfl, by subst hX; rfl⟩) (by subst hX; exact h) fun e a' w' s' G' I' m ok hn hK => ?_
 have main : resL tb s'.get s'.obj fn.results.toList (fun as => ∃ os : List Nat, bif A.onlyL os as then gN s' fun n => keep pre.length (List.range pre.length) [] os n s' fun s => oneA as = r ∧ s.ob = post else False) →
   bodyPostM Fence.wide 0 P fn (fun e w'' => ∃ v, e = .returned v ∧ ∃ G' I', Mod tb (Ctx.call w I pre G 0) noG (lookO post) noAct w'' G' I' ∧ RepA G' I' w''.heap r v) .ret a' w' := by
  intro hK
  refine leaves_of a'.defers rfl m (by rw [hX]; rfl) fun a'' w'' m et ed => ?_
  obtain ⟨as, us, h1, hrep, h3, h4⟩ := resL_run hP m _ hK
  obtain ⟨os, h1⟩ := h1
  subst hX
  cases hon : A.onlyL os as with
  | false => rw [hon] at h1; exact h1.elim
  | true =>
   rw [hon, cond_true] at h1
   rw [gN_eq] at h1
   obtain ⟨s3, ⟨hr, hp⟩, _, _, _, _, _, _, _, G3, m3, hG3⟩ := keep_sound (X := Ctx.call w I pre G fn.ntmps) (fun i hi _ => List.mem_range.2 hi) m h1
   refine ⟨_, run_results h4, _, rfl, G3, I', ?_, ?_⟩
   ·have e5 : s3.obj = lookO post := by rw [← hp]; rfl
    rw [e5] at m3
    have menv := m3.env
    rw [ed] at menv
    exact ⟨rfl, fun t => by rw [RepA]; trivial, m3.objs, m3.dom, m3.sep, m3.own, m3.bor, m3.isz, m3.i0, m3.inew, m3.frame, m3.os, m3.tape, m3.output, m3.wsz, m3.barr, menv, fun _ => rfl⟩
   ·rw [← hr]
    exact oneA_rep (RepAL.only hG3 _ _ hon hrep)
 cases e with
 | ex i => exact hK.elim
 | pan v => exact hK.elim
 | nrm => exact main hK
 | ret => exact main hK
end
end Go.Ev


namespace Go.Ev
open RowKit
section
variable {tb : TB} {X : Ctx} {P : Program}
end
end Go.Ev


namespace Go.Ev
open RowKit
section
variable {tb : TB} {P : Program}
theorem sub_of (hP : PG P tb) {f : FuncId} {fn : Func} (hf : P.funcs[f]? = some fn) {args : List A} {pre : List Ob} {Y : Nat → List D → Bool → Prop} {q q' : Nat} {r : A} {post : List (Nat × Ob)} (hk : fnB fn args.length = true)
  (h : fLit pre.length fun n => ev tb (Con P tb 1000000 Y) (n + 1) (List.range (n + 1)) true (bodyOf fn) ⟨argSlA 0 args, obSl 0 (.env q :: pre), n + 1⟩ (finO tb (n + 1) fn.results.toList fun x l => x = r ∧ l = (0, .env q') :: post)) : SubC tb P Y f args pre q r q' post := by
 rw [fLit_eq] at h
 simp only [fnB, Bool.and_eq_true, Bool.not_eq_true'] at hk
 obtain ⟨⟨⟨q1, hn⟩, hc⟩, q4⟩ := hk
 obtain ⟨c, hb⟩ := Option.isSome_iff_exists.1 q1
 have e : bodyOf fn = c := by unfold bodyOf; rw [hb]
 rw [e] at h hc
 refine ⟨⟨fn, hf, hn, by rw [hb]; rfl⟩, fun E lent hE w I G vs mp rep => callsIn_wide.1 (callsIn_of_wp_marks (F := Fence.wide) (n := 0) hf hb trivial ?_)⟩
 have hlen := RepAL.length rep
 have hl : args.length ≤ fn.ntmps := Nat.le_of_ble_eq_true q4
 obtain ⟨X, hX⟩ : ∃ X : Ctx, X = Ctx.iter w I (.env q :: pre) G fn.ntmps E lent := ⟨_, rfl⟩
 have hW : Wide Fence.wide := ⟨fun _ => trivial, rfl, rfl⟩
 have hbase : X.E.base = [] := by
  obtain ⟨k, Ft, ⟨ds, F1, e1, _⟩, _⟩ := mp.env
  rw [hX]
  exact (List.append_eq_nil_iff.1 e1.symm).2
 have hobj : St.obj ⟨argSlA 0 args, obSl 0 (.env q :: pre), pre.length + 1⟩ = fun i => (Ob.env q :: pre)[i]? := by
  funext i
  have := obSl_look (.env q :: pre) 0 i
  rw [Nat.zero_add] at this
  exact this
 have m0 : Mod tb X (St.get ⟨argSlA 0 args, obSl 0 (.env q :: pre), pre.length + 1⟩) (St.obj ⟨argSlA 0 args, obSl 0 (.env q :: pre), pre.length + 1⟩) { tmps := vs.toArray ++ Array.replicate (fn.ntmps - vs.toArray.size) undef, defers := [] } w G I := by
  rw [hobj]
  subst hX
  refine ⟨by simp [Ctx.iter]; omega, fun t => ?_, mp.objs, mp.dom, mp.sep, mp.own, mp.bor, mp.isz, mp.i0, mp.inew, mp.frame, mp.os, mp.tape, mp.output, mp.wsz, mp.barr, mp.env, fun _ => rfl⟩
  have := (argSlA_get (G := G) (n := fn.ntmps - vs.toArray.size) args vs 0 rep t).resolve_right (by omega)
  simp only [Nat.sub_zero] at this
  have e : (vs ++ List.replicate (fn.ntmps - vs.toArray.size) undef).getD t undef = (vs.toArray ++ Array.replicate (fn.ntmps - vs.toArray.size) undef).getD t undef := by
   simp [Array.getD_eq_getD_getElem?, List.getD_eq_getElem?_getD, ← Array.getElem?_toList]
  rw [← e]
  exact this
 have ok0 : St.ok ⟨argSlA 0 args, obSl 0 (.env q :: pre), pre.length + 1⟩ := fun i hi => by
  rw [hobj]
  exact List.getElem?_eq_none (by simpa using hi)
 refine ev_sound rfl hP c (X := X) hW (by subst hX; exact hE) (fun i hi _ => by subst hX; exact List.mem_range.2 hi) (by subst hX; exact Nat.le_refl _) (by subst hX; exact hc) ok0 (Nat.le_refl _) m0 (fun _ => ⟨rfl, by subst hX; rfl⟩) (by subst hX; exact h) fun e a' w' s' G' I' m ok hn hK => ?_
 have main : resL tb s'.get s'.obj fn.results.toList (fun as => ∃ os : List Nat, bif A.onlyL os as then gN s' fun n => keep (pre.length + 1) (List.range (pre.length + 1)) [] os n s' fun s => oneA as = r ∧ s.ob = (0, .env q') :: post else False) →
   bodyPostM Fence.wide 0 P fn (fun e w'' => ∃ v, e = .returned v ∧ ∃ G' I', Mod tb (Ctx.iter w I (.env q :: pre) G 0 E lent) noG (lookO ((0, .env q') :: post)) noAct w'' G' I' ∧ RepA G' I' w''.heap r v) .ret a' w' := by
  intro hK
  refine leaves_of a'.defers rfl m hbase fun a'' w'' m et ed => ?_
  obtain ⟨as, us, h1, hrep, h3, h4⟩ := resL_run hP m _ hK
  obtain ⟨os, h1⟩ := h1
  subst hX
  cases hon : A.onlyL os as with
  | false => rw [hon] at h1; exact h1.elim
  | true =>
   rw [hon, cond_true] at h1
   rw [gN_eq] at h1
   obtain ⟨s3, ⟨hr, hp⟩, _, _, _, _, _, _, _, G3, m3, hG3⟩ := keep_sound (X := Ctx.iter w I (.env q :: pre) G fn.ntmps E lent) (fun i hi _ => List.mem_range.2 hi) m h1
   refine ⟨_, run_results h4, _, rfl, G3, I', ?_, ?_⟩
   ·have e5 : s3.obj = lookO ((0, .env q') :: post) := by rw [← hp]; rfl
    rw [e5] at m3
    have menv := m3.env
    rw [ed] at menv
    exact ⟨rfl, fun t => by rw [RepA]; trivial, m3.objs, m3.dom, m3.sep, m3.own, m3.bor, m3.isz, m3.i0, m3.inew, m3.frame, m3.os, m3.tape, m3.output, m3.wsz, m3.barr, menv, fun _ => rfl⟩
   ·rw [← hr]
    exact oneA_rep (RepAL.only hG3 _ _ hon hrep)
 cases e with
 | ex i => exact hK.elim
 | pan v => exact hK.elim
 | nrm => exact main hK
 | ret => exact main hK
end
end Go.Ev


namespace Go.Ev
open RowKit
section
variable {tb : TB} {P : Program}
def finP (v : Value) (e : Ex) (_s : St) : Prop :=
 match e with
 | .pan u => u = v
 | _ => False
theorem pan_of (hP : PG P tb) {f : FuncId} {fn : Func} (hf : P.funcs[f]? = some fn) {args : List A} {pre : List Ob} {v : Value} (hk : fnB fn args.length = true)
  (h : fLit pre.length fun n => ev tb (Con P tb 1000000 fun _ _ _ => False) n (List.range n) true (bodyOf fn) ⟨argSlA 0 args, obSl 0 pre, n⟩ (finP v)) : Pan tb P f args pre v := by
 rw [fLit_eq] at h
 simp only [fnB, Bool.and_eq_true, Bool.not_eq_true'] at hk
 obtain ⟨⟨⟨q1, hn⟩, hc⟩, q4⟩ := hk
 obtain ⟨c, hb⟩ := Option.isSome_iff_exists.1 q1
 have e : bodyOf fn = c := by unfold bodyOf; rw [hb]
 rw [e] at h hc
 refine ⟨⟨fn, hf, hn, by rw [hb]; rfl⟩, fun w I G vs mp rep => ?_⟩
 refine callsIn_wide.1 (callsIn_of_wp_marks (F := Fence.wide) (n := 0) hf hb trivial ?_)
 have hlen := RepAL.length rep
 have hl : args.length ≤ fn.ntmps := Nat.le_of_ble_eq_true q4
 obtain ⟨X, hX⟩ : ∃ X : Ctx, X = Ctx.call w I pre G fn.ntmps := ⟨_, rfl⟩
 have hW : Wide Fence.wide := ⟨fun _ => trivial, rfl, rfl⟩
 have hobj : St.obj ⟨argSlA 0 args, obSl 0 pre, pre.length⟩ = fun i => pre[i]? := by
  funext i
  have := obSl_look pre 0 i
  rw [Nat.zero_add] at this
  exact this
 have m0 : Mod tb X (St.get ⟨argSlA 0 args, obSl 0 pre, pre.length⟩) (St.obj ⟨argSlA 0 args, obSl 0 pre, pre.length⟩) { tmps := vs.toArray ++ Array.replicate (fn.ntmps - vs.toArray.size) undef, defers := [] } w G I := by
  rw [hobj]
  subst hX
  refine ⟨by simp [Ctx.call]; omega, fun t => ?_, mp.objs, mp.dom, mp.sep, mp.own, mp.bor, mp.isz, mp.i0, mp.inew, mp.frame, mp.os, mp.tape, mp.output, mp.wsz, mp.barr, mp.env, fun _ => rfl⟩
  have := (argSlA_get (G := G) (n := fn.ntmps - vs.toArray.size) args vs 0 rep t).resolve_right (by omega)
  simp only [Nat.sub_zero] at this
  have e : (vs ++ List.replicate (fn.ntmps - vs.toArray.size) undef).getD t undef = (vs.toArray ++ Array.replicate (fn.ntmps - vs.toArray.size) undef).getD t undef := by
   simp [Array.getD_eq_getD_getElem?, List.getD_eq_getElem?_getD, ← Array.getElem?_toList]
  rw [← e]
  exact this
 have ok0 : St.ok ⟨argSlA 0 args, obSl 0 pre, pre.length⟩ := fun i hi => by
  rw [hobj]
  exact List.getElem?_eq_none hi
 refine ev_sound rfl hP c (X := X) hW (by subst hX; exact envOK_no _ _) (fun i hi _ => by subst hX; exact List.mem_range.2 hi) (by subst hX; exact Nat.le_refl _) (by subst hX; exact hc) ok0 (Nat.le_refl _) m0 (fun _ => ⟨rfl, by subst hX; rfl⟩) (by subst hX; exact h) fun e a' w' s' G' I' m ok hn hK => ?_
 cases e with
 | pan u =>
  have hK : u = v := hK
  subst hK
  subst hX
  refine leaves_marks (fun e => by cases e) _ a'.defers (Nat.le_refl _) rfl m fun a2 w2 m2 et eb => ?_
  show LeavesIn _ _ _ _ _ _ [] _ _
  exact ⟨rfl, m2.os, m2.tape, m2.output, m2.wsz, fun b hb hx => m2.frame b hb (hx.imp id fun hn => ⟨fun h => h, hn⟩)⟩
 | _ => exact hK.elim
end
end Go.Ev


namespace Go.Ev
open RowKit
def finV (tb : TB) (nb : Nat) (rs : List ResultVar) (R : A → List (Nat × Ob) → Prop) (e : Ex) (s : St) : Prop :=
 match e with
 | .ex _ => False
 | .pan _ => False
 | _ => ∃ cv : List Cv, cvS tb nb cv s fun s => finB tb nb rs R .ret s
section
variable {tb : TB} {X : Ctx} {P : Program} {g : Nat → A} {o : Nat → Option Ob} {a : Act} {w : World} {G : Nat → Option GR} {I : Nat → Prop}
theorem bor_ofV (hP : PG P tb) {f : FuncId} {fn : Func} (hf : P.funcs[f]? = some fn) {args : List A} {pre : List Ob} {N : Nat} {r : A} {post : List (Nat × Ob)} (hk : fnB fn args.length = true)
  (h : fLit pre.length fun n => ev tb (Con P tb 1000000 fun _ _ _ => False) n (List.range n) true (bodyOf fn) ⟨argSlA 0 args, obSl 0 pre, n⟩ (finV tb n fn.results.toList fun x l => x = r ∧ l = post)) (hnd : noDead post 0 pre = true := by rfl) : Bor tb P f args pre N r post := by
 rw [fLit_eq] at h
 simp only [fnB, Bool.and_eq_true, Bool.not_eq_true'] at hk
 obtain ⟨⟨⟨q1, hn⟩, hc⟩, q4⟩ := hk
 obtain ⟨c, hb⟩ := Option.isSome_iff_exists.1 q1
 have e : bodyOf fn = c := by unfold bodyOf; rw [hb]
 rw [e] at h hc
 refine ⟨⟨fn, hf, hn, by rw [hb]; rfl⟩, fun w I G vs mp rep => ?_⟩
 rw [Ctx.callD_eq hnd]
 refine callsIn_wide.1 (callsIn_of_wp_marks (F := Fence.wide) (n := 0) hf hb trivial ?_)
 have hlen := RepAL.length rep
 have hl : args.length ≤ fn.ntmps := Nat.le_of_ble_eq_true q4
 obtain ⟨X, hX⟩ : ∃ X : Ctx, X = Ctx.call w I pre G fn.ntmps := ⟨_, rfl⟩
 have hW : Wide Fence.wide := ⟨fun _ => trivial, rfl, rfl⟩
 have hobj : St.obj ⟨argSlA 0 args, obSl 0 pre, pre.length⟩ = fun i => pre[i]? := by
  funext i
  have := obSl_look pre 0 i
  rw [Nat.zero_add] at this
  exact this
 have m0 : Mod tb X (St.get ⟨argSlA 0 args, obSl 0 pre, pre.length⟩) (St.obj ⟨argSlA 0 args, obSl 0 pre, pre.length⟩) { tmps := vs.toArray ++ Array.replicate (fn.ntmps - vs.toArray.size) undef, defers := [] } w G I := by
  rw [hobj]
  subst hX
  refine ⟨by simp [Ctx.call]; omega, fun t => ?_, mp.objs, mp.dom, mp.sep, mp.own, mp.bor, mp.isz, mp.i0, mp.inew, mp.frame, mp.os, mp.tape, mp.output, mp.wsz, mp.barr, mp.env, fun _ => rfl⟩
  have := (argSlA_get (G := G) (n := fn.ntmps - vs.toArray.size) args vs 0 rep t).resolve_right (by omega)
  simp only [Nat.sub_zero] at this
  have e : (vs ++ List.replicate (fn.ntmps - vs.toArray.size) undef).getD t undef = (vs.toArray ++ Array.replicate (fn.ntmps - vs.toArray.size) undef).getD t undef := by
   simp [Array.getD_eq_getD_getElem?, List.getD_eq_getElem?_getD, ← Array.getElem?_toList]
  rw [← e]
  exact this
 have ok0 : St.ok ⟨argSlA 0 args, obSl 0 pre, pre.length⟩ := fun i hi => by
  rw [hobj]
  exact List.getElem?_eq_none hi
 refine ev_sound rfl hP c (X := X) hW (by subst hX; exact envOK_no _ _) (fun i hi _ => by subst hX; exact List.mem_range.2 hi) (by subst hX; exact Nat.le_refl _) (by subst hX; exact hc) ok0 (Nat.le_refl _) m0 (fun _ => ⟨rfl, by subst hX; rfl⟩) (by subst hX; exact h) fun e a' w' s' G' I' m ok hn hK => ?_
 have main : ∀ (s' : St) (G' : Nat → Option GR) (I' : Nat → Prop), Mod tb X s'.get s'.obj a' w' G' I' → s'.ok → resL tb s'.get s'.obj fn.results.toList (fun xs => match handL true s'.obj xs with
   | (as, frz) => s'.app ⟨none, frz.map fun p => (p.1, .dead), [], 0, frz, []⟩ fun s => ∃ (zs os : List Nat), roS pre.length zs s fun s => bif A.onlyL os as then gN s fun n => keep pre.length (List.range pre.length) [] os n s fun s => oneA as = r ∧ s.ob = post else False) →
   bodyPostM Fence.wide 0 P fn (fun e w'' => ∃ v, e = .returned v ∧ ∃ G' I', Mod tb (Ctx.call w I pre G 0) noG (lookO post) noAct w'' G' I' ∧ RepA G' I' w''.heap r v) .ret a' w' := by
  intro s' G' I' m ok hK
  refine leaves_of a'.defers rfl m (by rw [hX]; rfl) fun a'' w'' m et ed => ?_
  obtain ⟨xs, us, h1, h2, h3, h4⟩ := resL_run hP m _ hK
  obtain ⟨as, frz, hh⟩ : ∃ as frz, handL true s'.obj xs = (as, frz) := ⟨_, _, rfl⟩
  rw [hh] at h1
  simp only at h1
  have hz := handL_zok (cv := true) (o := s'.obj) xs
  have hrep := handL_rep (cv := true) hz m.objs (fun p hp => hp) h2
  rw [hh] at hrep hz
  simp only at hrep hz
  have m1 := m.freeze hz.frz
  obtain ⟨s1, e1, e2, e3, h1, _⟩ := St.app_iff h1
  have eo : s1.obj = frzObs s'.obj frz := by
   rw [e2]
   have := appO_call (o := s'.obj) (slot := none) (z := frz)
   rw [← this]
   rfl
  have eg : s1.get = fun t => frzA frz (s'.get t) := by
   rw [e1]
   funext t
   have := trA_call (slot := none) (z := frz) (obs := frz.map fun p => (p.1, Ob.dead)) (rd := []) (k := 0)
   simp only [appG, this]
  rw [← eo, ← eg] at m1
  obtain ⟨zs, os, h1⟩ := h1
  have ok1 : s1.ok := fun i hi => by
   have h0 := ok i (by rw [e3] at hi; exact Nat.le_trans (Nat.le_add_right _ _) hi)
   rw [eo]
   unfold frzObs
   cases e : lookD frz i with
   | some d => obtain ⟨T, es, q, _⟩ := hz.frz _ _ e; rw [h0] at q; cases q
   | none => simp only [h0]; rfl
  subst hX
  obtain ⟨s2, I2, h1, m2, hI2, hn2⟩ := roS_sound (X := Ctx.call w I pre G fn.ntmps) zs m1 ok1 (fun _ _ => .inr trivial) h1
  cases hon : A.onlyL os as with
  | false => rw [hon] at h1; exact h1.elim
  | true =>
   rw [hon, cond_true] at h1
   rw [gN_eq] at h1
   obtain ⟨s3, ⟨hr, hp⟩, _, _, _, _, _, _, _, G3, m3, hG3⟩ := keep_sound (X := Ctx.call w I pre G fn.ntmps) (fun i hi _ => List.mem_range.2 hi) m2 h1
   refine ⟨_, run_results h4, _, rfl, G3, I2, ?_, ?_⟩
   ·have e5 : s3.obj = lookO post := by rw [← hp]; rfl
    rw [e5] at m3
    have menv := m3.env
    rw [ed] at menv
    exact ⟨rfl, fun t => by rw [RepA]; trivial, m3.objs, m3.dom, m3.sep, m3.own, m3.bor, m3.isz, m3.i0, m3.inew, m3.frame, m3.os, m3.tape, m3.output, m3.wsz, m3.barr, menv, fun _ => rfl⟩
   ·rw [← hr]
    have hrep := RepAL.mono (fun _ _ h => h) hI2 (fun _ _ => rfl) _ _ hrep
    exact oneA_rep (RepAL.only hG3 _ _ hon hrep)
 cases e with
 | ex i => exact hK.elim
 | pan v => exact hK.elim
 | nrm =>
  obtain ⟨cv, h⟩ := hK
  obtain ⟨s2, G2, I2, h2, ok2, hn2, m2⟩ := cvS_sound (nb := pre.length) (by subst hX; exact Nat.le_refl _) cv h m ok (by subst hX; exact hn)
  exact main s2 G2 I2 m2 ok2 h2
 | ret =>
  obtain ⟨cv, h⟩ := hK
  obtain ⟨s2, G2, I2, h2, ok2, hn2, m2⟩ := cvS_sound (nb := pre.length) (by subst hX; exact Nat.le_refl _) cv h m ok (by subst hX; exact hn)
  exact main s2 G2 I2 m2 ok2 h2
end
end Go.Ev


namespace Go.Ev
open RowKit
def finVP (tb : TB) (rs : List ResultVar) (R : D → Prop) (e : Ex) (s : St) : Prop :=
 match e with
 | .ex _ => False
 | .pan _ => False
 | _ => ∃ cv : List Cv, cvS tb 0 cv s fun s => fin tb rs R .ret s
section
variable {tb : TB} {X : Ctx} {P : Program} {g : Nat → A} {o : Nat → Option Ob} {a : Act} {w : World} {G : Nat → Option GR} {I : Nat → Prop}
theorem pure_of_evV (hP : PG P tb) {f : FuncId} {fn : Func} {c : Code} {args : List D} {R : D → Prop} (hf : P.funcs[f]? = some fn) (hb : fn.body = some c) (hn : (fn.name == "runtime.NumGoroutine") = false) (hc : codeB fn.ntmps c = true)
  (hl : args.length ≤ fn.ntmps) (h : ev tb (Con P tb 1000000 fun _ _ _ => False) 0 [] true c ⟨argSl 0 args, [], 0⟩ (finVP tb fn.results.toList R)) {r : D} (hR : ∀ d, R d → ∀ (I : Nat → Prop) (h : Array Obj) (v : Value), RepD I h d v → RepD I h r v) : Pure P f args r := by
 refine ⟨⟨fn, hf, hn, by rw [hb]; rfl⟩, fun w I vs hI rep => callsIn_wide.1 (callsIn_of_wp_marks (F := Fence.wide) (n := 0) hf hb trivial ?_)⟩
 have hlen := RepL.length rep
 obtain ⟨X, hX⟩ : ∃ X : Ctx, X = Ctx.call w I [] (fun _ => none) fn.ntmps := ⟨_, rfl⟩
 have hW : Wide Fence.wide := ⟨fun _ => trivial, rfl, rfl⟩
 have m0 : Mod tb X (St.get ⟨argSl 0 args, [], 0⟩) (St.obj ⟨argSl 0 args, [], 0⟩) { tmps := vs.toArray ++ Array.replicate (fn.ntmps - vs.toArray.size) undef, defers := [] } w (fun _ => none) I := by
  subst hX
  refine ⟨by simp [Ctx.call]; omega, fun t => ?_, fun i ob h => (nomatch h), fun i gr h => (nomatch h), fun i j oi oj gi gj b h => (nomatch h), fun i oi gi b h => (nomatch h), fun i hi _ => rfl, hI, fun b h => h, fun b h => .inl h, fun b _ _ => rfl, rfl, rfl, rfl, Nat.le_refl _, fun i T es hi => (nomatch hi), ⟨0, fun _ => False, trivM _ _ _ _, fun b hf => hf.elim, fun _ _ _ _ _ _ _ _ hf => hf, fun i k h => (nomatch h)⟩, fun _ => rfl⟩
  have := (argSl_get (G := fun _ => none) (n := fn.ntmps - vs.toArray.size) args vs 0 rep t).resolve_right (by omega)
  simp only [Nat.sub_zero] at this
  have e : (vs ++ List.replicate (fn.ntmps - vs.toArray.size) undef).getD t undef = (vs.toArray ++ Array.replicate (fn.ntmps - vs.toArray.size) undef).getD t undef := by
   simp [Array.getD_eq_getD_getElem?, List.getD_eq_getElem?_getD, ← Array.getElem?_toList]
  rw [← e]
  exact this
 refine ev_sound rfl hP c (X := X) hW (by subst hX; exact envOK_no _ _) (fun i hi => by subst hX; exact (nomatch hi)) (by subst hX; exact Nat.le_refl _) (by subst hX; exact hc) (fun i _ => rfl) (Nat.le_refl _) m0 (fun _ => ⟨rfl, by subst hX; rfl⟩) (by subst hX; exact h) fun e a' w' s' G' I' m ok hn hK => ?_
 have main : ∀ (s' : St) (G' : Nat → Option GR) (I' : Nat → Prop), Mod tb X s'.get s'.obj a' w' G' I' → resL tb s'.get s'.obj fn.results.toList (fun xs => match toDs (handL true s'.obj xs).1 with | some ds => R (oneD ds) | none => False) → bodyPostM Fence.wide 0 P fn (fun e w'' => ∃ v, e = .returned v ∧ ∃ I', RepD I' w''.heap r v ∧ (∀ b, I b → I' b) ∧ (∀ b, I' b → I b ∨ w.heap.size ≤ b) ∧ (∀ b, I' b → b < w''.heap.size) ∧ Below w.heap.size w w'') .ret a' w' := by
  intro s' G' I' m hK
  refine leaves_of a'.defers rfl m (by rw [hX]; rfl) fun a'' w'' m et ed => ?_
  obtain ⟨xs, us, h1, h2, h3, h4⟩ := resL_run hP m _ hK
  split at h1
  ·rename_i ds hds
   have hz := handL_zok (cv := true) (o := s'.obj) xs
   have hrep := handL_rep (cv := true) hz m.objs (fun p hp => hp) h2
   rw [toDs_eq hds] at hrep
   have hrep := RepAL.of_d.1 hrep
   have m1 := m.freeze hz.frz
   subst hX
   refine ⟨_, run_results h4, _, rfl, _, ?_, m1.i0, fun b hb => ?_, m1.isz, ⟨m.os, m.tape, m.output, m.wsz, fun k hk => m.frame k hk (.inr ⟨fun h => h, fun ⟨i, gr, hi, _⟩ => (nomatch hi)⟩)⟩⟩
   ·exact hR _ h1 _ _ _ (oneD_rep hrep)
   ·rcases m1.inew b hb with h | h | ⟨i, gr, hi, _⟩ | h
    ·exact .inl h
    ·exact absurd h (fun h => h)
    ·exact (nomatch hi)
    ·exact .inr h
  ·exact h1.elim
 cases e with
 | ex i => exact hK.elim
 | pan v => exact hK.elim
 | nrm =>
  obtain ⟨cv, h⟩ := hK
  obtain ⟨s2, G2, I2, h2, ok2, hn2, m2⟩ := cvS_sound (nb := 0) (by subst hX; exact Nat.le_refl _) cv h m ok (by subst hX; exact Nat.zero_le _)
  exact main s2 G2 I2 m2 h2
 | ret =>
  obtain ⟨cv, h⟩ := hK
  obtain ⟨s2, G2, I2, h2, ok2, hn2, m2⟩ := cvS_sound (nb := 0) (by subst hX; exact Nat.le_refl _) cv h m ok (by subst hX; exact Nat.zero_le _)
  exact main s2 G2 I2 m2 h2
theorem pure_of_v {P : Program} {tb : TB} (hP : PG P tb) {f : FuncId} {fn : Func} (hf : P.funcs[f]? = some fn) {args : List D} {r : D} (hk : fnB fn args.length = true)
  (h : ev tb (Con P tb 1000000 fun _ _ _ => False) 0 [] true (bodyOf fn) ⟨argSl 0 args, [], 0⟩ (finVP tb fn.results.toList fun d => d = r)) : Pure P f args r := by
 simp only [fnB, Bool.and_eq_true, Bool.not_eq_true'] at hk
 obtain ⟨⟨⟨h1, h2⟩, h3⟩, h4⟩ := hk
 obtain ⟨c, hc⟩ := Option.isSome_iff_exists.1 h1
 have e : bodyOf fn = c := by unfold bodyOf; rw [hc]
 rw [e] at h h3
 exact pure_of_evV hP hf hc h2 h3 (Nat.le_of_ble_eq_true h4) h fun d hd _ _ _ hr => hd ▸ hr
end
end Go.Ev

