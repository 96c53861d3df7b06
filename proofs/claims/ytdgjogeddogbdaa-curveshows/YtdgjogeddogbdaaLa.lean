/-
  Contracts of functions, and plain laws, that lead to the statement. Written by an agent.
-/
import Derived.Test.YtdgjogeddogbdaaProg
import Derived.KernelRfl
import Derived.Test.YtdgjogeddogbdaaKc
namespace Go.Ev.Ytdgjogeddogbdaa
open Go.Proofs

def tys : List (Option Ty) := [
  none,
  some ⟨.other, 1, 8, [.nilFunc], (false, false)⟩,
  some ⟨.int .i64, 1, 8, [.int .i64 0], (false, false)⟩,
  some ⟨.int .i64, 1, 8, [.int .i64 0], (false, false)⟩,
  some ⟨.bool, 1, 1, [.bool false], (false, false)⟩,
  some ⟨.int .u8, 1, 1, [.int .u8 0], (false, false)⟩,
  some ⟨.int .u8, 1, 1, [.int .u8 0], (false, false)⟩,
  some ⟨.struct [(0, 2), (1, 3), (2, 4), (3, 6)], 4, 24, [.int .i64 0, .int .i64 0, .bool false, .int .u8 0], (false, false)⟩,
  some ⟨.struct [(0, 2), (1, 3), (2, 4), (3, 6)], 4, 24, [.int .i64 0, .int .i64 0, .bool false, .int .u8 0], (false, false)⟩,
  some ⟨.str, 1, 16, [.string ByteArray.empty], (false, false)⟩,
  some ⟨.str, 1, 16, [.string ByteArray.empty], (false, false)⟩,
  some ⟨.str, 1, 16, [.string ByteArray.empty], (false, false)⟩,
  some ⟨.int .u64, 1, 8, [.int .u64 0], (false, false)⟩,
  some ⟨.struct [(0, 9), (1, 12)], 2, 24, [.string ByteArray.empty, .int .u64 0], (false, false)⟩,
  some ⟨.struct [(0, 9), (1, 12)], 2, 24, [.string ByteArray.empty, .int .u64 0], (false, false)⟩,
  some ⟨.ptr 130, 1, 8, [.pointer none], (false, false)⟩,
  some ⟨.ptr 133, 1, 8, [.pointer none], (false, false)⟩,
  some ⟨.ptr 143, 1, 8, [.pointer none], (false, false)⟩,
  some ⟨.struct [(0, 17)], 1, 8, [.pointer none], (false, false)⟩,
  some ⟨.struct [(0, 17)], 1, 8, [.pointer none], (false, false)⟩,
  some ⟨.other, 1, 16, [.nilIface], (false, false)⟩,
  some ⟨.int .i32, 1, 4, [.int .i32 0], (false, false)⟩,
  some ⟨.slice 66, 1, 24, [.slice none 0 0], (false, false)⟩,
  some ⟨.struct [(0, 22)], 1, 24, [.slice none 0 0], (false, false)⟩,
  some ⟨.struct [(0, 22)], 1, 24, [.slice none 0 0], (false, false)⟩,
  some ⟨.struct [(0, 3), (1, 3), (2, 3)], 3, 24, [.int .i64 0, .int .i64 0, .int .i64 0], (false, false)⟩,
  some ⟨.struct [(0, 3), (1, 3), (2, 3)], 3, 24, [.int .i64 0, .int .i64 0, .int .i64 0], (false, true)⟩,
  some ⟨.slice 3, 1, 24, [.slice none 0 0], (false, false)⟩,
  some ⟨.other, 1, 8, [.nilFunc], (false, false)⟩,
  some ⟨.other, 1, 8, [.nilFunc], (false, false)⟩,
  some ⟨.int .i64, 1, 8, [.int .i64 0], (false, false)⟩,
  some ⟨.other, 1, 8, [.nilFunc], (false, false)⟩,
  some ⟨.slice 83, 1, 24, [.slice none 0 0], (false, false)⟩,
  some ⟨.struct [(0, 32)], 1, 24, [.slice none 0 0], (false, false)⟩,
  some ⟨.struct [(0, 32)], 1, 24, [.slice none 0 0], (false, false)⟩,
  some ⟨.other, 1, 8, [.nilFunc], (false, false)⟩,
  some ⟨.struct [(0, 3), (1, 3), (2, 3), (3, 3), (4, 3), (5, 3), (6, 3)], 7, 56, [.int .i64 0, .int .i64 0, .int .i64 0, .int .i64 0, .int .i64 0, .int .i64 0, .int .i64 0], (false, false)⟩,
  some ⟨.struct [(0, 3), (1, 3), (2, 3), (3, 3), (4, 3), (5, 3), (6, 3)], 7, 56, [.int .i64 0, .int .i64 0, .int .i64 0, .int .i64 0, .int .i64 0, .int .i64 0, .int .i64 0], (false, true)⟩,
  none,
  some ⟨.other, 1, 8, [.nilFunc], (false, false)⟩,
  some ⟨.struct [(0, 3), (1, 3), (2, 3)], 3, 24, [.int .i64 0, .int .i64 0, .int .i64 0], (false, true)⟩,
  some ⟨.other, 1, 8, [.nilFunc], (false, false)⟩,
  some ⟨.other, 1, 8, [.nilFunc], (false, false)⟩,
  some ⟨.other, 1, 8, [.nilFunc], (false, false)⟩,
  some ⟨.other, 1, 8, [.nilFunc], (false, false)⟩,
  some ⟨.other, 1, 8, [.nilFunc], (false, false)⟩,
  some ⟨.other, 1, 8, [.nilFunc], (false, false)⟩,
  some ⟨.struct [(0, 3), (1, 3), (2, 3), (3, 3), (4, 3), (5, 3), (6, 3)], 7, 56, [.int .i64 0, .int .i64 0, .int .i64 0, .int .i64 0, .int .i64 0, .int .i64 0, .int .i64 0], (false, true)⟩,
  some ⟨.other, 1, 8, [.nilFunc], (false, false)⟩,
  some ⟨.other, 1, 8, [.nilFunc], (false, false)⟩,
  some ⟨.struct [(0, 3), (1, 3)], 2, 16, [.int .i64 0, .int .i64 0], (false, false)⟩,
  some ⟨.struct [(0, 3), (1, 3)], 2, 16, [.int .i64 0, .int .i64 0], (false, true)⟩,
  none,
  some ⟨.other, 1, 8, [.nilFunc], (false, false)⟩,
  some ⟨.struct [(0, 3), (1, 3)], 2, 16, [.int .i64 0, .int .i64 0], (false, true)⟩,
  none,
  some ⟨.other, 1, 8, [.nilFunc], (false, false)⟩,
  some ⟨.slice 27, 1, 24, [.slice none 0 0], (false, false)⟩,
  some ⟨.other, 1, 8, [.nilFunc], (false, false)⟩,
  some ⟨.other, 1, 8, [.nilFunc], (false, false)⟩,
  some ⟨.slice 67, 1, 24, [.slice none 0 0], (false, false)⟩,
  some ⟨.other, 1, 8, [.nilFunc], (false, false)⟩,
  some ⟨.other, 1, 8, [.nilFunc], (false, false)⟩,
  some ⟨.other, 1, 8, [.nilFunc], (false, false)⟩,
  some ⟨.other, 1, 8, [.nilFunc], (false, false)⟩,
  some ⟨.struct [(0, 3), (1, 54)], 3, 24, [.int .i64 0, .int .i64 0, .int .i64 0], (false, false)⟩,
  some ⟨.struct [(0, 3), (1, 54)], 3, 24, [.int .i64 0, .int .i64 0, .int .i64 0], (false, true)⟩,
  some ⟨.int .u16, 1, 2, [.int .u16 0], (false, false)⟩,
  some ⟨.other, 1, 8, [.nilFunc], (false, false)⟩,
  some ⟨.other, 1, 8, [.nilFunc], (false, false)⟩,
  some ⟨.other, 1, 8, [.nilFunc], (false, false)⟩,
  none,
  some ⟨.other, 1, 8, [.nilFunc], (false, false)⟩,
  some ⟨.other, 1, 8, [.nilFunc], (false, false)⟩,
  some ⟨.other, 1, 8, [.nilFunc], (false, false)⟩,
  some ⟨.other, 1, 8, [.nilFunc], (false, false)⟩,
  some ⟨.other, 1, 8, [.nilFunc], (false, false)⟩,
  none,
  some ⟨.other, 1, 8, [.nilFunc], (false, false)⟩,
  some ⟨.other, 1, 8, [.nilFunc], (false, false)⟩,
  some ⟨.other, 1, 8, [.nilFunc], (false, false)⟩,
  some ⟨.other, 1, 8, [.nilFunc], (false, false)⟩,
  some ⟨.struct [(0, 3), (1, 51)], 3, 24, [.int .i64 0, .int .i64 0, .int .i64 0], (false, false)⟩,
  some ⟨.struct [(0, 3), (1, 51)], 3, 24, [.int .i64 0, .int .i64 0, .int .i64 0], (false, true)⟩,
  some ⟨.other, 1, 8, [.nilFunc], (false, false)⟩,
  some ⟨.struct [(0, 34), (1, 40)], 4, 48, [.slice none 0 0, .int .i64 0, .int .i64 0, .int .i64 0], (false, false)⟩,
  some ⟨.struct [(0, 34), (1, 40)], 4, 48, [.slice none 0 0, .int .i64 0, .int .i64 0, .int .i64 0], (false, false)⟩,
  none,
  some ⟨.other, 1, 8, [.nilFunc], (false, false)⟩,
  some ⟨.other, 1, 8, [.nilFunc], (false, false)⟩,
  some ⟨.other, 1, 8, [.nilFunc], (false, false)⟩,
  some ⟨.other, 1, 8, [.nilFunc], (false, false)⟩,
  some ⟨.other, 1, 8, [.nilFunc], (false, false)⟩,
  some ⟨.other, 1, 8, [.nilFunc], (false, false)⟩,
  some ⟨.arr 20 3, 20, 160, List.replicate 20 (.int .i64 0), (true, false)⟩,
  some ⟨.arr 20 3, 20, 160, List.replicate 20 (.int .i64 0), (true, true)⟩,
  some ⟨.struct [(0, 95), (20, 95)], 40, 320, List.replicate 40 (.int .i64 0), (true, false)⟩,
  some ⟨.struct [(0, 95), (20, 95)], 40, 320, List.replicate 40 (.int .i64 0), (true, true)⟩,
  none,
  some ⟨.other, 1, 8, [.nilFunc], (false, false)⟩,
  none,
  some ⟨.other, 1, 8, [.nilFunc], (false, false)⟩,
  some ⟨.struct [(0, 101)], 1, 8, [.nilFunc], (false, false)⟩,
  some ⟨.struct [(0, 101)], 1, 8, [.nilFunc], (false, false)⟩,
  some ⟨.slice 103, 1, 24, [.slice none 0 0], (false, false)⟩,
  some ⟨.other, 1, 8, [.nilFunc], (false, false)⟩,
  some ⟨.other, 1, 8, [.nilFunc], (false, false)⟩,
  some ⟨.other, 1, 8, [.nilFunc], (false, false)⟩,
  some ⟨.other, 1, 8, [.nilFunc], (false, false)⟩,
  some ⟨.other, 1, 8, [.nilFunc], (false, false)⟩,
  none,
  some ⟨.other, 1, 8, [.nilFunc], (false, false)⟩,
  some ⟨.other, 1, 8, [.nilFunc], (false, false)⟩,
  some ⟨.other, 1, 8, [.nilFunc], (false, false)⟩,
  some ⟨.other, 1, 8, [.nilFunc], (false, false)⟩,
  some ⟨.other, 1, 8, [.nilFunc], (false, false)⟩,
  some ⟨.other, 1, 8, [.nilFunc], (false, false)⟩,
  some ⟨.slice 115, 1, 24, [.slice none 0 0], (false, false)⟩,
  some ⟨.other, 1, 8, [.nilFunc], (false, false)⟩,
  some ⟨.other, 1, 8, [.nilFunc], (false, false)⟩,
  some ⟨.other, 1, 8, [.nilFunc], (false, false)⟩,
  some ⟨.map 124 3, 1, 8, [.map none], (false, false)⟩,
  some ⟨.other, 1, 8, [.nilFunc], (false, false)⟩,
  some ⟨.struct [(0, 3), (1, 3)], 2, 16, [.int .i64 0, .int .i64 0], (false, false)⟩,
  some ⟨.struct [(0, 3), (1, 3)], 2, 16, [.int .i64 0, .int .i64 0], (false, true)⟩,
  some ⟨.other, 1, 8, [.nilFunc], (false, false)⟩,
  some ⟨.other, 1, 8, [.nilFunc], (false, false)⟩,
  some ⟨.other, 1, 8, [.nilFunc], (false, false)⟩,
  some ⟨.other, 1, 8, [.nilFunc], (false, false)⟩,
  some ⟨.struct [(0, 17), (1, 17), (2, 17), (3, 9)], 4, 40, [.pointer none, .pointer none, .pointer none, .string ByteArray.empty], (false, false)⟩,
  some ⟨.struct [(0, 17), (1, 17), (2, 17), (3, 9)], 4, 40, [.pointer none, .pointer none, .pointer none, .string ByteArray.empty], (false, false)⟩,
  some ⟨.arr 0 16, 0, 0, [], (true, false)⟩,
  some ⟨.struct [(0, 131)], 0, 0, [], (true, false)⟩,
  some ⟨.struct [(0, 131)], 0, 0, [], (true, false)⟩,
  some ⟨.other, 1, 8, [.nilFunc], (false, false)⟩,
  some ⟨.int .u32, 1, 4, [.int .u32 0], (false, false)⟩,
  some ⟨.int .u8, 1, 1, [.int .u8 0], (false, false)⟩,
  some ⟨.int .u8, 1, 1, [.int .u8 0], (false, false)⟩,
  some ⟨.other, 1, 8, [.nilFunc], (false, false)⟩,
  some ⟨.ptr 5, 1, 8, [.pointer none], (false, false)⟩,
  some ⟨.int .i32, 1, 4, [.int .i32 0], (false, false)⟩,
  some ⟨.int .i32, 1, 4, [.int .i32 0], (false, false)⟩,
  some ⟨.struct [(0, 12), (1, 12), (2, 135), (3, 136), (4, 5), (5, 5), (6, 137), (7, 138), (8, 139), (9, 140), (10, 141)], 11, 48, [.int .u64 0, .int .u64 0, .int .u32 0, .int .u8 0, .int .u8 0, .int .u8 0, .int .u8 0, .nilFunc, .pointer none, .int .i32 0, .int .i32 0], (false, false)⟩,
  some ⟨.struct [(0, 12), (1, 12), (2, 135), (3, 136), (4, 5), (5, 5), (6, 137), (7, 138), (8, 139), (9, 140), (10, 141)], 11, 48, [.int .u64 0, .int .u64 0, .int .u32 0, .int .u8 0, .int .u8 0, .int .u8 0, .int .u8 0, .nilFunc, .pointer none, .int .i32 0, .int .i32 0], (false, false)⟩,
  some ⟨.other, 1, 8, [.pointer none], (false, false)⟩]

def tb : TB := fun t => match tys[t]? with
  | some (some y) => some y
  | _ => none

theorem tbOk : tyTable Try.prog tys = true := by kernel_rfl

theorem pg : PG Try.prog tb where
  ty t y h := by
    unfold tb at h
    split at h
    · rename_i z hz; cases h; exact tyTable_ok tbOk t _ hz
    · cases h
  mixed := by kernel_rfl
end Go.Ev.Ytdgjogeddogbdaa

set_option linter.unusedVariables false
set_option linter.unusedSimpArgs false
namespace Go.Ev.Ytdgjogeddogbdaa
open Go.Proofs
abbrev P3 := Int × Int × Int
def ptD (x : P3) : List D := [dI x.1, dI x.2.1, dI x.2.2]
abbrev z3 : P3 := (0, 0, 0)
abbrev ptsD (l : List P3) : D := .seq (l.map ptD)
abbrev crD (l : List P3) : D := .agg [ptsD l]
abbrev ruD (r : P3) : D := .agg (ptD r)
abbrev rdD (l : List P3) (r : P3) : D := .agg [ptsD l, dI r.1, dI r.2.1, dI r.2.2]
abbrev isD (t : List Int) : D := .seq (t.map fun n => [dI n])
def inB (n lo hi : Int) : Bool := decide (lo ≤ n) && decide (n ≤ hi)
theorem getp (l : List P3) (k : Nat) (h : k < l.length) : (l.map ptD)[k]? = some (ptD l[k]) := by simp [h]
theorem geti (l : List Int) (k : Nat) (h : k < l.length) : (l.map fun n => [dI n])[k]? = some [dI l[k]] := by simp [h]
theorem wS {z : Int} (h1 : -1000 ≤ z) (h2 : z ≤ 1000) : IntKind.i64.wrap z = z := wrapI (by omega) (by omega)
theorem w1 (k : Nat) (h : k ≤ 1000) : IntKind.i64.wrap ((k : Int) + 1) = ((k + 1 : Nat) : Int) := by rw [wrapI (by omega) (by omega)]; rfl
theorem within_pure (n lo hi : Int) : Pure Try.prog 53 [dI n, dI lo, dI hi] (dB (inB n lo hi)) := by
  refine pure_of pg Try.func53 (by kernel_rfl) ?_
  conv => whnf
  (repeat' (first | (apply kT (by with_reducible first | rfl | assumption); conv => whnf) | (apply kF (by with_reducible first | rfl | assumption); conv => whnf) | (apply kT (by decide); conv => whnf) | (apply kF (by decide); conv => whnf) | (apply kB <;> intro _ <;> conv => whnf) | fail))
  all_goals (rename_i h; unfold inB; rw [h]; rfl)
theorem in_pure (n lo hi : Int) : Pure Try.prog 30 [dI n, dI lo, dI hi] (dB (inB n lo hi)) := by
  refine pure_of pg Try.func30 (by kernel_rfl) ?_
  conv => whnf
  (repeat' (first | (apply kT (by with_reducible first | rfl | assumption); conv => whnf) | (apply kF (by with_reducible first | rfl | assumption); conv => whnf) | (apply kT (by decide); conv => whnf) | (apply kF (by decide); conv => whnf) | (apply kB <;> intro _ <;> conv => whnf) | fail))
  all_goals (rename_i h; unfold inB; simp only [ge_iff_le] at *; rw [h]; rfl)
def ptB (x : P3) : Bool := inB x.1 0 1000 && decide (0 ≤ x.2.1) && decide (x.2.1 ≤ x.2.2) && decide (x.2.2 ≤ 100000)
def ruB (r : P3) : Bool := inB r.1 1 100000 && inB r.2.1 1 1000 && inB r.2.2 0 1000
attribute [local irreducible] Pure Bor Iter inB
theorem ptvalid_pure (x : P3) : Pure Try.prog 39 [.agg (ptD x)] (dB (ptB x)) := by
  refine pure_of pg Try.func39 (by kernel_rfl) ?_
  conv => whnf
  (repeat' (first | (apply kT (by with_reducible first | rfl | assumption); conv => whnf) | (apply kF (by with_reducible first | rfl | assumption); conv => whnf) | (apply kT (by decide); conv => whnf) | (apply kF (by decide); conv => whnf) | (apply kB <;> intro _ <;> conv => whnf) | (refine .inl ⟨_, within_pure .., ?_⟩; conv => whnf) | fail))
  all_goals (unfold ptB; simp only [*, Bool.true_and, Bool.false_and, Bool.and_true, Bool.and_false]; rfl)
theorem ruvalid_pure (r : P3) : Pure Try.prog 54 [ruD r] (dB (ruB r)) := by
  refine pure_of pg Try.func54 (by kernel_rfl) ?_
  conv => whnf
  (repeat' (first | (apply kT (by with_reducible first | rfl | assumption); conv => whnf) | (apply kF (by with_reducible first | rfl | assumption); conv => whnf) | (apply kT (by decide); conv => whnf) | (apply kF (by decide); conv => whnf) | (apply kB <;> intro _ <;> conv => whnf) | (refine .inl ⟨_, within_pure .., ?_⟩; conv => whnf) | fail))
  all_goals (unfold ruB; simp only [*, Bool.true_and, Bool.false_and, Bool.and_true, Bool.and_false]; rfl)
theorem isrule_pure (r : P3) : Pure Try.prog 43 [ruD r] (dB (ruB r)) := by
  refine pure_of pg Try.func43 (by kernel_rfl) ?_
  conv => whnf
  (repeat' (first | (apply kT (by with_reducible first | rfl | assumption); conv => whnf) | (apply kF (by with_reducible first | rfl | assumption); conv => whnf) | (apply kT (by decide); conv => whnf) | (apply kF (by decide); conv => whnf) | (apply kB <;> intro _ <;> conv => whnf) | (refine .inl ⟨_, in_pure .., ?_⟩; conv => whnf) | fail))
  all_goals (unfold ruB; simp only [*, Bool.true_and, Bool.false_and, Bool.and_true, Bool.and_false]; rfl)
abbrev rightO : Ob := .var false 84 [.d (.fn (.func 39) [] [])]
theorem all1_bor (x : P3) : Bor tb Try.prog 52 [.d (.agg (ptD x)), .ref 0 0] [rightO] 1 (.d (dB (!ptB x))) [(0, rightO)] := by
  refine bor_of pg Try.func52 (by kernel_rfl) ?_
  conv => whnf
  (refine .inl ⟨_, ptvalid_pure x, ?_⟩; conv => whnf)
  refine ⟨[], [0], ?_⟩
  conv => whnf
  exact ⟨rfl, rfl⟩
theorem indexFunc_bor (l : List P3) (hl : l.length ≤ 1000) : Bor tb Try.prog 64 [.d (ptsD l), .fn (.func 52) [] [.ref 0 0]] [rightO] 1 (.d (dI (match l.findIdx? (fun x => !ptB x) with | some i => (i : Int) | none => -1))) [(0, rightO)] := by
  have hm : ((List.map ptD l).length : Int) = (l.length : Int) := by rw [List.length_map]
  refine bor_of pg Try.func64 (by kernel_rfl) ?_
  conv => whnf
  refine ⟨[], [0, 1, 7, 8], [0], 1, fun m s => ∃ k : Nat, k + m = l.length ∧ (∀ i (h : i < k) (h' : i < l.length), ptB l[i] = true) ∧ s = ⟨[(0, .d (ptsD l)), (1, .fn (.func 52) [] [.ref 0 0]), (7, .d (dI (l.map ptD).length)), (8, .d (dI k))], [(0, rightO)], 1⟩, ?_, ?_⟩
  · conv => whnf
    exact ⟨l.length, 0, by simp, by simp, rfl⟩
  · rintro m _ ⟨k, hk, hall, rfl⟩
    conv => whnf
    (apply kB <;> intro h <;> conv => whnf)
    · have hlt : k < l.length := by rw [decide_eq_true_eq, hm] at h; omega
      (refine ⟨k, ptD l[k], rfl, getp l k hlt, rfl, ?_⟩; conv => whnf)
      (refine .inr ⟨[0], 1, _, _, all1_bor l[k], ?_⟩; conv => whnf)
      (apply kB <;> intro h1 <;> conv => whnf)
      · refine ⟨[], [0], ?_⟩
        conv => whnf
        refine ⟨?_, rfl⟩
        have hf : l.findIdx? (fun x => !ptB x) = some k := by
          rw [List.findIdx?_eq_some_iff_getElem]
          exact ⟨hlt, h1, fun j hj => by simp [hall j hj (by omega)]⟩
        rw [hf]
        rfl
      · refine ⟨m - 1, by omega, k + 1, by omega, fun i hi hi' => ?_, ?_⟩
        · rcases Nat.lt_or_ge i k with h2 | h2
          · exact hall i h2 hi'
          · have : i = k := by omega
            subst this
            simpa using h1
        · rw [w1 k (by omega)]
    · have hge : l.length ≤ k := by rw [decide_eq_false_iff_not, hm] at h; omega
      refine ⟨[], [0], ?_⟩
      conv => whnf
      refine ⟨?_, rfl⟩
      have hf : l.findIdx? (fun x => !ptB x) = none := by
        rw [List.findIdx?_eq_none_iff]
        intro x hx
        obtain ⟨i, hi, rfl⟩ := List.mem_iff_getElem.1 hx
        simp [hall i (by omega) hi]
      rw [hf]
      rfl
theorem contains_bor (l : List P3) (hl : l.length ≤ 1000) : Bor tb Try.prog 51 [.d (ptsD l), .fn (.func 52) [] [.ref 0 0]] [rightO] 1 (.d (dB (!l.all ptB))) [(0, rightO)] := by
  refine bor_of pg Try.func51 (by kernel_rfl) ?_
  conv => whnf
  (refine .inr ⟨[0], 1, _, _, indexFunc_bor l hl, ?_⟩; conv => whnf)
  refine ⟨[], [0], ?_⟩
  conv => whnf
  refine ⟨?_, rfl⟩
  show A.d (dB (decide ((match l.findIdx? (fun x => !ptB x) with | some i => (i : Int) | none => -1) ≥ 0))) = _
  congr 1
  cases h : l.findIdx? (fun x => !ptB x) with
  | none =>
    rw [List.findIdx?_eq_none_iff] at h
    have : l.all ptB = true := by
      rw [List.all_eq_true]
      intro x hx
      simpa using h x hx
    simp [this]
  | some i =>
    rw [List.findIdx?_eq_some_iff_getElem] at h
    obtain ⟨h1, h2, _⟩ := h
    have : l.all ptB = false := by
      rw [Bool.eq_false_iff]
      intro h3
      have := List.all_eq_true.1 h3 _ (List.getElem_mem h1)
      rw [this] at h2
      cases h2
    rw [this]
    have : (i : Int) ≥ 0 := by omega
    simp [this]
theorem all_pure (l : List P3) (hl : l.length ≤ 1000) : Pure Try.prog 38 [ptsD l, .fn (.func 39) [] []] (dB (l.all ptB)) := by
  refine pure_of pg Try.func38 (by kernel_rfl) ?_
  conv => whnf
  (refine .inr ⟨[0], 1, _, _, contains_bor l hl, ?_⟩; conv => whnf)
  simp [oneD]
end Go.Ev.Ytdgjogeddogbdaa

set_option linter.unusedVariables false
set_option linter.unusedSimpArgs false
set_option maxRecDepth 100000
namespace Go.Ev.Ytdgjogeddogbdaa
open Go.Proofs
/-- the point at a place -/
def pAt (l : List P3) (i : Nat) : P3 := l.getD i z3
theorem pAt_eq {l : List P3} {i : Nat} (h : i < l.length) : pAt l i = l[i] := by unfold pAt; rw [List.getD_eq_getElem?_getD, List.getElem?_eq_getElem h]; rfl
def goodB (l : List P3) (i : Nat) : Bool := ptB (pAt l i) && (decide (i = 0) || decide ((pAt l (i - 1)).1 < (pAt l i).1))
def okL (l : List P3) : Bool := (List.range l.length).all (goodB l)
theorem okL_iff {l : List P3} : okL l = true ↔ ∀ i, i < l.length → goodB l i = true := by unfold okL; simp [List.all_eq_true]
theorem okL_bad {l : List P3} {i : Nat} (hi : i < l.length) (h : goodB l i = false) : okL l = false := by
  rw [Bool.eq_false_iff]; intro h'; rw [okL_iff.1 h' i hi] at h; cases h
/-- the error of a curve -/
def ckC (l : List P3) : Int := if (l.length : Int) > 20 then 3 else if l.length = 0 then 1 else if okL l = false then 1 else 0
theorem ckC_bad {l : List P3} (h : ¬ (l.length : Int) > 20) (h' : okL l = false) : ckC l = 1 := by
  unfold ckC; rw [if_neg h, if_pos h']; split <;> rfl
theorem ckC_ok {l : List P3} (h : ¬ (l.length : Int) > 20) (h0 : l.length ≠ 0) (h' : okL l = true) : ckC l = 0 := by
  unfold ckC; rw [if_neg h, if_neg h0, if_neg (by simp [h'])]
attribute [local irreducible] Pure Bor Iter inB ptB ruB okL goodB
theorem check_pure (l : List P3) (hl : l.length ≤ 1000) : Pure Try.prog 13 [crD l] (dI (ckC l)) := by
  have hm : ((List.map ptD l).length : Int) = (l.length : Int) := by rw [List.length_map]
  refine pure_of pg Try.func13 (by kernel_rfl) ?_
  conv => whnf
  (apply kB <;> intro h <;> conv => whnf)
  · have hh := h
    rw [decide_eq_true_eq, hm] at hh
    unfold ckC; rw [if_pos hh]; rfl
  · have hh := h
    rw [decide_eq_false_iff_not, hm] at hh
    by_cases hl0 : l.length = 0
    · have h0 : (((List.map ptD l).length : Int) == 0) = true := by rw [hm, hl0]; rfl
      (repeat' (first | (apply kT (by with_reducible first | rfl | assumption); conv => whnf) | (apply kF (by with_reducible first | rfl | assumption); conv => whnf) | (apply kT (by decide); conv => whnf) | (apply kF (by decide); conv => whnf) | (apply kB <;> intro _ <;> conv => whnf) | fail))
      unfold ckC; rw [if_neg hh, if_pos hl0]; rfl
    · have h0 : (((List.map ptD l).length : Int) == 0) = false := by rw [beq_eq_false_iff_ne, hm]; omega
      have allp : l.all ptB = true ↔ ∀ i, i < l.length → ptB (pAt l i) = true := by
        rw [List.all_eq_true]
        constructor
        · intro h i hi; rw [pAt_eq hi]; exact h _ (List.getElem_mem hi)
        · intro h x hx
          obtain ⟨i, hi, rfl⟩ := List.mem_iff_getElem.1 hx
          rw [← pAt_eq hi]; exact h i hi
      (repeat' (first | (apply kT (by with_reducible first | rfl | assumption); conv => whnf) | (apply kF (by with_reducible first | rfl | assumption); conv => whnf) | (apply kT (by decide); conv => whnf) | (apply kF (by decide); conv => whnf) | (apply kB <;> intro _ <;> conv => whnf) | (refine .inl ⟨_, all_pure l hl, ?_⟩; conv => whnf) | fail))
      · rename_i h1
        have h1' : l.all ptB = false := by simpa using h1
        have hbad : okL l = false := by
          rw [Bool.eq_false_iff]; intro h2
          have := allp.2 fun i hi => by have := okL_iff.1 h2 i hi; unfold goodB at this; rw [Bool.and_eq_true] at this; exact this.1
          rw [this] at h1'; cases h1'
        rw [ckC_bad hh hbad]; rfl
      · rename_i h1
        have h1' : l.all ptB = true := by simpa using h1
        rw [allp] at h1'
        clear allp
        (refine ⟨1, rfl, ?_⟩; conv => whnf)
        (refine ⟨by rw [List.length_map]; omega, Nat.le_refl _, by intro el he; obtain ⟨x, _, rfl⟩ := List.mem_map.1 he; rfl, ?_⟩; conv => whnf)
        have hm2 : ((List.drop 1 (List.take (List.map ptD l).length (List.map ptD l))).length : Int) = ((l.length - 1 : Nat) : Int) := by simp
        refine ⟨[], [1, 23, 24, 25], [0], 1, fun m s => ∃ k : Nat, k + m = l.length - 1 ∧ (∀ i, i < k → (pAt l i).1 < (pAt l (i + 1)).1) ∧ s = ⟨[(1, .ref 0 0), (23, .d (.seq (List.drop 1 (List.take (List.map ptD l).length (List.map ptD l))))), (24, .d (dI (List.drop 1 (List.take (List.map ptD l).length (List.map ptD l))).length)), (25, .d (dI k))], [(0, .var false 34 [.d (ptsD l)])], 1⟩, ?_, ?_⟩
        · conv => whnf
          exact ⟨l.length - 1, 0, by omega, fun i hi => by omega, rfl⟩
        · rintro m _ ⟨k, hk, hall, rfl⟩
          conv => whnf
          (apply kB <;> intro h2 <;> conv => whnf)
          · have hlt : k < l.length - 1 := by rw [decide_eq_true_eq, hm2] at h2; omega
            (refine ⟨k, ptD l[k + 1], rfl, by rw [List.take_length, List.getElem?_drop, Nat.add_comm]; exact getp l (k + 1) (by omega), rfl, ?_⟩; conv => whnf)
            (refine ⟨k, ptD l[k], rfl, getp l k (by omega), rfl, ?_⟩; conv => whnf)
            (apply kB <;> intro h3 <;> conv => whnf)
            · have h3' := h3
              rw [decide_eq_true_eq] at h3'
              have hbad : okL l = false := okL_bad (i := k + 1) (by omega) (by
                unfold goodB
                rw [pAt_eq (by omega : k + 1 < l.length), pAt_eq (by omega : k + 1 - 1 < l.length)]
                simp only [Nat.add_sub_cancel, Bool.and_eq_false_iff, Bool.or_eq_false_iff, decide_eq_false_iff_not]
                exact .inr ⟨by omega, by omega⟩)
              rw [ckC_bad hh hbad]; rfl
            · have h3' := h3
              rw [decide_eq_false_iff_not] at h3'
              refine ⟨m - 1, by omega, k + 1, by omega, fun i hi => ?_, ?_⟩
              · rcases Nat.lt_or_ge i k with h4 | h4
                · exact hall i h4
                · have : i = k := by omega
                  subst this
                  rw [pAt_eq (by omega : i + 1 < l.length), pAt_eq (by omega : i < l.length)]
                  omega
              · rw [w1 k (by omega)]
          · have hge : l.length - 1 ≤ k := by rw [decide_eq_false_iff_not, hm2] at h2; omega
            have hgood : okL l = true := by
              rw [okL_iff]; intro i hi
              unfold goodB
              rw [Bool.and_eq_true, Bool.or_eq_true]
              refine ⟨h1' i hi, ?_⟩
              rcases i with _ | i
              · exact .inl (by simp)
              · exact .inr (by simpa using hall i (by omega))
            rw [ckC_ok hh hl0 hgood]; rfl
/-- the error of a curve with a rule -/
def erC (l : List P3) (r : P3) : Int := if ckC l = 0 then if ruB r = true then 0 else 1 else ckC l
attribute [local irreducible] ckC
theorem read_pure (l : List P3) (hl : l.length ≤ 1000) (r : P3) : Pure Try.prog 40 [crD l, ruD r] (.tup [rdD l r, dI (erC l r)]) := by
  refine pure_of pg Try.func40 (by kernel_rfl) ?_
  conv => whnf
  (repeat' (first | (apply kT (by with_reducible first | rfl | assumption); conv => whnf) | (apply kF (by with_reducible first | rfl | assumption); conv => whnf) | (apply kT (by decide); conv => whnf) | (apply kF (by decide); conv => whnf) | (apply kB <;> intro _ <;> conv => whnf) | (refine .inl ⟨_, check_pure l hl, ?_⟩; conv => whnf) | (refine .inl ⟨_, ruvalid_pure r, ?_⟩; conv => whnf) | fail))
  · rename_i h h1
    have e : ckC l = 0 := eq_of_beq h
    have e1 : ruB r = false := by simpa using h1
    unfold erC; rw [if_pos e, if_neg (by simp [e1])]; rfl
  · rename_i h h1
    have e : ckC l = 0 := eq_of_beq h
    have e1 : ruB r = true := by simpa using h1
    unfold erC; rw [if_pos e, if_pos e1, e]; rfl
  · rename_i h
    have e : ckC l ≠ 0 := by intro e; rw [e] at h; exact absurd h (by decide)
    unfold erC; rw [if_neg e]; rfl
/-- has a list just a load of each point's range? -/
def truB (l : List P3) (t : List Int) : Bool := decide (t.length = l.length) && (List.range t.length).all fun i => inB (t.getD i 0) (pAt l i).2.1 (pAt l i).2.2
theorem tAt {t : List Int} {i : Nat} (h : i < t.length) : t.getD i 0 = t[i] := by rw [List.getD_eq_getElem?_getD, List.getElem?_eq_getElem h]; rfl
theorem truB_iff {l : List P3} {t : List Int} : truB l t = true ↔ t.length = l.length ∧ ∀ i, i < t.length → inB (t.getD i 0) (pAt l i).2.1 (pAt l i).2.2 = true := by unfold truB; simp [List.all_eq_true]
theorem truB_bad {l : List P3} {t : List Int} {i : Nat} (hi : i < t.length) (h : inB (t.getD i 0) (pAt l i).2.1 (pAt l i).2.2 = false) : truB l t = false := by
  rw [Bool.eq_false_iff]; intro h'; rw [(truB_iff.1 h').2 i hi] at h; cases h
theorem truB_len {l : List P3} {t : List Int} (h : t.length ≠ l.length) : truB l t = false := by
  rw [Bool.eq_false_iff]; intro h'; exact h (truB_iff.1 h').1
attribute [local irreducible] truB
theorem truth_pure (l : List P3) (hl : l.length ≤ 1000) (r : P3) (t : List Int) : Pure Try.prog 41 [rdD l r, isD t] (dB (truB l t)) := by
  have hm : ((List.map ptD l).length : Int) = (l.length : Int) := by rw [List.length_map]
  have hm2 : ((List.map (fun n => [dI n]) t).length : Int) = (t.length : Int) := by rw [List.length_map]
  refine pure_of pg Try.func41 (by kernel_rfl) ?_
  conv => whnf
  (apply kB <;> intro h <;> conv => whnf)
  · have h' : t.length ≠ l.length := by rw [hm, hm2, bne_iff_ne] at h; omega
    rw [truB_len h']; rfl
  · have h' : t.length = l.length := by have := h; rw [hm, hm2, bne_eq_false_iff_eq] at this; omega
    refine ⟨[], [1, 2, 15, 16, 17], [0], 1, fun m s => ∃ k : Nat, k + m = t.length ∧ (∀ i, i < k → inB (t.getD i 0) (pAt l i).2.1 (pAt l i).2.2 = true) ∧ s = ⟨[(1, .d (isD t)), (2, .ref 0 0), (15, .d (isD t)), (16, .d (dI (t.map fun n => [dI n]).length)), (17, .d (dI k))], [(0, .var false 86 [.d (ptsD l), .d (dI r.1), .d (dI r.2.1), .d (dI r.2.2)])], 1⟩, ?_, ?_⟩
    · conv => whnf
      exact ⟨t.length, 0, by omega, fun i hi => by omega, rfl⟩
    · rintro m _ ⟨k, hk, hall, rfl⟩
      conv => whnf
      (apply kB <;> intro h2 <;> conv => whnf)
      · have hlt : k < t.length := by rw [decide_eq_true_eq, hm2] at h2; omega
        (refine ⟨k, [dI t[k]], rfl, geti t k hlt, rfl, ?_⟩; conv => whnf)
        (refine ⟨k, ptD l[k], rfl, getp l k (by omega), rfl, ?_⟩; conv => whnf)
        (refine .inl ⟨_, within_pure .., ?_⟩; conv => whnf)
        have e : inB (t.getD k 0) (pAt l k).2.1 (pAt l k).2.2 = inB t[k] l[k].2.1 l[k].2.2 := by rw [tAt hlt, pAt_eq (by omega)]
        (apply kB <;> intro h3 <;> conv => whnf)
        · have h3' : inB t[k] l[k].2.1 l[k].2.2 = false := by simpa using h3
          rw [truB_bad hlt (e.trans h3')]; rfl
        · have h3' : inB t[k] l[k].2.1 l[k].2.2 = true := by simpa using h3
          refine ⟨m - 1, by omega, k + 1, by omega, fun i hi => ?_, ?_⟩
          · rcases Nat.lt_or_ge i k with h4 | h4
            · exact hall i h4
            · have : i = k := by omega
              subst this
              exact e.trans h3'
          · rw [w1 k (by omega)]
      · have hge : t.length ≤ k := by rw [decide_eq_false_iff_not, hm2] at h2; omega
        rw [truB_iff.2 ⟨h', fun i hi => hall i (by omega)⟩]; rfl
end Go.Ev.Ytdgjogeddogbdaa

set_option linter.unusedVariables false
set_option linter.unusedSimpArgs false
namespace Go.Ev.Ytdgjogeddogbdaa
open Go.Proofs
structure VC (l : List P3) (r : P3) : Prop where
  len : l.length ≤ 20
  pos : l.length ≠ 0
  pt : ∀ i, i < l.length → 0 ≤ (pAt l i).1 ∧ (pAt l i).1 ≤ 1000 ∧ 0 ≤ (pAt l i).2.1 ∧ (pAt l i).2.1 ≤ (pAt l i).2.2 ∧ (pAt l i).2.2 ≤ 100000
  up : ∀ i, i + 1 < l.length → (pAt l i).1 < (pAt l (i + 1)).1
  drop : 1 ≤ r.1 ∧ r.1 ≤ 100000
  slope : 1 ≤ r.2.1 ∧ r.2.1 ≤ 1000
  off : 0 ≤ r.2.2 ∧ r.2.2 ≤ 1000
theorem inB_iff {n lo hi : Int} : inB n lo hi = true ↔ lo ≤ n ∧ n ≤ hi := by unfold inB; simp
theorem erC_iff {l : List P3} {r : P3} : erC l r = 0 ↔ VC l r := by
  constructor
  · intro h
    unfold erC at h
    split at h
    · rename_i hc
      split at h
      · rename_i hr
        unfold ckC at hc
        split at hc
        · cases hc
        · rename_i h20
          split at hc
          · cases hc
          · rename_i h0
            split at hc
            · cases hc
            · rename_i hok
              have hok : okL l = true := by simpa using hok
              rw [okL_iff] at hok
              unfold ruB at hr
              rw [Bool.and_eq_true, Bool.and_eq_true, inB_iff, inB_iff, inB_iff] at hr
              refine ⟨by omega, h0, fun i hi => ?_, fun i hi => ?_, hr.1.1, hr.1.2, hr.2⟩
              · have := hok i hi
                unfold goodB ptB at this
                simp only [Bool.and_eq_true, inB_iff, decide_eq_true_eq] at this
                omega
              · have := hok (i + 1) hi
                unfold goodB at this
                simp only [Bool.and_eq_true, Bool.or_eq_true, decide_eq_true_eq, Nat.add_sub_cancel] at this
                omega
      · cases h
    · rename_i hc; exact absurd h hc
  · intro h
    have hr : ruB r = true := by
      unfold ruB
      rw [Bool.and_eq_true, Bool.and_eq_true, inB_iff, inB_iff, inB_iff]
      exact ⟨⟨h.drop, h.slope⟩, h.off⟩
    have hc : ckC l = 0 := by
      refine ckC_ok (by have := h.len; omega) h.pos (okL_iff.2 fun i hi => ?_)
      have h1 := h.pt i hi
      unfold goodB ptB
      simp only [Bool.and_eq_true, Bool.or_eq_true, inB_iff, decide_eq_true_eq]
      refine ⟨by omega, ?_⟩
      rcases i with _ | i
      · exact .inl rfl
      · exact .inr (by simpa using h.up i hi)
    unfold erC; rw [if_pos hc, if_pos hr]
theorem mul_bd {a b : Int} {A B : Nat} (h1 : -(A : Int) ≤ a) (h2 : a ≤ A) (h3 : -(B : Int) ≤ b) (h4 : b ≤ B) : -((A * B : Nat) : Int) ≤ a * b ∧ a * b ≤ ((A * B : Nat) : Int) := by
  have ha : a.natAbs ≤ A := by omega
  have hb : b.natAbs ≤ B := by omega
  have h := Nat.mul_le_mul ha hb
  rw [← Int.natAbs_mul] at h
  omega
/-- the line at a point -/
def lineI (l : List P3) (r : P3) (i : Nat) : Int := r.2.1 * ((pAt l i).1 - r.2.2)
theorem lineI_bd {l : List P3} {r : P3} (h : VC l r) {i : Nat} (hi : i < l.length) : -1000000 ≤ lineI l r i ∧ lineI l r i ≤ 1000000 := by
  have h1 := h.pt i hi
  have h2 := h.slope
  have h3 := h.off
  have := mul_bd (a := r.2.1) (b := (pAt l i).1 - r.2.2) (A := 1000) (B := 1000) (by omega) (by omega) (by omega) (by omega)
  unfold lineI
  omega
/-- a load at a place -/
def tA (t : List Int) (i : Nat) : Int := t.getD i 0
theorem tA_eq {t : List Int} {i : Nat} (h : i < t.length) : tA t i = t[i] := tAt h
/-- as many loads as points, none of them too great -/
def TB (l : List P3) (t : List Int) : Prop := t.length = l.length ∧ ∀ i, i < t.length → 0 ≤ tA t i ∧ tA t i ≤ 100000
theorem TB.of {l : List P3} {r : P3} {t : List Int} (h : VC l r) (ht : truB l t = true) : TB l t := by
  obtain ⟨h1, h2⟩ := truB_iff.1 ht
  refine ⟨h1, fun i hi => ?_⟩
  have h3 := h2 i hi
  rw [inB_iff] at h3
  have h4 := h.pt i (by omega)
  unfold tA
  omega
theorem tru_bd {l : List P3} {r : P3} {t : List Int} (_ : VC l r) (ht : TB l t) {i : Nat} (hi : i < t.length) : 0 ≤ tA t i ∧ tA t i ≤ 100000 := ht.2 i hi
theorem floor_t {n b : Int} (hb : 0 < b) : (if n.tmod b < 0 then n.tdiv b - 1 else n.tdiv b) = n / b := by
  have h1 := Int.mul_tdiv_add_tmod n b
  have h2 := Int.mul_ediv_add_emod n b
  have h3 := Int.emod_nonneg n (by omega : b ≠ 0)
  have h4 := Int.emod_lt_of_pos n hb
  have h5 : n.tmod b < b ∧ -b < n.tmod b := by
    rcases Int.le_total 0 n with h | h
    · have := Int.tmod_nonneg b h
      have := Int.tmod_lt_of_pos n hb
      omega
    · have := Int.tmod_lt_of_pos (-n) hb
      have := Int.tmod_nonneg b (show 0 ≤ -n by omega)
      rw [Int.neg_tmod] at *
      omega
  generalize n.tmod b = x at *
  generalize n.tdiv b = q at *
  generalize n / b = q' at *
  generalize n % b = y at *
  have key : b * (q - q') = y - x := by rw [Int.mul_sub]; omega
  have lim : ∀ d : Int, b * d < b → d ≤ 0 := fun d h => by
    rcases Int.lt_or_le 0 d with h' | h'
    · have : b * 1 ≤ b * d := Int.mul_le_mul_of_nonneg_left (by omega) (by omega)
      omega
    · exact h'
  have lim2 : ∀ d : Int, -b < b * d → 0 ≤ d := fun d h => by
    rcases Int.lt_or_le d 0 with h' | h'
    · have : b * d ≤ b * (-1) := Int.mul_le_mul_of_nonneg_left (by omega) (by omega)
      omega
    · exact h'
  split
  · rename_i hx
    have k1 : b * (q - q' - 1) = y - x - b := by rw [Int.mul_sub, key]; omega
    have := lim (q - q' - 1) (by omega)
    have := lim2 (q - q' - 1) (by omega)
    omega
  · rename_i hx
    have := lim (q - q') (by omega)
    have := lim2 (q - q') (by omega)
    omega
theorem floor_m {n b : Int} (hb : 0 < b) : (if n < 0 ∧ n.tdiv b * b ≠ n then n.tdiv b - 1 else n.tdiv b) = n / b := by
  rw [← floor_t hb]
  have h1 := Int.mul_tdiv_add_tmod n b
  rw [Int.mul_comm] at h1
  have h2 : 0 ≤ n → 0 ≤ n.tmod b := fun h => Int.tmod_nonneg b h
  have h3 : n < 0 → n.tmod b ≤ 0 := fun h => by
    have := Int.tmod_nonneg b (show 0 ≤ -n by omega)
    rw [Int.neg_tmod] at this
    omega
  generalize n.tdiv b * b = p at *
  by_cases hn : n < 0
  · by_cases hx : n.tmod b < 0
    · rw [if_pos hx, if_pos ⟨hn, by omega⟩]
    · rw [if_neg hx, if_neg (by have := h3 hn; omega)]
  · rw [if_neg (by omega), if_neg (by have := h2 (by omega); omega)]
/-- the first place at which something is so; -1: none -/
def fstN (P : Nat → Bool) : Nat → Int
  | 0 => -1
  | k + 1 => if fstN P k = -1 ∧ P k = true then k else fstN P k
theorem fstN_spec (P : Nat → Bool) : ∀ k, (fstN P k = -1 ∧ ∀ j, j < k → P j = false) ∨ ∃ m : Nat, fstN P k = m ∧ m < k ∧ P m = true ∧ ∀ j, j < m → P j = false
  | 0 => .inl ⟨rfl, fun j h => by omega⟩
  | k + 1 => by
    rw [fstN]
    rcases fstN_spec P k with ⟨h1, h2⟩ | ⟨m, h1, h2, h3, h4⟩
    · cases h : P k with
      | true => rw [if_pos ⟨h1, rfl⟩]; exact .inr ⟨k, rfl, by omega, h, h2⟩
      | false =>
        rw [if_neg (by simp)]
        refine .inl ⟨h1, fun j hj => ?_⟩
        rcases Nat.lt_or_ge j k with h5 | h5
        · exact h2 j h5
        · have : j = k := by omega
          subst this; exact h
    · rw [if_neg (by omega)]
      exact .inr ⟨m, h1, by omega, h3, h4⟩
theorem fstN_no {P : Nat → Bool} {k : Nat} (h : fstN P k = -1) : ∀ j, j < k → P j = false := by
  rcases fstN_spec P k with ⟨_, h2⟩ | ⟨m, h1, _⟩
  · exact h2
  · omega
theorem fstN_neg {P : Nat → Bool} {k : Nat} : fstN P k < 0 ↔ fstN P k = -1 := by
  rcases fstN_spec P k with ⟨h1, h2⟩ | ⟨m, h1, _⟩ <;> omega
theorem fstN_lt {P : Nat → Bool} {k : Nat} : fstN P k < k := by
  rcases fstN_spec P k with ⟨h1, h2⟩ | ⟨m, h1, h2, _⟩ <;> omega
theorem fstN_ge {P : Nat → Bool} {k : Nat} : -1 ≤ fstN P k := by
  rcases fstN_spec P k with ⟨h1, h2⟩ | ⟨m, h1, h2, _⟩ <;> omega
/-- the strength, and the peak, of the first loads -/
def maxN (t : List Int) : Nat → Int × Int
  | 0 => (-1, 0)
  | k + 1 => if tA t k > (maxN t k).1 then (tA t k, k) else maxN t k
def yP (t : List Int) (r : P3) (i : Nat) : Bool := decide (i + 1 < t.length) && decide (tA t i - tA t (i + 1) ≥ r.1)
def mP (l : List P3) (r : P3) (t : List Int) (i : Nat) : Bool := decide (tA t i ≤ lineI l r i)
/-- the load at which the straight piece before a point meets the line -/
def metI (l : List P3) (r : P3) (t : List Int) (i : Nat) : Int :=
  tA t (i - 1) + ((tA t i - tA t (i - 1)) * (tA t (i - 1) - lineI l r (i - 1))) / ((tA t (i - 1) - lineI l r (i - 1)) + (lineI l r i - tA t i))
def yvN (t : List Int) (r : P3) (k : Nat) : Int := if fstN (yP t r) k = -1 then 0 else tA t (fstN (yP t r) k).toNat
def mv (l : List P3) (r : P3) (t : List Int) (m : Int) : Int := if m = -1 then 0 else if m = 0 then tA t 0 else metI l r t m.toNat
def mvN (l : List P3) (r : P3) (t : List Int) (k : Nat) : Int := mv l r t (fstN (mP l r t) k)
def wkN (l : List P3) (t : List Int) : Nat → Int
  | 0 => 0
  | k + 1 => if k = 0 then 0 else wkN l t k + (tA t (k - 1) + tA t k) * ((pAt l k).1 - (pAt l (k - 1)).1)
/-- what is read in the first loads -/
def resL7 (l : List P3) (r : P3) (t : List Int) (k : Nat) : List D :=
  [dI (maxN t k).1, dI (maxN t k).2, dI (fstN (yP t r) k), dI (yvN t r k), dI (fstN (mP l r t) k), dI (mvN l r t k), dI (wkN l t k)]
theorem yvN_succ {t : List Int} {r : P3} {k : Nat} : yvN t r (k + 1) = if fstN (yP t r) k = -1 ∧ yP t r k = true then tA t k else yvN t r k := by
  unfold yvN
  rw [fstN]
  split
  · rw [if_neg (by omega), Int.toNat_natCast]
  · rfl
theorem mvN_succ {l : List P3} {r : P3} {t : List Int} {k : Nat} : mvN l r t (k + 1) = if fstN (mP l r t) k = -1 ∧ mP l r t k = true then (if k = 0 then tA t 0 else metI l r t k) else mvN l r t k := by
  unfold mvN mv
  rw [fstN]
  split
  · rw [if_neg (by omega), Int.toNat_natCast]
    by_cases hk : k = 0
    · rw [if_pos hk, if_pos (by omega)]
    · rw [if_neg hk, if_neg (by omega)]
  · rfl
theorem wkN_bd {l : List P3} {r : P3} {t : List Int} (h : VC l r) (ht : TB l t) : ∀ k, k ≤ t.length → 0 ≤ wkN l t k ∧ wkN l t k ≤ 200000000 * k
  | 0, _ => by simp [wkN]
  | k + 1, hk => by
    rw [wkN]
    split
    · omega
    · rename_i hk0
      have hl := ht.1
      have h0 := wkN_bd h ht k (by omega)
      have h1 := tru_bd h ht (i := k) (by omega)
      have h2 := tru_bd h ht (i := k - 1) (by omega)
      have h3 := h.pt k (by omega)
      have h4 := h.pt (k - 1) (by omega)
      have h5 := h.up (k - 1) (by omega)
      rw [Nat.sub_add_cancel (by omega)] at h5
      have h6 := mul_bd (a := tA t (k - 1) + tA t k) (b := (pAt l k).1 - (pAt l (k - 1)).1) (A := 200000) (B := 1000) (by omega) (by omega) (by omega) (by omega)
      have h7 : 0 ≤ (tA t (k - 1) + tA t k) * ((pAt l k).1 - (pAt l (k - 1)).1) := Int.mul_nonneg (by omega) (by omega)
      omega
end Go.Ev.Ytdgjogeddogbdaa

set_option linter.unusedVariables false
set_option linter.unusedSimpArgs false
set_option maxRecDepth 100000
namespace Go.Ev.Ytdgjogeddogbdaa
open Go.Proofs
theorem line_w {l : List P3} {r : P3} (h : VC l r) {k : Nat} (hk : k < l.length) : IntKind.i64.wrap (r.2.1 * IntKind.i64.wrap ((l[k]).1 - r.2.2)) = lineI l r k := by
  have h1 := h.pt k hk
  have h2 := lineI_bd h hk
  have h3 := h.off
  rw [pAt_eq hk] at h1
  unfold lineI at h2 ⊢
  rw [pAt_eq hk] at h2 ⊢
  rw [wrapI (n := (l[k]).1 - r.2.2) (by omega) (by omega), wrapI (by omega) (by omega)]
attribute [local irreducible] Pure Bor Iter inB ptB ruB okL goodB lineI ckC truB
theorem line_pure {l : List P3} {r : P3} (h : VC l r) (k : Nat) (hk : k < l.length) : Pure Try.prog 56 [rdD l r, dI k] (dI (lineI l r k)) := by
  refine pure_of pg Try.func56 (by kernel_rfl) ?_
  conv => whnf
  (refine ⟨k, ptD l[k], rfl, getp l k hk, rfl, ?_⟩; conv => whnf)
  rw [line_w h hk]; rfl
theorem rline_pure {l : List P3} {r : P3} (h : VC l r) (k : Nat) (hk : k < l.length) : Pure Try.prog 44 [crD l, ruD r, dI k] (dI (lineI l r k)) := by
  refine pure_of pg Try.func44 (by kernel_rfl) ?_
  conv => whnf
  (refine ⟨k, ptD l[k], rfl, getp l k hk, rfl, ?_⟩; conv => whnf)
  rw [line_w h hk]; rfl
theorem drops_pure (l : List P3) (r : P3) (a b : Int) (h1 : 0 ≤ a ∧ a ≤ 100000) (h2 : 0 ≤ b ∧ b ≤ 100000) : Pure Try.prog 55 [rdD l r, dI a, dI b] (dB (decide (a - b ≥ r.1))) := by
  have e : IntKind.i64.wrap (a - b) = a - b := wrapI (by omega) (by omega)
  refine pure_of pg Try.func55 (by kernel_rfl) ?_
  conv => whnf
  rw [e]; rfl
/-- the quotient, rounded down -/
def flo (n b : Int) : Int := n / b
theorem flo_bd {n b : Int} (hb : 0 < b) (h : -200000000000 ≤ n ∧ n ≤ 200000000000) : -200000000000 ≤ flo n b ∧ flo n b ≤ 200000000000 := by
  unfold flo
  constructor
  · refine Int.le_ediv_of_mul_le hb ?_
    have : (200000000000 : Int) * 1 ≤ 200000000000 * b := Int.mul_le_mul_of_nonneg_left (by omega) (by omega)
    rw [Int.neg_mul]; omega
  · refine Int.le_trans (Int.ediv_le_ediv hb h.2) ?_
    exact Int.ediv_le_self _ (by omega)
theorem meets_pure {l : List P3} {r : P3} (h : VC l r) {t : List Int} (ht : TB l t) (k : Nat) (hk : k + 1 < t.length) (hb : mP l r t k = false) (hm : mP l r t (k + 1) = true) :
    Pure Try.prog 57 [rdD l r, dI ((k + 1 : Nat) : Int), dI (tA t k), dI (tA t (k + 1))] (dI (metI l r t (k + 1))) := by
  have hl := ht.1
  have hlen := h.len
  have b1 := tru_bd h ht (i := k) (by omega)
  have b2 := tru_bd h ht (i := k + 1) (by omega)
  have l1 := lineI_bd h (i := k) (by omega)
  have l2 := lineI_bd h (i := k + 1) (by omega)
  have hb' : tA t k > lineI l r k := by unfold mP at hb; rw [decide_eq_false_iff_not] at hb; omega
  have hm' : tA t (k + 1) ≤ lineI l r (k + 1) := by unfold mP at hm; rwa [decide_eq_true_eq] at hm
  have c1 := line_pure h k (by omega)
  have c2 := line_pure h (k + 1) (by omega)
  have e0 : IntKind.i64.wrap (((k + 1 : Nat) : Int) - 1) = (k : Int) := by rw [wrapI (by omega) (by omega)]; omega
  have hmet : metI l r t (k + 1) = tA t k + flo ((tA t (k + 1) - tA t k) * (tA t k - lineI l r k)) ((tA t k - lineI l r k) + (lineI l r (k + 1) - tA t (k + 1))) := by unfold metI flo; simp only [Nat.add_sub_cancel]
  rw [hmet]
  generalize tA t k = a at *
  generalize tA t (k + 1) = b at *
  generalize lineI l r k = p at *
  generalize lineI l r (k + 1) = q at *
  have e1 : IntKind.i64.wrap (a - p) = a - p := wrapI (by omega) (by omega)
  have e2 : IntKind.i64.wrap (q - b) = q - b := wrapI (by omega) (by omega)
  have e3 : IntKind.i64.wrap (b - a) = b - a := wrapI (by omega) (by omega)
  have pb := mul_bd (a := b - a) (b := a - p) (A := 100000) (B := 1100000) (by omega) (by omega) (by omega) (by omega)
  obtain ⟨u, hu⟩ : ∃ u, (b - a) * (a - p) = u := ⟨_, rfl⟩
  obtain ⟨v, hv⟩ : ∃ v, (a - p) + (q - b) = v := ⟨_, rfl⟩
  rw [hu, hv]
  rw [hu] at pb
  have e4 : IntKind.i64.wrap ((b - a) * (a - p)) = u := by rw [hu]; exact wrapI (by omega) (by omega)
  have e5 : IntKind.i64.wrap ((a - p) + (q - b)) = v := by rw [hv]; exact wrapI (by omega) (by omega)
  have hpos : 0 < v := by omega
  have fb := flo_bd hpos (n := u) (by omega)
  have ff : (if u.tmod v < 0 then u.tdiv v - 1 else u.tdiv v) = flo u v := floor_t hpos (n := u)
  have td : -200000000001 ≤ u.tdiv v ∧ u.tdiv v ≤ 200000000001 := by split at ff <;> omega
  have e6 : IntKind.i64.wrap (u.tdiv v) = u.tdiv v := wrapI (by omega) (by omega)
  have e7 : IntKind.i64.wrap (u.tdiv v - 1) = u.tdiv v - 1 := wrapI (by omega) (by omega)
  have e8 : IntKind.i64.wrap (a + flo u v) = a + flo u v := wrapI (by omega) (by omega)
  rw [← e0] at c1
  refine pure_of pg Try.func57 (by kernel_rfl) ?_
  conv => whnf
  (refine .inl ⟨_, c1, ?_⟩; conv => whnf)
  (refine .inl ⟨_, c2, ?_⟩; conv => whnf)
  rw [e1, e2, e3, e4, e5]
  (refine ⟨by omega, ?_⟩; conv => whnf)
  (refine ⟨by omega, ?_⟩; conv => whnf)
  rw [e6]
  by_cases hx : u.tmod v < 0
  · rw [if_pos hx] at ff
    (apply kT ((by rw [decide_eq_true_eq]; exact hx)); conv => whnf)
    rw [e7, ff, e8]; rfl
  · rw [if_neg hx] at ff
    (apply kF ((by rw [decide_eq_false_iff_not]; exact hx)); conv => whnf)
    rw [ff, e8]; rfl
end Go.Ev.Ytdgjogeddogbdaa

set_option linter.unusedVariables false
set_option linter.unusedSimpArgs false
set_option maxRecDepth 100000
namespace Go.Ev.Ytdgjogeddogbdaa
open Go.Proofs
theorem getpa (l : List P3) (k : Nat) (h : k < l.length) : (l.map ptD)[k]? = some (ptD (pAt l k)) := by rw [pAt_eq h]; exact getp l k h
theorem geta (t : List Int) (k : Nat) (h : k < t.length) : (t.map fun n => [dI n])[k]? = some [dI (tA t k)] := by rw [tA_eq h]; exact geti t k h
theorem max_cases (t : List Int) (k : Nat) :
    (decide (tA t k > (maxN t k).1) = true ∧ (maxN t (k + 1)).1 = tA t k ∧ (maxN t (k + 1)).2 = k) ∨
    (decide (tA t k > (maxN t k).1) = false ∧ (maxN t (k + 1)).1 = (maxN t k).1 ∧ (maxN t (k + 1)).2 = (maxN t k).2) := by
  rw [maxN]
  by_cases h : tA t k > (maxN t k).1
  · rw [if_pos h]; exact .inl ⟨by rw [decide_eq_true_eq]; exact h, rfl, rfl⟩
  · rw [if_neg h]; exact .inr ⟨by rw [decide_eq_false_iff_not]; exact h, rfl, rfl⟩
theorem y_cases (t : List Int) (r : P3) (k : Nat) :
    ((fstN (yP t r) k == -1) = true ∧ k + 1 < t.length ∧ decide (tA t k - tA t (k + 1) ≥ r.1) = true ∧ fstN (yP t r) (k + 1) = k ∧ yvN t r (k + 1) = tA t k) ∨
    ((fstN (yP t r) k == -1) = true ∧ k + 1 < t.length ∧ decide (tA t k - tA t (k + 1) ≥ r.1) = false ∧ fstN (yP t r) (k + 1) = fstN (yP t r) k ∧ yvN t r (k + 1) = yvN t r k) ∨
    ((fstN (yP t r) k == -1) = true ∧ ¬ k + 1 < t.length ∧ True ∧ fstN (yP t r) (k + 1) = fstN (yP t r) k ∧ yvN t r (k + 1) = yvN t r k) ∨
    ((fstN (yP t r) k == -1) = false ∧ True ∧ True ∧ fstN (yP t r) (k + 1) = fstN (yP t r) k ∧ yvN t r (k + 1) = yvN t r k) := by
  rw [yvN_succ, fstN]
  by_cases h : fstN (yP t r) k = -1
  · by_cases h1 : k + 1 < t.length
    · by_cases h2 : tA t k - tA t (k + 1) ≥ r.1
      · have hp : yP t r k = true := by unfold yP; simp [h1, h2]
        rw [if_pos ⟨h, hp⟩, if_pos ⟨h, hp⟩]
        exact .inl ⟨by rw [h]; rfl, h1, by rw [decide_eq_true_eq]; exact h2, rfl, rfl⟩
      · have hp : yP t r k = false := by unfold yP; simp [h2]
        rw [if_neg (by simp [hp]), if_neg (by simp [hp])]
        exact .inr (.inl ⟨by rw [h]; rfl, h1, by rw [decide_eq_false_iff_not]; exact h2, rfl, rfl⟩)
    · have hp : yP t r k = false := by unfold yP; simp [h1]
      rw [if_neg (by simp [hp]), if_neg (by simp [hp])]
      exact .inr (.inr (.inl ⟨by rw [h]; rfl, h1, trivial, rfl, rfl⟩))
  · rw [if_neg (by simp [h]), if_neg (by simp [h])]
    exact .inr (.inr (.inr ⟨by rw [beq_eq_false_iff_ne]; exact h, trivial, trivial, rfl, rfl⟩))
theorem m_cases (l : List P3) (r : P3) (t : List Int) (k : Nat) :
    ((fstN (mP l r t) k == -1) = true ∧ decide (tA t k ≤ lineI l r k) = true ∧ fstN (mP l r t) (k + 1) = k ∧ mvN l r t (k + 1) = if k = 0 then tA t k else metI l r t k) ∨
    ((fstN (mP l r t) k == -1) = true ∧ decide (tA t k ≤ lineI l r k) = false ∧ fstN (mP l r t) (k + 1) = fstN (mP l r t) k ∧ mvN l r t (k + 1) = mvN l r t k) ∨
    ((fstN (mP l r t) k == -1) = false ∧ True ∧ fstN (mP l r t) (k + 1) = fstN (mP l r t) k ∧ mvN l r t (k + 1) = mvN l r t k) := by
  rw [mvN_succ, fstN]
  have hm : mP l r t k = decide (tA t k ≤ lineI l r k) := rfl
  by_cases h : fstN (mP l r t) k = -1
  · by_cases h2 : tA t k ≤ lineI l r k
    · have hp : mP l r t k = true := by rw [hm, decide_eq_true_eq]; exact h2
      rw [if_pos ⟨h, hp⟩, if_pos ⟨h, hp⟩]
      exact .inl ⟨by rw [h]; rfl, by rw [decide_eq_true_eq]; exact h2, rfl, by by_cases h0 : k = 0 <;> simp [h0]⟩
    · have hp : mP l r t k = false := by rw [hm, decide_eq_false_iff_not]; exact h2
      rw [if_neg (by simp [hp]), if_neg (by simp [hp])]
      exact .inr (.inl ⟨by rw [h]; rfl, by rw [decide_eq_false_iff_not]; exact h2, rfl, rfl⟩)
  · rw [if_neg (by simp [h]), if_neg (by simp [h])]
    exact .inr (.inr ⟨by rw [beq_eq_false_iff_ne]; exact h, trivial, rfl, rfl⟩)
/-- what is read in a truth -/
def resD (l : List P3) (r : P3) (t : List Int) : D := .agg (resL7 l r t t.length)
attribute [local irreducible] Pure Bor Iter inB ptB ruB okL goodB lineI ckC truB maxN fstN yvN mvN wkN metI tA pAt
set_option maxHeartbeats 4000000 in
theorem result_pure {l : List P3} {r : P3} (h : VC l r) {t : List Int} (ht : TB l t) : Pure Try.prog 42 [rdD l r, isD t] (resD l r t) := by
  have hm2 : ((List.map (fun n => [dI n]) t).length : Int) = (t.length : Int) := by rw [List.length_map]
  have hl := ht.1
  have hlen := h.len
  refine pure_of pg Try.func42 (by kernel_rfl) ?_
  conv => whnf
  refine ⟨[], [1, 2, 4, 5, 6, 12, 13, 14], [0, 1, 2], 3, fun m s => ∃ k : Nat, k + m = t.length ∧ s = ⟨[(1, .d (isD t)), (2, .ref 0 0), (4, .ref 1 0), (5, .ref 2 0), (6, .d (.fn (.func 55) [rdD l r] [])), (12, .d (isD t)), (13, .d (dI (t.map fun n => [dI n]).length)), (14, .d (dI k))],
    [(0, .var false 86 [.d (ptsD l), .d (dI r.1), .d (dI r.2.1), .d (dI r.2.2)]), (1, .var false 37 [.d (dI 0), .d (dI 0), .d (dI 0), .d (dI 0), .d (dI 0), .d (dI 0), .d (dI 0)]),
     (2, .var false 37 [.d (dI (maxN t k).1), .d (dI (maxN t k).2), .d (dI (fstN (yP t r) k)), .d (dI (yvN t r k)), .d (dI (fstN (mP l r t) k)), .d (dI (mvN l r t k)), .d (dI (wkN l t k))])], 3⟩, ?_, ?_⟩
  · conv => whnf
    exact ⟨t.length, 0, by omega, by unfold maxN fstN yvN mvN mv wkN fstN; rfl⟩
  · rintro m _ ⟨k, hk, rfl⟩
    by_cases hlt : k < t.length
    · have hc : decide ((k : Int) < ((List.map (fun n => [dI n]) t).length : Int)) = true := by rw [decide_eq_true_eq, hm2]; omega
      have c1 := line_pure h k (by omega)
      have ek : IntKind.i64.wrap ((k : Int) + 1) = ((k + 1 : Nat) : Int) := w1 k (by omega)
      have b0 := tru_bd h ht hlt
      have ek1 : 0 < k → IntKind.i64.wrap ((k : Int) - 1) = ((k - 1 : Nat) : Int) := fun h0 => by rw [wrapI (by omega) (by omega)]; omega
      have cd : k + 1 < t.length → Pure Try.prog 55 [rdD l r, dI (tA t k), dI (tA t (k + 1))] (dB (decide (tA t k - tA t (k + 1) ≥ r.1))) := fun h1 => drops_pure l r _ _ b0 (tru_bd h ht h1)
      have hC : ∀ b : Bool, (decide (k + 1 < t.length) = b) → decide (IntKind.i64.wrap ((k : Int) + 1) < ((List.map (fun n => [dI n]) t).length : Int)) = b := fun b hb => by
        rw [← hb, hm2, decide_eq_decide, ek]; omega
      have cm : (fstN (mP l r t) k == -1) = true → decide (tA t k ≤ lineI l r k) = true → k ≠ 0 → Pure Try.prog 57 [rdD l r, dI (k : Int), dI (tA t (k - 1)), dI (tA t k)] (dI (metI l r t k)) := fun h1 h2 h3 => by
        have h4 := fstN_no (eq_of_beq h1) (k - 1) (by omega)
        have h5 := meets_pure h ht (k - 1) (by omega) h4 (by rw [show k - 1 + 1 = k by omega]; exact h2)
        rwa [show k - 1 + 1 = k by omega] at h5
      have eW0 : k = 0 → wkN l t (k + 1) = wkN l t k := fun h0 => by subst h0; unfold wkN; rfl
      have eW1 : 0 < k → IntKind.i64.wrap (wkN l t k + IntKind.i64.wrap (IntKind.i64.wrap (tA t (k - 1) + tA t k) * IntKind.i64.wrap ((pAt l k).1 - (pAt l (k - 1)).1))) = wkN l t (k + 1) := fun h0 => by
        have q0 := wkN_bd h ht k (by omega)
        have q1 := wkN_bd h ht (k + 1) (by omega)
        have q2 := tru_bd h ht (i := k - 1) (by omega)
        have q3 := h.pt k (by omega)
        have q4 := h.pt (k - 1) (by omega)
        have q5 : wkN l t (k + 1) = wkN l t k + (tA t (k - 1) + tA t k) * ((pAt l k).1 - (pAt l (k - 1)).1) := by rw [wkN, if_neg (by omega)]
        have q6 := mul_bd (a := tA t (k - 1) + tA t k) (b := (pAt l k).1 - (pAt l (k - 1)).1) (A := 200000) (B := 1000) (by omega) (by omega) (by omega) (by omega)
        rw [wrapI (n := tA t (k - 1) + tA t k) (by omega) (by omega), wrapI (n := (pAt l k).1 - (pAt l (k - 1)).1) (by omega) (by omega), q5]
        rw [q5] at q1
        generalize (tA t (k - 1) + tA t k) * ((pAt l k).1 - (pAt l (k - 1)).1) = x at *
        rw [wrapI (n := x) (by omega) (by omega), wrapI (by omega) (by omega)]
      have hzz : (k = 0 ∧ decide ((k : Int) > 0) = false) ∨ (0 < k ∧ decide ((k : Int) > 0) = true) := by
        rcases Nat.eq_zero_or_pos k with h0 | h0
        · exact .inl ⟨h0, by rw [decide_eq_false_iff_not]; omega⟩
        · exact .inr ⟨h0, by rw [decide_eq_true_eq]; omega⟩
      rcases max_cases t k with ⟨hA, eA1, eA2⟩ | ⟨hA, eA1, eA2⟩ <;> rcases m_cases l r t k with ⟨hM, hL, eM1, eM2⟩ | ⟨hM, hL, eM1, eM2⟩ | ⟨hM, hL, eM1, eM2⟩ <;>
          rcases y_cases t r k with ⟨hY, h1, hD, eY1, eY2⟩ | ⟨hY, h1, hD, eY1, eY2⟩ | ⟨hY, h1, hD, eY1, eY2⟩ | ⟨hY, h1, hD, eY1, eY2⟩ <;> rcases hzz with ⟨hz, hz'⟩ | ⟨hz, hz'⟩
      all_goals (try have hC' := hC true (decide_eq_true h1))
      all_goals (try have hC' := hC false (decide_eq_false h1))
      all_goals (try have cd' := cd h1)
      all_goals (try have cm' := cm hM hL (by omega))
      all_goals (try rw [if_pos hz] at eM2)
      all_goals (try rw [if_neg (show ¬ k = 0 by omega)] at eM2)
      all_goals (conv => whnf)
      all_goals (repeat' (first | (apply kT (by with_reducible first | rfl | assumption); conv => whnf) | (apply kF (by with_reducible first | rfl | assumption); conv => whnf) | (apply kT (by decide); conv => whnf) | (apply kF (by decide); conv => whnf) | (apply kB <;> intro _ <;> conv => whnf) | (refine .inl ⟨_, c1, ?_⟩; conv => whnf) | fail))
      all_goals (refine ⟨k, [dI (tA t k)], rfl, geta t k hlt, rfl, ?_⟩; conv => whnf)
      all_goals (repeat' (first | (apply kT (by with_reducible first | rfl | assumption); conv => whnf) | (apply kF (by with_reducible first | rfl | assumption); conv => whnf) | (apply kT (by decide); conv => whnf) | (apply kF (by decide); conv => whnf) | (apply kB <;> intro _ <;> conv => whnf) | (refine .inl ⟨_, c1, ?_⟩; conv => whnf) | (refine .inl ⟨_, cd', ?_⟩; conv => whnf) | (refine .inl ⟨_, cm', ?_⟩; conv => whnf) | (refine ⟨k + 1, [dI (tA t (k + 1))], ek, geta t (k + 1) h1, rfl, ?_⟩; conv => whnf) | (refine ⟨k - 1, [dI (tA t (k - 1))], ek1 hz, geta t (k - 1) (by omega), rfl, ?_⟩; conv => whnf) | (refine ⟨k, ptD (pAt l k), rfl, getpa l k (by omega), rfl, ?_⟩; conv => whnf) | (refine ⟨k - 1, ptD (pAt l (k - 1)), ek1 hz, getpa l (k - 1) (by omega), rfl, ?_⟩; conv => whnf) | fail))
      all_goals (
        refine ⟨m - 1, by omega, k + 1, by omega, ?_⟩
        rw [eA1, eA2, eY1, eY2, eM1, eM2, ek]
        first | rw [eW0 hz] | rw [eW1 hz]
        done)
    · have hc : decide ((k : Int) < ((List.map (fun n => [dI n]) t).length : Int)) = false := by rw [decide_eq_false_iff_not, hm2]; omega
      have : k = t.length := by omega
      subst this
      conv => whnf
      (repeat' (first | (apply kT (by with_reducible first | rfl | assumption); conv => whnf) | (apply kF (by with_reducible first | rfl | assumption); conv => whnf) | (apply kT (by decide); conv => whnf) | (apply kF (by decide); conv => whnf) | (apply kB <;> intro _ <;> conv => whnf) | fail))
      rfl
end Go.Ev.Ytdgjogeddogbdaa

set_option linter.unusedVariables false
set_option linter.unusedSimpArgs false
set_option maxRecDepth 100000
namespace Go.Ev.Ytdgjogeddogbdaa
open Go.Proofs
attribute [local irreducible] Pure Bor Iter inB ptB ruB okL goodB lineI ckC truB maxN fstN yvN mvN wkN metI tA pAt
theorem down_pure (n b : Int) (hb : 0 < b) (hn : -200000000000 ≤ n ∧ n ≤ 200000000000) : Pure Try.prog 45 [dI n, dI b] (dI (flo n b)) := by
  have fb := flo_bd hb hn
  have ff : (if n < 0 ∧ n.tdiv b * b ≠ n then n.tdiv b - 1 else n.tdiv b) = flo n b := floor_m hb
  have td : -200000000001 ≤ n.tdiv b ∧ n.tdiv b ≤ 200000000001 := by split at ff <;> omega
  have e6 : IntKind.i64.wrap (n.tdiv b) = n.tdiv b := wrapI (by omega) (by omega)
  have e7 : IntKind.i64.wrap (n.tdiv b - 1) = n.tdiv b - 1 := wrapI (by omega) (by omega)
  have e8 : IntKind.i64.wrap (n.tdiv b * b) = n.tdiv b * b := by
    have h1 := Int.mul_tdiv_add_tmod n b
    rw [Int.mul_comm] at h1
    have h5 : -200000000000 ≤ n.tdiv b * b ∧ n.tdiv b * b ≤ 200000000000 := by
      rcases Int.le_total 0 n with h | h
      · have := Int.tmod_nonneg b h
        have := Int.mul_nonneg (Int.tdiv_nonneg h (by omega : 0 ≤ b)) (by omega : 0 ≤ b)
        omega
      · have q1 := Int.tmod_nonneg b (show 0 ≤ -n by omega)
        have q2 := Int.mul_nonneg (Int.tdiv_nonneg (show 0 ≤ -n by omega) (by omega : 0 ≤ b)) (by omega : 0 ≤ b)
        rw [Int.neg_tmod] at q1
        rw [Int.neg_tdiv, Int.neg_mul] at q2
        omega
    exact wrapI (by omega) (by omega)
  refine pure_of pg Try.func45 (by kernel_rfl) ?_
  conv => whnf
  (refine ⟨by omega, ?_⟩; conv => whnf)
  rw [e6]
  by_cases h1 : n < 0
  · have h1' : decide (n < 0) = true := by rw [decide_eq_true_eq]; exact h1
    by_cases h2 : n.tdiv b * b ≠ n
    · have h2' : (IntKind.i64.wrap (n.tdiv b * b) != n) = true := by rw [e8, bne_iff_ne]; exact h2
      rw [if_pos ⟨h1, h2⟩] at ff
      (repeat' (first | (apply kT (by with_reducible first | rfl | assumption); conv => whnf) | (apply kF (by with_reducible first | rfl | assumption); conv => whnf) | (apply kT (by decide); conv => whnf) | (apply kF (by decide); conv => whnf) | (apply kB <;> intro _ <;> conv => whnf) | fail))
      rw [e7, ff]; rfl
    · have h2' : (IntKind.i64.wrap (n.tdiv b * b) != n) = false := by rw [e8, bne_eq_false_iff_eq]; simpa using h2
      rw [if_neg (fun h => h2 h.2)] at ff
      (repeat' (first | (apply kT (by with_reducible first | rfl | assumption); conv => whnf) | (apply kF (by with_reducible first | rfl | assumption); conv => whnf) | (apply kT (by decide); conv => whnf) | (apply kF (by decide); conv => whnf) | (apply kB <;> intro _ <;> conv => whnf) | fail))
      rw [ff]; rfl
  · have h1' : decide (n < 0) = false := by rw [decide_eq_false_iff_not]; exact h1
    rw [if_neg (fun h => h1 h.1)] at ff
    (repeat' (first | (apply kT (by with_reducible first | rfl | assumption); conv => whnf) | (apply kF (by with_reducible first | rfl | assumption); conv => whnf) | (apply kT (by decide); conv => whnf) | (apply kF (by decide); conv => whnf) | (apply kB <;> intro _ <;> conv => whnf) | fail))
    rw [ff]; rfl
theorem neg_of {P : Nat → Bool} {k : Nat} {b : Bool} (h : (fstN P k == -1) = b) : decide (fstN P k < 0) = b := by
  rw [← h, Bool.eq_iff_iff, decide_eq_true_eq, beq_iff_eq, fstN_neg]
set_option maxHeartbeats 4000000 in
theorem rread_pure {l : List P3} {r : P3} (h : VC l r) {t : List Int} (ht : TB l t) : Pure Try.prog 22 [crD l, ruD r, isD t] (resD l r t) := by
  have hm2 : ((List.map (fun n => [dI n]) t).length : Int) = (t.length : Int) := by rw [List.length_map]
  have hl := ht.1
  have hlen := h.len
  refine pure_of pg Try.func22 (by kernel_rfl) ?_
  conv => whnf
  refine ⟨[], [2, 3, 4, 6, 7, 8], [0, 1, 2, 3], 4, fun m s => ∃ k : Nat, k + m = t.length ∧ s = ⟨[(2, .d (isD t)), (3, .ref 0 0), (4, .ref 1 0), (6, .ref 2 0), (7, .ref 3 0), (8, .d (dI k))],
    [(0, .var false 24 [.d (ptsD l)]), (1, .var false 26 [.d (dI r.1), .d (dI r.2.1), .d (dI r.2.2)]), (2, .var false 47 [.d (dI 0), .d (dI 0), .d (dI 0), .d (dI 0), .d (dI 0), .d (dI 0), .d (dI 0)]),
     (3, .var false 47 [.d (dI (maxN t k).1), .d (dI (maxN t k).2), .d (dI (fstN (yP t r) k)), .d (dI (yvN t r k)), .d (dI (fstN (mP l r t) k)), .d (dI (mvN l r t k)), .d (dI (wkN l t k))])], 4⟩, ?_, ?_⟩
  · conv => whnf
    exact ⟨t.length, 0, by omega, by unfold maxN fstN yvN mvN mv wkN fstN; rfl⟩
  · rintro m _ ⟨k, hk, rfl⟩
    by_cases hlt : k < t.length
    · have hc : decide ((k : Int) < ((List.map (fun n => [dI n]) t).length : Int)) = true := by rw [decide_eq_true_eq, hm2]; omega
      have c1 := rline_pure h k (by omega)
      have ek : IntKind.i64.wrap ((k : Int) + 1) = ((k + 1 : Nat) : Int) := w1 k (by omega)
      have b0 := tru_bd h ht hlt
      have ek1 : 0 < k → IntKind.i64.wrap ((k : Int) - 1) = ((k - 1 : Nat) : Int) := fun h0 => by rw [wrapI (by omega) (by omega)]; omega
      have c2 : 0 < k → Pure Try.prog 44 [crD l, ruD r, dI (IntKind.i64.wrap ((k : Int) - 1))] (dI (lineI l r (k - 1))) := fun h0 => by rw [ek1 h0]; exact rline_pure h (k - 1) (by omega)
      have hd : k + 1 < t.length → IntKind.i64.wrap (tA t k - tA t (k + 1)) = tA t k - tA t (k + 1) := fun h1 => by
        have := tru_bd h ht h1
        exact wrapI (by omega) (by omega)
      have hD' : ∀ b : Bool, k + 1 < t.length → decide (tA t k - tA t (k + 1) ≥ r.1) = b → decide (IntKind.i64.wrap (tA t k - tA t (k + 1)) ≥ r.1) = b := fun b h1 h2 => by rw [hd h1]; exact h2
      have hC : ∀ b : Bool, (decide (k + 1 < t.length) = b) → decide (IntKind.i64.wrap ((k : Int) + 1) < ((List.map (fun n => [dI n]) t).length : Int)) = b := fun b hb => by
        rw [← hb, hm2, decide_eq_decide, ek]; omega
      have cm : (fstN (mP l r t) k == -1) = true → decide (tA t k ≤ lineI l r k) = true → 0 < k → ∃ f, Pure Try.prog 45 [dI (IntKind.i64.wrap (IntKind.i64.wrap (tA t k - tA t (k - 1)) * IntKind.i64.wrap (tA t (k - 1) - lineI l r (k - 1)))), dI (IntKind.i64.wrap (IntKind.i64.wrap (IntKind.i64.wrap (tA t (k - 1) - lineI l r (k - 1)) + lineI l r k) - tA t k))] (dI f) ∧ IntKind.i64.wrap (tA t (k - 1) + f) = metI l r t k := fun h1 h2 h3 => by
        have h4 := fstN_no (eq_of_beq h1) (k - 1) (by omega)
        have b1 := tru_bd h ht (i := k - 1) (by omega)
        have l1 := lineI_bd h (i := k - 1) (by omega)
        have l2 := lineI_bd h (i := k) (by omega)
        have hb' : tA t (k - 1) > lineI l r (k - 1) := by unfold mP at h4; rw [decide_eq_false_iff_not] at h4; omega
        have hm' : tA t k ≤ lineI l r k := by rwa [decide_eq_true_eq] at h2
        have hmet : metI l r t k = tA t (k - 1) + flo ((tA t k - tA t (k - 1)) * (tA t (k - 1) - lineI l r (k - 1))) ((tA t (k - 1) - lineI l r (k - 1)) + (lineI l r k - tA t k)) := by unfold metI flo; rfl
        rw [hmet]
        generalize tA t (k - 1) = a at *
        generalize tA t k = b at *
        generalize lineI l r (k - 1) = p at *
        generalize lineI l r k = q at *
        have pb := mul_bd (a := b - a) (b := a - p) (A := 100000) (B := 1100000) (by omega) (by omega) (by omega) (by omega)
        rw [wrapI (n := b - a) (by omega) (by omega), wrapI (n := a - p) (by omega) (by omega), wrapI (n := a - p + q) (by omega) (by omega), wrapI (n := a - p + q - b) (by omega) (by omega), show a - p + q - b = a - p + (q - b) by omega]
        generalize (b - a) * (a - p) = u at *
        have hpos : 0 < a - p + (q - b) := by omega
        have fb := flo_bd hpos (n := u) (by omega)
        rw [wrapI (n := u) (by omega) (by omega)]
        exact ⟨_, down_pure u _ hpos (by omega), wrapI (by omega) (by omega)⟩
      have eW0 : k = 0 → wkN l t (k + 1) = wkN l t k := fun h0 => by subst h0; unfold wkN; rfl
      have eW1 : 0 < k → IntKind.i64.wrap (wkN l t k + IntKind.i64.wrap (IntKind.i64.wrap (tA t (k - 1) + tA t k) * IntKind.i64.wrap ((pAt l k).1 - (pAt l (k - 1)).1))) = wkN l t (k + 1) := fun h0 => by
        have q0 := wkN_bd h ht k (by omega)
        have q1 := wkN_bd h ht (k + 1) (by omega)
        have q2 := tru_bd h ht (i := k - 1) (by omega)
        have q3 := h.pt k (by omega)
        have q4 := h.pt (k - 1) (by omega)
        have q5 : wkN l t (k + 1) = wkN l t k + (tA t (k - 1) + tA t k) * ((pAt l k).1 - (pAt l (k - 1)).1) := by rw [wkN, if_neg (by omega)]
        have q6 := mul_bd (a := tA t (k - 1) + tA t k) (b := (pAt l k).1 - (pAt l (k - 1)).1) (A := 200000) (B := 1000) (by omega) (by omega) (by omega) (by omega)
        rw [wrapI (n := tA t (k - 1) + tA t k) (by omega) (by omega), wrapI (n := (pAt l k).1 - (pAt l (k - 1)).1) (by omega) (by omega), q5]
        rw [q5] at q1
        generalize (tA t (k - 1) + tA t k) * ((pAt l k).1 - (pAt l (k - 1)).1) = x at *
        rw [wrapI (n := x) (by omega) (by omega), wrapI (by omega) (by omega)]
      have hzz : (k = 0 ∧ decide ((k : Int) > 0) = false) ∨ (0 < k ∧ decide ((k : Int) > 0) = true) := by
        rcases Nat.eq_zero_or_pos k with h0 | h0
        · exact .inl ⟨h0, by rw [decide_eq_false_iff_not]; omega⟩
        · exact .inr ⟨h0, by rw [decide_eq_true_eq]; omega⟩
      rcases max_cases t k with ⟨hA, eA1, eA2⟩ | ⟨hA, eA1, eA2⟩ <;> rcases m_cases l r t k with ⟨hM, hL, eM1, eM2⟩ | ⟨hM, hL, eM1, eM2⟩ | ⟨hM, hL, eM1, eM2⟩ <;>
          rcases y_cases t r k with ⟨hY, h1, hD, eY1, eY2⟩ | ⟨hY, h1, hD, eY1, eY2⟩ | ⟨hY, h1, hD, eY1, eY2⟩ | ⟨hY, h1, hD, eY1, eY2⟩ <;> rcases hzz with ⟨hz, hz'⟩ | ⟨hz, hz'⟩
      all_goals (try have hC' := hC true (decide_eq_true h1))
      all_goals (try have hC' := hC false (decide_eq_false h1))
      all_goals (try have hD'' := hD' _ h1 hD)
      all_goals (have hY' := neg_of hY)
      all_goals (have hM' := neg_of hM)
      all_goals (try have c2' := c2 hz)
      all_goals (try have cm2 := cm hM hL hz)
      all_goals (try obtain ⟨f, cm', ef⟩ := cm2)
      all_goals (try rw [if_pos hz] at eM2)
      all_goals (try rw [if_neg (show ¬ k = 0 by omega)] at eM2)
      all_goals (conv => whnf)
      all_goals (repeat' (first | (apply kT (by with_reducible first | rfl | assumption); conv => whnf) | (apply kF (by with_reducible first | rfl | assumption); conv => whnf) | (apply kT (by decide); conv => whnf) | (apply kF (by decide); conv => whnf) | (apply kB <;> intro _ <;> conv => whnf) | (refine .inl ⟨_, c1, ?_⟩; conv => whnf) | (refine .inl ⟨_, c2', ?_⟩; conv => whnf) | (refine .inl ⟨_, cm', ?_⟩; conv => whnf) | (refine ⟨k, [dI (tA t k)], rfl, geta t k hlt, rfl, ?_⟩; conv => whnf) | (refine ⟨k + 1, [dI (tA t (k + 1))], ek, geta t (k + 1) h1, rfl, ?_⟩; conv => whnf) | (refine ⟨k - 1, [dI (tA t (k - 1))], ek1 hz, geta t (k - 1) (by omega), rfl, ?_⟩; conv => whnf) | (refine ⟨k, ptD (pAt l k), rfl, getpa l k (by omega), rfl, ?_⟩; conv => whnf) | (refine ⟨k - 1, ptD (pAt l (k - 1)), ek1 hz, getpa l (k - 1) (by omega), rfl, ?_⟩; conv => whnf) | fail))
      all_goals (
        refine ⟨m - 1, by omega, k + 1, by omega, ?_⟩
        try rw [ef]
        rw [eA1, eA2, eY1, eY2, eM1, eM2, ek]
        first | rw [eW0 hz] | rw [eW1 hz]
        done)
    · have hc : decide ((k : Int) < ((List.map (fun n => [dI n]) t).length : Int)) = false := by rw [decide_eq_false_iff_not, hm2]; omega
      have : k = t.length := by omega
      subst this
      conv => whnf
      (repeat' (first | (apply kT (by with_reducible first | rfl | assumption); conv => whnf) | (apply kF (by with_reducible first | rfl | assumption); conv => whnf) | (apply kT (by decide); conv => whnf) | (apply kF (by decide); conv => whnf) | (apply kB <;> intro _ <;> conv => whnf) | fail))
      rfl
end Go.Ev.Ytdgjogeddogbdaa

set_option linter.unusedVariables false
set_option linter.unusedSimpArgs false
set_option maxRecDepth 100000
namespace Go.Ev.Ytdgjogeddogbdaa
open Go.Proofs
abbrev res0 : D := .agg [dI 0, dI 0, dI 0, dI 0, dI 0, dI 0, dI 0]
/-- what Read answers: the error, and what is read -/
def reE (l : List P3) (r : P3) (t : List Int) : Int := if erC l r = 0 then if truB l t = true then 0 else 2 else erC l r
def reD (l : List P3) (r : P3) (t : List Int) : D := if reE l r t = 0 then resD l r t else res0
attribute [local irreducible] Pure Bor Iter inB ptB ruB okL goodB lineI ckC truB maxN fstN yvN mvN wkN metI tA pAt erC resD
theorem Read_pure (l : List P3) (hl : l.length ≤ 1000) (r : P3) (t : List Int) : Pure Try.prog 15 [crD l, ruD r, isD t] (.tup [reD l r t, dI (reE l r t)]) := by
  by_cases he : erC l r = 0
  · have hb : (erC l r != 0) = false := by rw [he]; rfl
    by_cases ht : truB l t = true
    · have e : reE l r t = 0 := by unfold reE; rw [if_pos he, if_pos ht]
      have ed : reD l r t = resD l r t := by unfold reD; rw [if_pos e]
      have c := result_pure (erC_iff.1 he) (TB.of (erC_iff.1 he) ht)
      rw [e, ed]
      have hb2 : (!truB l t) = false := by rw [ht]; rfl
      unfold resD at c ⊢
      refine pure_of pg Try.func15 (by kernel_rfl) ?_
      conv => whnf
      (repeat' (first | (apply kT (by with_reducible first | rfl | assumption); conv => whnf) | (apply kF (by with_reducible first | rfl | assumption); conv => whnf) | (apply kT (by decide); conv => whnf) | (apply kF (by decide); conv => whnf) | (apply kB <;> intro _ <;> conv => whnf) | (refine .inl ⟨_, read_pure l hl r, ?_⟩; conv => whnf) | (refine .inl ⟨_, truth_pure l hl r t, ?_⟩; conv => whnf) | (refine .inl ⟨_, c, ?_⟩; conv => whnf) | fail))
      rfl
    · have ht : truB l t = false := by simpa using ht
      have e : reE l r t = 2 := by unfold reE; rw [if_pos he, if_neg (by simp [ht])]
      have ed : reD l r t = res0 := by unfold reD; rw [if_neg (by omega)]
      rw [e, ed]
      have hb2 : (!truB l t) = true := by rw [ht]; rfl
      refine pure_of pg Try.func15 (by kernel_rfl) ?_
      conv => whnf
      (repeat' (first | (apply kT (by with_reducible first | rfl | assumption); conv => whnf) | (apply kF (by with_reducible first | rfl | assumption); conv => whnf) | (apply kT (by decide); conv => whnf) | (apply kF (by decide); conv => whnf) | (apply kB <;> intro _ <;> conv => whnf) | (refine .inl ⟨_, read_pure l hl r, ?_⟩; conv => whnf) | (refine .inl ⟨_, truth_pure l hl r t, ?_⟩; conv => whnf) | fail))
      rfl
  · have hb : (erC l r != 0) = true := by rw [bne_iff_ne]; exact he
    have e : reE l r t = erC l r := by unfold reE; rw [if_neg he]
    have ed : reD l r t = res0 := by unfold reD; rw [if_neg (by omega)]
    rw [e, ed]
    refine pure_of pg Try.func15 (by kernel_rfl) ?_
    conv => whnf
    (repeat' (first | (apply kT (by with_reducible first | rfl | assumption); conv => whnf) | (apply kF (by with_reducible first | rfl | assumption); conv => whnf) | (apply kT (by decide); conv => whnf) | (apply kF (by decide); conv => whnf) | (apply kB <;> intro _ <;> conv => whnf) | (refine .inl ⟨_, read_pure l hl r, ?_⟩; conv => whnf) | fail))
    rfl
theorem thin_pure (l : List P3) : Pure Try.prog 11 [crD l] (dB (decide ((l.length : Int) ≤ 25))) := by
  refine pure_of pg Try.func11 (by kernel_rfl) ?_
  conv => whnf
  rw [List.length_map]
  rfl
theorem rule_pure (r : P3) : Pure Try.prog 16 [ruD r] (ruD r) := by
  refine pure_of pg Try.func16 (by kernel_rfl) ?_
  conv => whnf
  rfl
theorem resconv_pure (a b c d e f g : Int) : Pure Try.prog 21 [.agg [dI a, dI b, dI c, dI d, dI e, dI f, dI g]] (.agg [dI a, dI b, dI c, dI d, dI e, dI f, dI g]) := by
  refine pure_of pg Try.func21 (by kernel_rfl) ?_
  conv => whnf
  rfl
theorem list_pure (t : List Int) (ht : t.length ≤ 1000) : Pure Try.prog 17 [isD t] (isD t) := by
  refine pure_of_n pg Try.func17 (by kernel_rfl) ?_
  conv => whnf
  (refine ⟨by intro el he; obtain ⟨x, _, rfl⟩ := List.mem_map.1 he; rfl, by rw [List.length_map]; show t.length * 8 ≤ _; omega, ?_⟩; conv => whnf)
  rfl
theorem curve_pure (l : List P3) (hl : l.length ≤ 1000) : Pure Try.prog 14 [crD l] (crD l) := by
  have hm : ((List.map ptD l).length : Int) = (l.length : Int) := by rw [List.length_map]
  refine pure_of_n pg Try.func14 (by kernel_rfl) ?_
  conv => whnf
  refine ⟨[.cown 2 0 83], [1, 2, 3, 4], [0, 1, 2, 3], 4, fun m s => ∃ k : Nat, k + m = l.length ∧
    s = ⟨[(1, .ref 0 0), (2, .ref 1 0), (3, .ref 2 0), (4, .d (dI k))], [(0, .var false 24 [.d (ptsD l)]), (1, .var false 34 [.d (.v (.slice none 0 0))]), (2, .var false 34 [.own 3]), (3, .arr 83 ((l.take k).map ptD))], 4⟩, ?_, ?_⟩
  · conv => whnf
    exact ⟨l.length, 0, by simp, rfl⟩
  · rintro m _ ⟨k, hk, rfl⟩
    conv => whnf
    (apply kB <;> intro h <;> conv => whnf)
    · have hlt : k < l.length := by rw [decide_eq_true_eq, hm] at h; omega
      have htk : (l.take k).length ≤ k := List.length_take_le _ _
      (refine ⟨k, ptD l[k], rfl, getp l k hlt, rfl, ?_⟩; conv => whnf)
      (refine ⟨by simp, ?_⟩; conv => whnf)
      (refine ⟨by rw [List.length_map]; simp only [List.length_singleton]; omega, ?_⟩; conv => whnf)
      refine ⟨m - 1, by omega, k + 1, by omega, ?_⟩
      rw [w1 k (by omega), List.take_succ_eq_append_getElem hlt, List.map_append]
      rfl
    · have hge : l.length ≤ k := by rw [decide_eq_false_iff_not, hm] at h; omega
      have e : l.take k = l := List.take_of_length_le hge
      rw [e]
      rfl
theorem at_pure (a b c : Int) : Pure Try.prog 50 [dI a, dI b, dI c] (.agg [dI a, dI b, dI c]) := by
  refine pure_of pg Try.func50 (by kernel_rfl) ?_
  conv => whnf
  rfl
abbrev exL : List P3 := [(0, 0, 0), (10, 48, 52), (20, 95, 105), (30, 90, 96), (40, 120, 130), (50, 100, 110)]
abbrev exR : P3 := (5, 5, 4)
theorem pulled_pure : Pure Try.prog 36 [] (crD exL) := by
  refine pure_of pg Try.func36 (by kernel_rfl) ?_
  conv => whnf
  (refine .inl ⟨_, at_pure .., ?_⟩; conv => whnf)
  (refine .inl ⟨_, at_pure .., ?_⟩; conv => whnf)
  (refine .inl ⟨_, at_pure .., ?_⟩; conv => whnf)
  (refine .inl ⟨_, at_pure .., ?_⟩; conv => whnf)
  (refine .inl ⟨_, at_pure .., ?_⟩; conv => whnf)
  (refine .inl ⟨_, at_pure .., ?_⟩; conv => whnf)
  rfl
theorem exrule_pure : Pure Try.prog 37 [] (ruD exR) := by
  refine pure_of pg Try.func37 (by kernel_rfl) ?_
  conv => whnf
  rfl
end Go.Ev.Ytdgjogeddogbdaa

set_option linter.unusedVariables false
set_option linter.unusedSimpArgs false
set_option maxRecDepth 100000
namespace Go.Ev.Ytdgjogeddogbdaa
open Go.Proofs
theorem good_eq (l : List P3) (k : Nat) : goodB l k = (inB (pAt l k).1 0 1000 && (inB (pAt l k).2.1 0 (pAt l k).2.2 && (!decide ((pAt l k).2.2 > 100000) && !(decide ((k : Int) > 0) && decide ((pAt l k).1 ≤ (pAt l (k - 1)).1))))) := by
  rw [Bool.eq_iff_iff]
  unfold goodB ptB
  simp only [Bool.and_eq_true, Bool.or_eq_true, inB_iff, decide_eq_true_eq, Bool.not_eq_true', Bool.and_eq_false_iff, decide_eq_false_iff_not]
  omega
attribute [local irreducible] Pure Bor Iter inB ptB ruB okL goodB lineI ckC truB maxN fstN yvN mvN wkN metI tA pAt erC resD
theorem rfault_pure (l : List P3) (hl : l.length ≤ 1000) : Pure Try.prog 19 [crD l] (dI (ckC l)) := by
  have hm : ((List.map ptD l).length : Int) = (l.length : Int) := by rw [List.length_map]
  refine pure_of pg Try.func19 (by kernel_rfl) ?_
  conv => whnf
  (apply kB <;> intro h <;> conv => whnf)
  · have hh := h
    rw [decide_eq_true_eq, hm] at hh
    have : ckC l = 3 := by unfold ckC; rw [if_pos hh]
    rw [this]; rfl
  · have hh := h
    rw [decide_eq_false_iff_not, hm] at hh
    refine ⟨[], [1, 3], [0], 1, fun m s => ∃ k : Nat, k + m = l.length ∧ (∀ i, i < k → goodB l i = true) ∧ s = ⟨[(1, .ref 0 0), (3, .d (dI k))], [(0, .var false 24 [.d (ptsD l)])], 1⟩, ?_, ?_⟩
    · conv => whnf
      exact ⟨l.length, 0, by omega, fun i hi => by omega, rfl⟩
    · rintro m _ ⟨k, hk, hall, rfl⟩
      by_cases hlt : k < l.length
      · have hc : decide ((k : Int) < ((List.map ptD l).length : Int)) = true := by rw [decide_eq_true_eq, hm]; omega
        have ek1 : 0 < k → IntKind.i64.wrap ((k : Int) - 1) = ((k - 1 : Nat) : Int) := fun h0 => by rw [wrapI (by omega) (by omega)]; omega
        have hz : decide ((k : Int) > 0) = true → 0 < k := fun h0 => by rw [decide_eq_true_eq] at h0; omega
        have ge := good_eq l k
        conv => whnf
        (repeat' (first | (apply kT (by with_reducible first | rfl | assumption); conv => whnf) | (apply kF (by with_reducible first | rfl | assumption); conv => whnf) | (apply kT (by decide); conv => whnf) | (apply kF (by decide); conv => whnf) | (apply kB <;> intro _ <;> conv => whnf) | (refine .inl ⟨_, in_pure .., ?_⟩; conv => whnf) | (refine ⟨k, ptD (pAt l k), rfl, getpa l k hlt, rfl, ?_⟩; conv => whnf) | (refine ⟨k - 1, ptD (pAt l (k - 1)), ek1 (hz (by assumption)), getpa l (k - 1) (by omega), rfl, ?_⟩; conv => whnf) | fail))
        all_goals first
          | (have hg : goodB l k = true := by rw [ge]; simp_all
             refine ⟨m - 1, by omega, k + 1, by omega, fun i hi => ?_, by rw [w1 k (by omega)]⟩
             rcases Nat.lt_or_ge i k with h4 | h4
             · exact hall i h4
             · have : i = k := by omega
               subst this; exact hg)
          | (have hg : goodB l k = false := by rw [ge]; simp_all
             rw [ckC_bad hh (okL_bad hlt hg)]; rfl)
      · have hc : decide ((k : Int) < ((List.map ptD l).length : Int)) = false := by rw [decide_eq_false_iff_not, hm]; omega
        have hgood : okL l = true := okL_iff.2 fun i hi => hall i (by omega)
        conv => whnf
        (repeat' (first | (apply kT (by with_reducible first | rfl | assumption); conv => whnf) | (apply kF (by with_reducible first | rfl | assumption); conv => whnf) | (apply kT (by decide); conv => whnf) | (apply kF (by decide); conv => whnf) | (apply kB <;> intro _ <;> conv => whnf) | fail))
        · rename_i h0
          have : l.length = 0 := by have := eq_of_beq h0; rw [hm] at this; omega
          have : ckC l = 1 := by unfold ckC; rw [if_neg hh, if_pos this]
          rw [this]; rfl
        · rename_i h0
          have : l.length ≠ 0 := by intro e; rw [hm, e] at h0; exact absurd h0 (by decide)
          rw [ckC_ok hh this hgood]; rfl
theorem rtruth_pure (l : List P3) (hl : l.length ≤ 1000) (t : List Int) : Pure Try.prog 20 [crD l, isD t] (dB (truB l t)) := by
  have hm : ((List.map ptD l).length : Int) = (l.length : Int) := by rw [List.length_map]
  have hm2 : ((List.map (fun n => [dI n]) t).length : Int) = (t.length : Int) := by rw [List.length_map]
  refine pure_of pg Try.func20 (by kernel_rfl) ?_
  conv => whnf
  (apply kB <;> intro h <;> conv => whnf)
  · have h' : t.length ≠ l.length := by rw [hm, hm2, bne_iff_ne] at h; omega
    rw [truB_len h']; rfl
  · have h' : t.length = l.length := by have := h; rw [hm, hm2, bne_eq_false_iff_eq] at this; omega
    refine ⟨[], [1, 2, 5], [0], 1, fun m s => ∃ k : Nat, k + m = t.length ∧ (∀ i, i < k → inB (t.getD i 0) (pAt l i).2.1 (pAt l i).2.2 = true) ∧ s = ⟨[(1, .d (isD t)), (2, .ref 0 0), (5, .d (dI k))], [(0, .var false 24 [.d (ptsD l)])], 1⟩, ?_, ?_⟩
    · conv => whnf
      exact ⟨t.length, 0, by omega, fun i hi => by omega, rfl⟩
    · rintro m _ ⟨k, hk, hall, rfl⟩
      conv => whnf
      (apply kB <;> intro h2 <;> conv => whnf)
      · have hlt : k < t.length := by rw [decide_eq_true_eq, hm2] at h2; omega
        have e : tA t k = t.getD k 0 := by unfold tA; rfl
        (repeat' (first | (apply kT (by with_reducible first | rfl | assumption); conv => whnf) | (apply kF (by with_reducible first | rfl | assumption); conv => whnf) | (apply kT (by decide); conv => whnf) | (apply kF (by decide); conv => whnf) | (apply kB <;> intro _ <;> conv => whnf) | (refine .inl ⟨_, in_pure .., ?_⟩; conv => whnf) | (refine ⟨k, [dI (tA t k)], rfl, geta t k hlt, rfl, ?_⟩; conv => whnf) | (refine ⟨k, ptD (pAt l k), rfl, getpa l k (by omega), rfl, ?_⟩; conv => whnf) | fail))
        · rename_i h3
          have h3' : inB (tA t k) (pAt l k).2.1 (pAt l k).2.2 = false := by simpa using h3
          rw [e] at h3'
          rw [truB_bad hlt h3']; rfl
        · rename_i h3
          have h3' : inB (tA t k) (pAt l k).2.1 (pAt l k).2.2 = true := by simpa using h3
          rw [e] at h3'
          refine ⟨m - 1, by omega, k + 1, by omega, fun i hi => ?_, ?_⟩
          · rcases Nat.lt_or_ge i k with h4 | h4
            · exact hall i h4
            · have : i = k := by omega
              subst this
              exact h3'
          · rw [w1 k (by omega)]
      · have hge : t.length ≤ k := by rw [decide_eq_false_iff_not, hm2] at h2; omega
        rw [truB_iff.2 ⟨h', fun i hi => hall i (by omega)⟩]; rfl
theorem fault_pure (l : List P3) (hl : l.length ≤ 1000) (r : P3) : Pure Try.prog 18 [crD l, ruD r] (dI (erC l r)) := by
  have he : erC l r = if ckC l = 0 then if ruB r = true then 0 else 1 else ckC l := by unfold erC; rfl
  rw [he]
  refine pure_of pg Try.func18 (by kernel_rfl) ?_
  conv => whnf
  (repeat' (first | (apply kT (by with_reducible first | rfl | assumption); conv => whnf) | (apply kF (by with_reducible first | rfl | assumption); conv => whnf) | (apply kT (by decide); conv => whnf) | (apply kF (by decide); conv => whnf) | (apply kB <;> intro _ <;> conv => whnf) | (refine .inl ⟨_, rfault_pure l hl, ?_⟩; conv => whnf) | (refine .inl ⟨_, isrule_pure r, ?_⟩; conv => whnf) | fail))
  · rename_i h
    rw [if_neg (by simpa using h)]; rfl
  · rename_i h h1
    have e1 : ruB r = false := by simpa using h1
    rw [if_pos (by simpa using h), if_neg (by simp [e1])]; rfl
  · rename_i h h1
    have e1 : ruB r = true := by simpa using h1
    rw [if_pos (by simpa using h), if_pos e1]; rfl
def readyB (l : List P3) (r : P3) : Bool := decide ((l.length : Int) ≤ 25) && (erC l r == 0)
theorem ready_iff {l : List P3} {r : P3} : readyB l r = true ↔ VC l r := by
  unfold readyB
  rw [Bool.and_eq_true, decide_eq_true_eq, beq_iff_eq, erC_iff]
  exact ⟨fun h => h.2, fun h => ⟨by have := h.len; omega, h⟩⟩
theorem ready_pure (l : List P3) (hl : l.length ≤ 1000 ∨ 25 < l.length) (r : P3) : Pure Try.prog 27 [crD l, ruD r] (dB (readyB l r)) := by
  have hd : readyB l r = (decide ((l.length : Int) ≤ 25) && (erC l r == 0)) := rfl
  rw [hd]
  by_cases h : (l.length : Int) ≤ 25
  · have h' : decide ((l.length : Int) ≤ 25) = true := by rw [decide_eq_true_eq]; exact h
    have c := fault_pure l (by omega) r
    refine pure_of pg Try.func27 (by kernel_rfl) ?_
    conv => whnf
    (repeat' (first | (apply kT (by with_reducible first | rfl | assumption); conv => whnf) | (apply kF (by with_reducible first | rfl | assumption); conv => whnf) | (apply kT (by decide); conv => whnf) | (apply kF (by decide); conv => whnf) | (apply kB <;> intro _ <;> conv => whnf) | (refine .inl ⟨_, thin_pure l, ?_⟩; conv => whnf) | (refine .inl ⟨_, c, ?_⟩; conv => whnf) | fail))
    rw [h']; rfl
  · have h' : decide ((l.length : Int) ≤ 25) = false := by rw [decide_eq_false_iff_not]; exact h
    refine pure_of pg Try.func27 (by kernel_rfl) ?_
    conv => whnf
    (repeat' (first | (apply kT (by with_reducible first | rfl | assumption); conv => whnf) | (apply kF (by with_reducible first | rfl | assumption); conv => whnf) | (apply kT (by decide); conv => whnf) | (apply kF (by decide); conv => whnf) | (apply kB <;> intro _ <;> conv => whnf) | (refine .inl ⟨_, thin_pure l, ?_⟩; conv => whnf) | fail))
    rw [h']; rfl
end Go.Ev.Ytdgjogeddogbdaa

set_option linter.unusedVariables false
set_option linter.unusedSimpArgs false
namespace Go.Ev.Ytdgjogeddogbdaa
open Go.Proofs
def cF (N : Nat) (f : Nat → Int) : List D := (List.range N).map fun i => dI (f i)
theorem cF_get {N : Nat} {f : Nat → Int} {i : Nat} (h : i < N) : (cF N f)[i]? = some (dI (f i)) := by simp [cF, h]
theorem cF_getA {N : Nat} {f : Nat → Int} {i : Nat} (h : i < N) : ((cF N f).map A.d)[i]? = some (.d (dI (f i))) := by simp [cF, h]
theorem cF_getE {N : Nat} {f : Nat → Int} {i j : Nat} (hi : i = j) (h : j < N) : ((cF N f).map A.d)[i]? = some (.d (dI (f j))) := by subst hi; exact cF_getA h
theorem cF_len {N : Nat} {f : Nat → Int} : (cF N f).length = N := by simp [cF]
theorem cF_lenA {N : Nat} {f : Nat → Int} : ((cF N f).map A.d).length = N := by rw [List.length_map, cF_len]
/-- with another number at a place -/
def upd (f : Nat → Int) (i : Nat) (v : Int) : Nat → Int := fun j => if j = i then v else f j
theorem upd_self {f : Nat → Int} {i : Nat} {v : Int} : upd f i v i = v := by simp [upd]
theorem upd_ne {f : Nat → Int} {i j : Nat} {v : Int} (h : j ≠ i) : upd f i v j = f j := by simp [upd, h]
theorem cF_setD {N : Nat} {f : Nat → Int} {i : Nat} {v : Int} : ((cF N f).map A.d).set i (.d (dI v)) = (cF N (upd f i v)).map A.d := by
  apply List.ext_getElem?
  intro j
  simp only [cF, List.getElem?_set, List.getElem?_map, List.length_map, List.length_range]
  by_cases hj : i = j
  · subst hj
    by_cases hn : i < N
    · simp [hn, upd]
    · simp [hn]
  · by_cases hn : j < N
    · simp [hn, hj, upd, Ne.symm hj]
    · simp [hn, hj]
theorem cF_congr {N : Nat} {f g : Nat → Int} (h : ∀ i, i < N → f i = g i) : cF N f = cF N g := by
  unfold cF
  exact List.map_congr_left fun i hi => by rw [h i (List.mem_range.1 hi)]
theorem onlyD (os : List Nat) : ∀ l : List D, A.onlyL os (l.map A.d) = true
  | [] => rfl
  | x :: r => by rw [List.map_cons, A.onlyL, onlyD os r]; rfl
theorem onlyE {os : List Nat} {l : List D} {cs : List A} (h : cs = l.map A.d) : A.onlyL os cs = true := by subst h; exact onlyD ..
theorem rep0 (N : Nat) : (List.replicate N (Value.int .i64 0)).map (fun v => A.d (D.v v)) = (cF N fun _ => 0).map A.d := by
  apply List.ext_getElem?
  intro j
  by_cases hn : j < N
  · simp [cF, hn]
  · simp [cF, hn]
theorem cF_one {N : Nat} {f : Nat → Int} : ((cF N f).map A.d).all A.one = true := by
  rw [List.all_eq_true]
  intro x hx
  obtain ⟨y, hy, rfl⟩ := List.mem_map.1 hx
  unfold cF at hy
  obtain ⟨i, _, rfl⟩ := List.mem_map.1 hy
  rfl
theorem cF_all {f : Nat → Int} : (((cF 20 f).map A.d).drop 0).take 20 = (cF 20 f).map A.d := by
  rw [List.drop_zero]; exact List.take_of_length_le (by rw [cF_lenA]; exact Nat.le_refl _)
theorem put20 {f g : Nat → Int} : putAt ((cF 20 f).map A.d) 0 ((cF 20 g).map A.d) = (cF 20 g).map A.d := by
  unfold putAt
  rw [List.take_zero, List.nil_append, List.drop_of_length_le (by rw [cF_lenA, cF_lenA]; decide), List.append_nil]
theorem put_all {f g : Nat → Int} : ((putAt ((cF 20 f).map A.d) 0 ((cF 20 g).map A.d)).drop 0).take 20 = (cF 20 g).map A.d := by rw [put20]; exact cF_all
theorem put_len {f g : Nat → Int} : (putAt ((cF 20 f).map A.d) 0 ((cF 20 g).map A.d)).length = 20 := by rw [put20]; exact cF_lenA
abbrev zs20 : List A := List.map (fun v => A.d (D.v v)) (List.replicate 20 (Value.int .i64 0))
theorem put0 {f : Nat → Int} : putAt zs20 0 ((cF 20 f).map A.d) = (cF 20 f).map A.d := by unfold zs20; rw [rep0]; exact put20
theorem put0_len {f : Nat → Int} : (putAt zs20 0 ((cF 20 f).map A.d)).length = 20 := by rw [put0]; exact cF_lenA
theorem put0_set {f : Nat → Int} {i j : Nat} {v : Int} (h : i = j) : (putAt zs20 0 ((cF 20 f).map A.d)).set i (.d (.v (.int .i64 v))) = (cF 20 (upd f j v)).map A.d := by rw [put0, h]; exact cF_setD
theorem zs20_only {os : List Nat} : A.onlyL os zs20 = true := onlyE (rep0 20)
theorem put0_all {f : Nat → Int} : ((putAt zs20 0 ((cF 20 f).map A.d)).drop 0).take 20 = (cF 20 f).map A.d := by rw [put0]; exact cF_all
/-- two truths -/
def tv (f g : Nat → Int) : List D := cF 20 f ++ cF 20 g
theorem tv_len {f g : Nat → Int} : (tv f g).length = 40 := by unfold tv; rw [List.length_append, cF_len, cF_len]
theorem tv_fst {f g : Nat → Int} : (((tv f g).map A.d).drop 0).take 20 = (cF 20 f).map A.d := by
  unfold tv; rw [List.drop_zero, List.map_append, List.take_append_of_le_length (by rw [cF_lenA]; exact Nat.le_refl _), List.take_of_length_le (by rw [cF_lenA]; exact Nat.le_refl _)]
theorem tv_snd {f g : Nat → Int} : (((tv f g).map A.d).drop 20).take 20 = (cF 20 g).map A.d := by
  unfold tv
  rw [List.map_append, List.drop_left' cF_lenA]
  exact List.take_of_length_le (by rw [cF_lenA]; exact Nat.le_refl _)
theorem tv_setL {f g : Nat → Int} {i : Nat} {v : Int} (h : i < 20) : ((tv f g).map A.d).set i (.d (dI v)) = (tv (upd f i v) g).map A.d := by
  unfold tv
  rw [List.map_append, List.set_append_left _ _ (by rw [cF_lenA]; exact h), cF_setD, List.map_append]
theorem tv_setR {f g : Nat → Int} {i : Nat} {v : Int} : ((tv f g).map A.d).set (20 + i) (.d (dI v)) = (tv f (upd g i v)).map A.d := by
  unfold tv
  rw [List.map_append, List.set_append_right _ _ (by rw [cF_lenA]; omega), cF_lenA, Nat.add_sub_cancel_left, cF_setD, List.map_append]
theorem tv_putL {f g f' : Nat → Int} : putAt ((tv f g).map A.d) 0 ((cF 20 f').map A.d) = (tv f' g).map A.d := by
  unfold putAt tv
  have h : 0 + ((cF 20 f').map A.d).length = ((cF 20 f).map A.d).length := by rw [cF_lenA, cF_lenA]
  rw [List.map_append, List.map_append, h, List.drop_left, List.take_zero, List.nil_append]
theorem tv_putR {f g g' : Nat → Int} : putAt ((tv f g).map A.d) 20 ((cF 20 g').map A.d) = (tv f g').map A.d := by
  unfold putAt tv
  have h : 20 + ((cF 20 g').map A.d).length = ((cF 20 f ++ cF 20 g).map A.d).length := by rw [cF_lenA, List.length_map, List.length_append, cF_len, cF_len]
  rw [h, List.drop_length, List.append_nil, List.map_append, List.map_append, List.take_left' cF_lenA]
theorem tv_one {f g : Nat → Int} : ((tv f g).map A.d).all A.one = true := by
  unfold tv
  rw [List.map_append, List.all_append, cF_one, cF_one]; rfl
theorem tv_all {f g : Nat → Int} : (((tv f g).map A.d).drop 0).take 40 = (tv f g).map A.d := by
  rw [List.drop_zero]; exact List.take_of_length_le (by rw [List.length_map, tv_len]; exact Nat.le_refl _)
theorem tv_lenA {f g : Nat → Int} : ((tv f g).map A.d).length = 40 := by rw [List.length_map, tv_len]
theorem put40 {f g f' g' : Nat → Int} : putAt ((tv f g).map A.d) 0 ((tv f' g').map A.d) = (tv f' g').map A.d := by
  unfold putAt
  rw [List.take_zero, List.nil_append, List.drop_of_length_le (by rw [tv_lenA, tv_lenA]; decide), List.append_nil]
abbrev zs40 : List A := List.map (fun v => A.d (D.v v)) (List.replicate 40 (Value.int .i64 0))
theorem rep40 : (List.replicate 40 (Value.int .i64 0)).map (fun v => A.d (D.v v)) = (tv (fun _ => 0) fun _ => 0).map A.d := by
  rw [rep0]
  unfold tv cF
  rfl
theorem zput40 {f g : Nat → Int} : putAt zs40 0 ((tv f g).map A.d) = (tv f g).map A.d := by unfold zs40; rw [rep40]; exact put40
theorem zput_len {f g : Nat → Int} : (putAt zs40 0 ((tv f g).map A.d)).length = 40 := by rw [zput40]; exact tv_lenA
theorem fillA_step {tb : Go.Ev.TB} {fs : List (Nat × TypeId)} {cells : List A} {i off : Nat} {t : TypeId} {y : Ty} {x : A} {xs : List A} {r : List (Nat × A)} {K : List A → Prop} (h1 : fs[i]? = some (off, t)) (h2 : tb t = some y) (h3 : cellsOf x = some xs) (h4 : xs.length = y.size) (h5 : off + xs.length ≤ cells.length)
    (h : fillA tb fs (putAt cells off xs) r K) : fillA tb fs cells ((i, x) :: r) K := by
  simp only [fillA, h1, h2]
  rw [withCells_eq]
  refine ⟨xs, h3, ?_⟩
  have : (Nat.beq xs.length y.size && Nat.ble (off + xs.length) cells.length) = true := by
    rw [Bool.and_eq_true]
    exact ⟨by rw [h4]; simp, by rw [Nat.ble_eq]; exact h5⟩
  rw [this, cond_true, fL_eq]
  exact h
theorem fill_tv (f g : Nat → Int) : fillA tb [(0, 95), (20, 95)] (List.map (fun v => A.d (D.v v)) (List.replicate 40 (Value.int IntKind.i64 0))) [(0, .d (.agg (cF 20 f))), (1, .d (.agg (cF 20 g)))] fun cs' => cs' = (tv f g).map A.d := by
  rw [rep40]
  refine fillA_step (off := 0) (t := 95) (xs := (cF 20 f).map A.d) rfl rfl rfl cF_lenA (by rw [cF_lenA, List.length_map, tv_len]; decide) ?_
  rw [tv_putL]
  refine fillA_step (off := 20) (t := 95) (xs := (cF 20 g).map A.d) rfl rfl rfl cF_lenA (by rw [cF_lenA, List.length_map, tv_len]; decide) ?_
  rw [tv_putR]
  rfl
/-- the loads of the first points, as a list -/
def lsI (n : Nat) (f : Nat → Int) : List Int := (List.range n).map f
theorem lsI_len {n : Nat} {f : Nat → Int} : (lsI n f).length = n := by simp [lsI]
theorem lsI_at {n : Nat} {f : Nat → Int} {i : Nat} (h : i < n) : tA (lsI n f) i = f i := by unfold tA lsI; simp [h]
theorem cF_take {n : Nat} (h : n ≤ 20) {f : Nat → Int} : ((cF 20 f).map A.d).take (n * 1) = (((lsI n f).map fun x => [dI x]).flatten).map A.d := by
  have e : ∀ l : List Int, ((l.map fun x => [dI x]).flatten) = l.map dI := fun l => by
    induction l with
    | nil => rfl
    | cons a l ih => simp only [List.map_cons, List.flatten_cons, ih, List.singleton_append]
  rw [e, ← List.map_take, Nat.mul_one]
  congr 1
  unfold cF lsI
  rw [← List.map_take, List.take_range, Nat.min_eq_left h, List.map_map]
  rfl
/-- bounded loads -/
def FB (n : Nat) (f : Nat → Int) : Prop := ∀ i, i < n → 0 ≤ f i ∧ f i ≤ 100000
theorem FB.tb {l : List P3} {f : Nat → Int} (h : FB l.length f) : TB l (lsI l.length f) := ⟨lsI_len, fun i hi => by rw [lsI_len] at hi; rw [lsI_at hi]; exact h i hi⟩
def lowF (l : List P3) (i : Nat) : Int := (pAt l i).2.1
def highF (l : List P3) (i : Nat) : Int := (pAt l i).2.2
theorem lowF_b {l : List P3} {r : P3} (h : VC l r) : FB l.length (lowF l) := fun i hi => by have := h.pt i hi; unfold lowF; omega
theorem highF_b {l : List P3} {r : P3} (h : VC l r) : FB l.length (highF l) := fun i hi => by have := h.pt i hi; unfold highF; omega
theorem pAt_ge {l : List P3} {i : Nat} (h : l.length ≤ i) : pAt l i = z3 := by unfold pAt; rw [List.getD_eq_getElem?_getD, List.getElem?_eq_none h]; rfl
/-- as far as it is done -/
def upto (k : Nat) (f : Nat → Int) : Nat → Int := fun i => if i < k then f i else 0
theorem upto_step {k : Nat} {f : Nat → Int} : upd (upto k f) k (f k) = upto (k + 1) f := by
  funext i
  unfold upd upto
  by_cases h : i = k
  · subst h; rw [if_pos rfl, if_pos (by omega)]
  · rw [if_neg h]
    by_cases h2 : i < k
    · rw [if_pos h2, if_pos (by omega)]
    · rw [if_neg h2, if_neg (by omega)]
theorem upto_zero {f : Nat → Int} : upto 0 f = fun _ => 0 := by funext i; simp [upto]
theorem upto_low {l : List P3} : upto l.length (lowF l) = lowF l := by
  funext i; unfold upto
  by_cases h : i < l.length
  · rw [if_pos h]
  · rw [if_neg h]; unfold lowF; rw [pAt_ge (by omega)]
theorem upto_high {l : List P3} : upto l.length (highF l) = highF l := by
  funext i; unfold upto
  by_cases h : i < l.length
  · rw [if_pos h]
  · rw [if_neg h]; unfold highF; rw [pAt_ge (by omega)]
end Go.Ev.Ytdgjogeddogbdaa

set_option linter.unusedVariables false
set_option linter.unusedSimpArgs false
set_option maxRecDepth 100000
namespace Go.Ev.Ytdgjogeddogbdaa
open Go.Proofs
attribute [local irreducible] Pure Bor Iter inB ptB ruB okL goodB lineI ckC truB maxN fstN yvN mvN wkN metI tA pAt erC cF tv lsI
theorem low_pure {l : List P3} (hl : l.length ≤ 20) (r : P3) : Pure Try.prog 71 [rdD l r] (.agg (cF 20 (lowF l))) := by
  have hm : ((List.map ptD l).length : Int) = (l.length : Int) := by rw [List.length_map]
  refine pure_of pg Try.func71 (by kernel_rfl) ?_
  conv => whnf
  refine ⟨[], [1, 2, 7, 8, 9], [0, 1], 2, fun m s => ∃ (k : Nat) (cs : List A), k + m = l.length ∧ cs = (cF 20 (upto k (lowF l))).map A.d ∧
    s = ⟨[(1, .ref 0 0), (2, .ref 1 0), (7, .d (ptsD l)), (8, .d (dI (l.map ptD).length)), (9, .d (dI k))], [(0, .var false 86 [.d (ptsD l), .d (dI r.1), .d (dI r.2.1), .d (dI r.2.2)]), (1, .var true 95 cs)], 2⟩, ?_, ?_⟩
  · conv => whnf
    refine ⟨onlyE (rep0 20), ?_⟩
    conv => whnf
    exact ⟨l.length, 0, _, by omega, by rw [upto_zero]; exact rep0 20, rfl⟩
  · rintro m _ ⟨k, cs, hk, rfl, rfl⟩
    conv => whnf
    (apply kB <;> intro h <;> conv => whnf)
    · have hlt : k < l.length := by rw [decide_eq_true_eq, hm] at h; omega
      (refine ⟨k, ptD (pAt l k), rfl, getpa l k hlt, rfl, ?_⟩; conv => whnf)
      (refine ⟨k, rfl, by omega, ?_⟩; conv => whnf)
      (refine ⟨by rw [cF_lenA]; dsimp only; omega, ?_⟩; conv => whnf)
      have e : ((cF 20 (upto k (lowF l))).map A.d).set (0 + k * 1) (.d (dI (pAt l k).2.1)) = (cF 20 (upto (k + 1) (lowF l))).map A.d := by
        rw [Nat.zero_add, Nat.mul_one, cF_setD]; rw [show (pAt l k).2.1 = lowF l k from rfl, upto_step]
      refine ⟨onlyE e, ?_⟩
      conv => whnf
      exact ⟨m - 1, by omega, k + 1, _, by omega, e, by rw [w1 k (by omega)]⟩
    · have hge : k = l.length := by rw [decide_eq_false_iff_not, hm] at h; omega
      subst hge
      rw [upto_low]
      (refine ⟨cF 20 (lowF l), cF_all, cF_len, ?_⟩; conv => whnf)
      (refine ⟨(cF 20 (lowF l)).map A.d, rfl, cF_lenA, by simp only [cF_lenA]; decide, cF_one, ?_⟩; conv => whnf)
      (refine ⟨cF 20 (lowF l), put_all, cF_len, ?_⟩; conv => whnf)
      rfl
theorem high_pure {l : List P3} (hl : l.length ≤ 20) (r : P3) : Pure Try.prog 72 [rdD l r] (.agg (cF 20 (highF l))) := by
  have hm : ((List.map ptD l).length : Int) = (l.length : Int) := by rw [List.length_map]
  refine pure_of pg Try.func72 (by kernel_rfl) ?_
  conv => whnf
  refine ⟨[], [1, 2, 7, 8, 9], [0, 1], 2, fun m s => ∃ (k : Nat) (cs : List A), k + m = l.length ∧ cs = (cF 20 (upto k (highF l))).map A.d ∧
    s = ⟨[(1, .ref 0 0), (2, .ref 1 0), (7, .d (ptsD l)), (8, .d (dI (l.map ptD).length)), (9, .d (dI k))], [(0, .var false 86 [.d (ptsD l), .d (dI r.1), .d (dI r.2.1), .d (dI r.2.2)]), (1, .var true 95 cs)], 2⟩, ?_, ?_⟩
  · conv => whnf
    refine ⟨onlyE (rep0 20), ?_⟩
    conv => whnf
    exact ⟨l.length, 0, _, by omega, by rw [upto_zero]; exact rep0 20, rfl⟩
  · rintro m _ ⟨k, cs, hk, rfl, rfl⟩
    conv => whnf
    (apply kB <;> intro h <;> conv => whnf)
    · have hlt : k < l.length := by rw [decide_eq_true_eq, hm] at h; omega
      (refine ⟨k, ptD (pAt l k), rfl, getpa l k hlt, rfl, ?_⟩; conv => whnf)
      (refine ⟨k, rfl, by omega, ?_⟩; conv => whnf)
      (refine ⟨by rw [cF_lenA]; dsimp only; omega, ?_⟩; conv => whnf)
      have e : ((cF 20 (upto k (highF l))).map A.d).set (0 + k * 1) (.d (dI (pAt l k).2.2)) = (cF 20 (upto (k + 1) (highF l))).map A.d := by
        rw [Nat.zero_add, Nat.mul_one, cF_setD]; rw [show (pAt l k).2.2 = highF l k from rfl, upto_step]
      refine ⟨onlyE e, ?_⟩
      conv => whnf
      exact ⟨m - 1, by omega, k + 1, _, by omega, e, by rw [w1 k (by omega)]⟩
    · have hge : k = l.length := by rw [decide_eq_false_iff_not, hm] at h; omega
      subst hge
      rw [upto_high]
      (refine ⟨cF 20 (highF l), cF_all, cF_len, ?_⟩; conv => whnf)
      (refine ⟨(cF 20 (highF l)).map A.d, rfl, cF_lenA, by simp only [cF_lenA]; decide, cF_one, ?_⟩; conv => whnf)
      (refine ⟨cF 20 (highF l), put_all, cF_len, ?_⟩; conv => whnf)
      rfl
theorem clone_pure (t : List Int) (ht : t.length ≤ 1000) (h0 : t ≠ []) : Pure Try.prog 63 [isD t] (isD t) := by
  refine pure_of pg Try.func63 (by kernel_rfl) ?_
  conv => whnf
  (refine ⟨by intro h; exact h0 (List.map_eq_nil_iff.1 h), ?_⟩; conv => whnf)
  (repeat' (first | (apply kT (by with_reducible first | rfl | assumption); conv => whnf) | (apply kF (by with_reducible first | rfl | assumption); conv => whnf) | (apply kT (by decide); conv => whnf) | (apply kF (by decide); conv => whnf) | (apply kB <;> intro _ <;> conv => whnf) | fail))
  (refine ⟨by intro el he; obtain ⟨x, _, rfl⟩ := List.mem_map.1 he; rfl, by rw [List.length_map]; show ([].length + t.length) * 8 ≤ _; simp only [List.length_nil]; omega, ?_⟩; conv => whnf)
  rfl
theorem llist_pure {l : List P3} (hl : l.length ≤ 20) (h0 : l.length ≠ 0) (r : P3) (f : Nat → Int) : Pure Try.prog 49 [rdD l r, .agg (cF 20 f)] (isD (lsI l.length f)) := by
  have hm : ((List.map ptD l).length : Int) = (l.length : Int) := by rw [List.length_map]
  have c := clone_pure (lsI l.length f) (by rw [lsI_len]; omega) (by intro h; have := congrArg List.length h; rw [lsI_len] at this; exact h0 this)
  refine pure_of pg Try.func49 (by kernel_rfl) ?_
  conv => whnf
  (refine ⟨cF_one, ?_⟩; conv => whnf)
  (refine ⟨l.length, hm, hl, (lsI l.length f).map (fun n => [dI n]), cF_take hl, by intro el he; obtain ⟨x, _, rfl⟩ := List.mem_map.1 he; rfl, by rw [List.length_map, lsI_len], ?_⟩; conv => whnf)
  (refine .inl ⟨_, c, ?_⟩; conv => whnf)
  rfl
theorem max_pure (a b : Int) : Pure Try.prog 79 [.seq [[dI a], [dI b]]] (dI (max a b)) := by
  refine pure_of pg Try.func79 (by kernel_rfl) ?_
  conv => whnf
  (apply kF (rfl); conv => whnf)
  (refine ⟨0, _, rfl, rfl, rfl, ?_⟩; conv => whnf)
  refine ⟨[], [0, 3, 4], [], 0, fun m s => ∃ k : Nat, (k = 1 ∨ k = 2) ∧ k + m = 2 ∧ s = ⟨[(0, .d (.seq [[dI a], [dI b]])), (3, .d (dI (if k = 1 then a else max a b))), (4, .d (dI k))], [], 0⟩, ?_, ?_⟩
  · conv => whnf
    exact ⟨1, 1, .inl rfl, rfl, rfl⟩
  · rintro m _ ⟨k, hk, hkm, rfl⟩
    rcases hk with rfl | rfl
    · conv => whnf
      (apply kT (rfl); conv => whnf)
      (refine ⟨1, _, rfl, rfl, rfl, ?_⟩; conv => whnf)
      exact ⟨0, by omega, 2, .inr rfl, rfl, rfl⟩
    · conv => whnf
      (apply kF (rfl); conv => whnf)
      rfl
theorem greatest_pure (a b : Int) : Pure Try.prog 74 [.seq [[dI a], [dI b]]] (dI (max a b)) := by
  refine pure_of pg Try.func74 (by kernel_rfl) ?_
  conv => whnf
  (refine .inl ⟨_, max_pure a b, ?_⟩; conv => whnf)
  rfl
/-- what a kind names, in a truth: the number, and where it is -/
def resQ (kind : Nat) (l : List P3) (r : P3) (t : List Int) : Int × Int :=
  match kind with
  | 0 => ((maxN t t.length).1, (maxN t t.length).2)
  | 1 => (yvN t r t.length, fstN (yP t r) t.length)
  | 2 => (mvN l r t t.length, fstN (mP l r t) t.length)
  | _ => (wkN l t t.length, 0)
theorem q_pure (kind : Nat) (hk : kind < 4) (l : List P3) (r : P3) (t : List Int) : Pure Try.prog (59 + kind) [resD l r t] (.tup [dI (resQ kind l r t).1, dI (resQ kind l r t).2]) := by
  unfold resD resL7
  match kind, hk with
  | 0, _ =>
    refine pure_of pg Try.func59 (by kernel_rfl) ?_
    conv => whnf
    rfl
  | 1, _ =>
    refine pure_of pg Try.func60 (by kernel_rfl) ?_
    conv => whnf
    rfl
  | 2, _ =>
    refine pure_of pg Try.func61 (by kernel_rfl) ?_
    conv => whnf
    rfl
  | 3, _ =>
    refine pure_of pg Try.func62 (by kernel_rfl) ?_
    conv => whnf
    rfl
def qs : List (List D) := [[.fn (.func 59) [] []], [.fn (.func 60) [] []], [.fn (.func 61) [] []], [.fn (.func 62) [] []]]
theorem quants_pure : Pure Try.prog 48 [] (.seq qs) := by
  refine pure_of pg Try.func48 (by kernel_rfl) ?_
  conv => whnf
  rfl
theorem qs_at {k : Nat} (h : k < 4) : qs[k]? = some [.fn (.func (59 + k)) [] []] := by
  match k, h with
  | 0, _ => rfl
  | 1, _ => rfl
  | 2, _ => rfl
  | 3, _ => rfl
/-- the number of a kind, in a truth -/
def numQ (kind : Nat) (l : List P3) (r : P3) (f : Nat → Int) : Int := (resQ kind l r (lsI l.length f)).1
abbrev xO (l : List P3) (r : P3) : Ob := .var false 86 [.d (ptsD l), .d (dI r.1), .d (dI r.2.1), .d (dI r.2.2)]
abbrev kO (kind : Nat) : Ob := .var false 5 [.d (dU kind)]
attribute [local irreducible] resQ qs
theorem of_bor {l : List P3} {r : P3} (h : VC l r) {kind : Nat} (hk : kind < 4) {f : Nat → Int} (hf : FB l.length f) :
    Bor tb Try.prog 69 [.d (.agg (cF 20 f)), .ref 0 0, .ref 1 0] [kO kind, xO l r] 2 (.d (dI (numQ kind l r f))) [(0, kO kind), (1, xO l r)] := by
  have c1 := llist_pure h.len h.pos r f
  have c2 := result_pure h hf.tb
  have c3 := q_pure kind hk l r (lsI l.length f)
  refine bor_of pg Try.func69 (by kernel_rfl) ?_
  conv => whnf
  (refine ⟨cF_one, ?_⟩; conv => whnf)
  (refine .inl ⟨_, quants_pure, ?_⟩; conv => whnf)
  (refine ⟨kind, _, rfl, qs_at hk, rfl, ?_⟩; conv => whnf)
  (refine ⟨cF 20 f, cF_all, cF_len, ?_⟩; conv => whnf)
  (refine .inl ⟨_, c1, ?_⟩; conv => whnf)
  (refine .inl ⟨_, c2, ?_⟩; conv => whnf)
  (refine .inl ⟨_, c3, ?_⟩; conv => whnf)
  refine ⟨[], [0, 1], ?_⟩
  conv => whnf
  exact ⟨rfl, rfl⟩
end Go.Ev.Ytdgjogeddogbdaa

set_option linter.unusedVariables false
set_option linter.unusedSimpArgs false
namespace Go.Ev.Ytdgjogeddogbdaa
open Go.Proofs
/-- the least load of a point, if none before it drops -/
def lstI (l : List P3) (d : Int) : Nat → Int
  | 0 => lowF l 0
  | i + 1 => max (lowF l (i + 1)) (lstI l d i - d + 1)
theorem lstI_bd {l : List P3} {r : P3} (h : VC l r) : ∀ i, i < l.length → 0 ≤ lstI l r.1 i ∧ lstI l r.1 i ≤ 100000
  | 0, hi => by have := lowF_b h 0 hi; rw [lstI]; exact this
  | i + 1, hi => by
    have h1 := lowF_b h (i + 1) hi
    have h2 := lstI_bd h i (by omega)
    have h3 := h.drop
    rw [lstI]
    omega
abbrev keyD (i : Nat) (d : Int) : D := .agg [dI i, dI d]
/-- what is known -/
def knL (l : List P3) (d : Int) : Nat → Nat → List (D × D)
  | _, 0 => []
  | a, n + 1 => (keyD a d, dI (lstI l d a)) :: knL l d (a + 1) n
theorem key_eq (i j : Nat) (d : Int) : keyEq (keyD i d) (keyD j d) = decide (i = j) := by
  simp only [keyEq, eqC, decide_true, cond_true, Bool.and_true]
  have : (d == d) = true := by simp
  rw [this, Bool.and_true, Bool.eq_iff_iff, beq_iff_eq, decide_eq_true_eq]
  omega
theorem kn_get (l : List P3) (d : Int) : ∀ n a i, mapGet (knL l d a n) (keyD i d) = if a ≤ i ∧ i < a + n then some (dI (lstI l d i)) else none
  | 0, a, i => by rw [knL, mapGet, if_neg (by omega)]
  | n + 1, a, i => by
    rw [knL, mapGet]
    dsimp only
    rw [key_eq]
    by_cases h : i = a
    · subst h; rw [decide_eq_true rfl, cond_true, if_pos (by omega)]
    · rw [decide_eq_false h, cond_false, kn_get l d n]
      by_cases h2 : a ≤ i ∧ i < a + (n + 1)
      · rw [if_pos h2, if_pos (by omega)]
      · rw [if_neg h2, if_neg (by omega)]
theorem kn_set (l : List P3) (d : Int) : ∀ n a, mapSet (knL l d a n) (keyD (a + n) d) (dI (lstI l d (a + n))) = knL l d a (n + 1)
  | 0, a => by rw [knL, knL, knL, mapSet, Nat.add_zero]
  | n + 1, a => by
    rw [knL, mapSet]
    dsimp only
    rw [key_eq, decide_eq_false (by omega), cond_false, show a + (n + 1) = a + 1 + n by omega, kn_set l d n, knL.eq_def l d a (n + 1 + 1)]
/-- loads up to a point, so great that none before it drops -/
def bkN (l : List P3) (d : Int) (at' : Nat) (load : Int) : Nat → Nat → Int
  | 0 => upd (lowF l) at' load
  | j + 1 => upd (bkN l d at' load j) (at' - 1 - j) (min (highF l (at' - 1 - j)) (bkN l d at' load j (at' - j) + d - 1))
def bkF (l : List P3) (d : Int) (at' : Nat) (load : Int) : Nat → Int := bkN l d at' load at'
theorem upd_b {n : Nat} {f : Nat → Int} (h : FB n f) {i : Nat} {v : Int} (hv : 0 ≤ v ∧ v ≤ 100000) : FB n (upd f i v) := fun j hj => by
  unfold upd
  split
  · exact hv
  · exact h j hj
theorem bkN_b {l : List P3} {r : P3} (h : VC l r) {at' : Nat} {load : Int} (ha : at' < l.length) (hb : 0 ≤ load ∧ load ≤ 100000) : ∀ j, j ≤ at' → FB l.length (bkN l r.1 at' load j)
  | 0, _ => upd_b (lowF_b h) hb
  | j + 1, hj => by
    have ih := bkN_b h ha hb j (by omega)
    refine upd_b ih ?_
    have h1 := ih (at' - j) (by omega)
    have h2 := highF_b h (at' - 1 - j) (by omega)
    have h3 := h.drop
    omega
/-- a point, and two truths -/
abbrev Em := Nat × (Nat → Int) × (Nat → Int)
def emD (e : Em) : List D := [dI (e.1 : Int), .agg (tv e.2.1 e.2.2)]
def y2 (l : List P3) (d : Int) (i : Nat) : Int := max (lstI l d i) (lowF l (i + 1) + d)
/-- what is handed over, from a point on; so many points are left -/
def yEm (l : List P3) (d : Int) : Nat → Nat → List Em
  | _, 0 => []
  | i, n + 1 => if lstI l d i > highF l i then [] else
    (if y2 l d i ≤ highF l i then [(i, bkF l d i (y2 l d i), bkF l d i (highF l i))] else []) ++ yEm l d (i + 1) n
/-- how many points are known behind it -/
def ySt (l : List P3) (d : Int) : Nat → Nat → Nat
  | i, 0 => i
  | i, n + 1 => if lstI l d i > highF l i then i + 1 else ySt l d (i + 1) n
def mEm1 (l : List P3) (r : P3) (i : Nat) : Em :=
  (i, (if i = 0 then upd (highF l) i (lowF l i) else upd (upd (highF l) i (lowF l i)) (i - 1) (max (lowF l (i - 1)) (lineI l r (i - 1) + 1))), upd (highF l) i (min (highF l i) (lineI l r i)))
def mEm (l : List P3) (r : P3) : Nat → Nat → List Em
  | _, 0 => []
  | i, n + 1 => (if lowF l i ≤ lineI l r i then [mEm1 l r i] else []) ++ (if highF l i ≤ lineI l r i then [] else mEm l r (i + 1) n)
/-- what is handed over, for a kind -/
def emK (kind : Nat) (l : List P3) (r : P3) : List Em :=
  match kind with
  | 1 => yEm l r.1 0 (l.length - 1)
  | 2 => mEm l r 0 l.length
  | _ => [(0, lowF l, highF l)]
/-- the ends, so far -/
def stE (kind : Nat) (l : List P3) (r : P3) (b : Bool) (s : (Nat → Int) × (Nat → Int)) (e : Em) : (Nat → Int) × (Nat → Int) :=
  ((if b = false ∨ numQ kind l r e.2.1 < numQ kind l r s.1 then e.2.1 else s.1), (if b = false ∨ numQ kind l r e.2.2 > numQ kind l r s.2 then e.2.2 else s.2))
def endsN (kind : Nat) (l : List P3) (r : P3) (es : List Em) : Nat → (Nat → Int) × (Nat → Int)
  | 0 => (fun _ => 0, fun _ => 0)
  | k + 1 => match es[k]? with
    | some e => stE kind l r (decide (0 < k)) (endsN kind l r es k) e
    | none => endsN kind l r es k
def endsF (kind : Nat) (l : List P3) (r : P3) : (Nat → Int) × (Nat → Int) := endsN kind l r (emK kind l r) (emK kind l r).length
end Go.Ev.Ytdgjogeddogbdaa

set_option linter.unusedVariables false
set_option linter.unusedSimpArgs false
set_option maxRecDepth 100000
namespace Go.Ev.Ytdgjogeddogbdaa
open Go.Proofs
attribute [local irreducible] Pure Bor Iter inB ptB ruB okL goodB lineI ckC truB maxN fstN yvN mvN wkN metI tA pAt erC cF tv lsI resQ qs lstI knL bkN numQ
abbrev xR (l : List P3) (r : P3) : Ob := .ro 86 [.d (ptsD l), .d (dI r.1), .d (dI r.2.1), .d (dI r.2.2)]
abbrev lsO (known x least : Nat) : Ob := .ro 122 [.fn (.func 73) [] [.ref known 0, .ref x 0, .ref least 0]]
abbrev preL (l : List P3) (r : P3) (es : List (D × D)) : List Ob := [xR l r, .map 124 3 es, .ro 121 [.own 1], lsO 2 0 3]
abbrev postL (l : List P3) (r : P3) (es : List (D × D)) : List (Nat × Ob) := [(0, xR l r), (1, .map 124 3 es), (2, .ro 121 [.own 1]), (3, lsO 2 0 3)]
theorem least_hit (l : List P3) (r : P3) {n i : Nat} (hi : i < n) :
    Bor tb Try.prog 73 [.d (keyD i r.1), .ref 2 0, .ref 0 0, .ref 3 0] (preL l r (knL l r.1 0 n)) 4 (.d (dI (lstI l r.1 i))) (postL l r (knL l r.1 0 n)) := by
  have hg : mapGet (knL l r.1 0 n) (keyD i r.1) = some (dI (lstI l r.1 i)) := by rw [kn_get, if_pos (by omega)]
  refine bor_of pg Try.func73 (by kernel_rfl) ?_
  conv => whnf
  (refine ⟨_, rfl, ?_⟩; conv => whnf)
  (refine ⟨_, hg, ?_⟩; conv => whnf)
  (apply kF (rfl); conv => whnf)
  refine ⟨[], [0, 1, 2, 3], ?_⟩
  conv => whnf
  (refine ⟨rfl, ?_⟩; conv => whnf); (refine ⟨rfl, ?_⟩; conv => whnf); (refine ⟨rfl, ?_⟩; conv => whnf)
  exact ⟨rfl, rfl⟩
theorem least_miss {l : List P3} {r : P3} (h : VC l r) {i : Nat} (hi : i < l.length) :
    Bor tb Try.prog 73 [.d (keyD i r.1), .ref 2 0, .ref 0 0, .ref 3 0] (preL l r (knL l r.1 0 i)) 4 (.d (dI (lstI l r.1 i))) (postL l r (knL l r.1 0 (i + 1))) := by
  have hg : mapGet (knL l r.1 0 i) (keyD i r.1) = none := by rw [kn_get, if_neg (by omega)]
  have hs : mapSet (knL l r.1 0 i) (keyD i r.1) (dI (lstI l r.1 i)) = knL l r.1 0 (i + 1) := by have := kn_set l r.1 i 0; rwa [Nat.zero_add] at this
  have hlen := h.len
  have hd := h.drop
  rcases Nat.eq_zero_or_pos i with h0 | h0
  · have hz : decide ((i : Int) > 0) = false := by rw [decide_eq_false_iff_not]; omega
    have e : (pAt l i).2.1 = lstI l r.1 i := by subst h0; rw [lstI]; rfl
    refine bor_of pg Try.func73 (by kernel_rfl) ?_
    conv => whnf
    (refine ⟨_, rfl, ?_⟩; conv => whnf)
    (refine ⟨_, hg, ?_⟩; conv => whnf)
    (apply kT (rfl); conv => whnf)
    (refine ⟨_, rfl, ?_⟩; conv => whnf)
    (refine ⟨i, ptD (pAt l i), rfl, getpa l i hi, rfl, ?_⟩; conv => whnf)
    (apply kF (hz); conv => whnf)
    (refine ⟨_, rfl, ?_⟩; conv => whnf)
    rw [e]
    (refine ⟨_, hs, ?_⟩; conv => whnf)
    refine ⟨[], [0, 1, 2, 3], ?_⟩
    conv => whnf
    (refine ⟨rfl, ?_⟩; conv => whnf); (refine ⟨rfl, ?_⟩; conv => whnf); (refine ⟨rfl, ?_⟩; conv => whnf)
    exact ⟨rfl, rfl⟩
  · have hz : decide ((i : Int) > 0) = true := by rw [decide_eq_true_eq]; omega
    have w : IntKind.i64.wrap ((i : Int) - 1) = ((i - 1 : Nat) : Int) := by rw [wrapI (by omega) (by omega)]; omega
    have c := least_hit l r (n := i) (i := i - 1) (by omega)
    rw [show keyD (i - 1) r.1 = .agg [dI (IntKind.i64.wrap ((i : Int) - 1)), dI r.1] by rw [w]] at c
    have b := lstI_bd h (i - 1) (by omega)
    have e : max ((pAt l i).2.1) (IntKind.i64.wrap (IntKind.i64.wrap (lstI l r.1 (i - 1) - r.1) + 1)) = lstI l r.1 i := by
      rw [wrapI (n := lstI l r.1 (i - 1) - r.1) (by omega) (by omega), wrapI (by omega) (by omega)]
      conv => rhs; rw [show i = i - 1 + 1 by omega, lstI, show i - 1 + 1 = i by omega]
      rfl
    have cg := greatest_pure ((pAt l i).2.1) (IntKind.i64.wrap (IntKind.i64.wrap (lstI l r.1 (i - 1) - r.1) + 1))
    rw [e] at cg
    refine bor_of pg Try.func73 (by kernel_rfl) ?_
    conv => whnf
    (refine ⟨_, rfl, ?_⟩; conv => whnf)
    (refine ⟨_, hg, ?_⟩; conv => whnf)
    (apply kT (rfl); conv => whnf)
    (refine ⟨_, rfl, ?_⟩; conv => whnf)
    (refine ⟨i, ptD (pAt l i), rfl, getpa l i hi, rfl, ?_⟩; conv => whnf)
    (apply kT (hz); conv => whnf)
    (refine ⟨_, rfl, ?_⟩; conv => whnf)
    (refine .inr ⟨[0, 1, 2, 3], 4, _, _, c, ?_⟩; conv => whnf)
    (refine .inl ⟨_, cg, ?_⟩; conv => whnf)
    (refine ⟨_, rfl, ?_⟩; conv => whnf)
    (refine ⟨_, hs, ?_⟩; conv => whnf)
    refine ⟨[], [0, 1, 2, 3], ?_⟩
    conv => whnf
    (refine ⟨rfl, ?_⟩; conv => whnf); (refine ⟨rfl, ?_⟩; conv => whnf); (refine ⟨rfl, ?_⟩; conv => whnf)
    exact ⟨rfl, rfl⟩
theorem bk_step {l : List P3} {d : Int} {a : Nat} {x : Int} {j k : Nat} (h : k = a - 1 - j) (h2 : j < a) : upd (bkN l d a x j) k (min (highF l k) (bkN l d a x j (k + 1) + d - 1)) = bkN l d a x (j + 1) := by
  subst h
  rw [bkN, show a - 1 - j + 1 = a - j by omega]
theorem back_bor {l : List P3} {r : P3} (h : VC l r) {a : Nat} (ha : a < l.length) {x : Int} (hx : 0 ≤ x ∧ x ≤ 100000) :
    Bor tb Try.prog 75 [.d (dI (a : Int)), .d (dI x), .ref 0 0] [xR l r] 1 (.d (.agg (cF 20 (bkF l r.1 a x)))) [(0, xR l r)] := by
  have hlen := h.len
  have hd := h.drop
  refine bor_of pg Try.func75 (by kernel_rfl) ?_
  conv => whnf
  (refine ⟨[ptsD l, dI r.1, dI r.2.1, dI r.2.2], rfl, rfl, ?_⟩; conv => whnf)
  (refine .inl ⟨_, low_pure hlen r, ?_⟩; conv => whnf)
  (refine ⟨(cF 20 (lowF l)).map A.d, rfl, cF_lenA, by rw [rep0]; simp only [cF_lenA]; decide, cF_one, ?_⟩; conv => whnf)
  (refine ⟨a, rfl, by omega, ?_⟩; conv => whnf)
  (refine ⟨Nat.lt_of_lt_of_eq (by dsimp only; omega) (put0_len (f := lowF l)).symm, ?_⟩; conv => whnf)
  have e0 : (putAt zs20 0 ((cF 20 (lowF l)).map A.d)).set (0 + a * 1) (.d (.v (.int .i64 x))) = (cF 20 (bkN l r.1 a x 0)).map A.d := by rw [bkN]; exact put0_set (by omega)
  refine ⟨[], [0, 2, 5, 6, 7], [0, 1, 2], 3, fun m s => ∃ (j : Nat) (cs : List A), j + m = a ∧ cs = (cF 20 (bkN l r.1 a x j)).map A.d ∧
    s = ⟨[(0, .d (dI (a : Int))), (2, .ref 0 0), (5, .ref 1 0), (6, .ref 2 0), (7, .d (dI ((a : Int) - 1 - j)))], [(0, xR l r), (1, .var true 95 zs20), (2, .var true 95 cs)], 3⟩, ?_, ?_⟩
  · conv => whnf
    (refine ⟨rfl, ?_⟩; conv => whnf)
    (refine ⟨zs20_only, ?_⟩; conv => whnf)
    refine ⟨onlyE e0, ?_⟩
    conv => whnf
    exact ⟨a, 0, _, by omega, e0, by rw [wrapI (by omega) (by omega), show ((a : Int) - 1 - ((0 : Nat) : Int)) = (a : Int) - 1 by omega]⟩
  · rintro m _ ⟨j, cs, hj, rfl, rfl⟩
    conv => whnf
    (apply kB <;> intro hc <;> conv => whnf)
    · have hlt : j < a := by rw [decide_eq_true_eq] at hc; omega
      obtain ⟨k, hk⟩ : ∃ k : Nat, k = a - 1 - j := ⟨_, rfl⟩
      have ek : (a : Int) - 1 - j = (k : Int) := by omega
      have w : IntKind.i64.wrap ((a : Int) - 1 - j + 1) = ((k + 1 : Nat) : Int) := by rw [wrapI (by omega) (by omega)]; omega
      have b1 := bkN_b h ha hx j (by omega) (k + 1) (by omega)
      have b2 := highF_b h k (by omega)
      have e : min ((pAt l k).2.2) (IntKind.i64.wrap (IntKind.i64.wrap (bkN l r.1 a x j (k + 1) + r.1) - 1)) = min (highF l k) (bkN l r.1 a x j (k + 1) + r.1 - 1) := by
        rw [wrapI (n := bkN l r.1 a x j (k + 1) + r.1) (by omega) (by omega), wrapI (by omega) (by omega)]; rfl
      have es : ((cF 20 (bkN l r.1 a x j)).map A.d).set (0 + k * 1) (.d (.v (.int .i64 (min ((pAt l k).2.2) (IntKind.i64.wrap (IntKind.i64.wrap (bkN l r.1 a x j (k + 1) + r.1) - 1)))))) = (cF 20 (bkN l r.1 a x (j + 1))).map A.d := by
        rw [e, Nat.zero_add, Nat.mul_one, cF_setD, bk_step hk hlt]
      (refine ⟨_, rfl, ?_⟩; conv => whnf)
      (refine ⟨k, ptD (pAt l k), ek, getpa l k (by omega), rfl, ?_⟩; conv => whnf)
      (refine ⟨k + 1, w, by omega, ?_⟩; conv => whnf)
      (refine ⟨_, cF_getE (f := bkN l r.1 a x j) (j := k + 1) (by dsimp only; omega) (by omega), ?_⟩; conv => whnf)
      (refine ⟨_, rfl, ?_⟩; conv => whnf)
      (refine ⟨k, ek, by omega, ?_⟩; conv => whnf)
      (refine ⟨by rw [cF_lenA]; dsimp only; omega, ?_⟩; conv => whnf)
      (refine ⟨rfl, ?_⟩; conv => whnf)
      (refine ⟨zs20_only, ?_⟩; conv => whnf)
      refine ⟨onlyE es, ?_⟩
      conv => whnf
      exact ⟨m - 1, by omega, j + 1, _, by omega, es, by rw [show IntKind.i64.wrap ((a : Int) - 1 - j - 1) = (a : Int) - 1 - ((j + 1 : Nat) : Int) by rw [wrapI (by omega) (by omega)]; omega]⟩
    · have hge : j = a := by rw [decide_eq_false_iff_not] at hc; omega
      subst hge
      have eb : bkN l r.1 j x j = bkF l r.1 j x := rfl
      rw [eb]
      (refine ⟨cF 20 (bkF l r.1 j x), cF_all, cF_len, ?_⟩; conv => whnf)
      (refine ⟨(cF 20 (bkF l r.1 j x)).map A.d, rfl, cF_lenA, by simp only [cF_lenA]; decide, cF_one, ?_⟩; conv => whnf)
      (refine ⟨cF 20 (bkF l r.1 j x), put0_all, cF_len, ?_⟩; conv => whnf)
      refine ⟨[], [0], ?_⟩
      conv => whnf
      (refine ⟨rfl, ?_⟩; conv => whnf)
      exact ⟨rfl, rfl⟩
end Go.Ev.Ytdgjogeddogbdaa

set_option linter.unusedVariables false
set_option linter.unusedSimpArgs false
set_option maxRecDepth 100000
namespace Go.Ev.Ytdgjogeddogbdaa
open Go.Proofs
attribute [local irreducible] Pure Bor Iter inB ptB ruB okL goodB lineI ckC truB maxN fstN yvN mvN wkN metI tA pAt erC cF tv lsI resQ qs lstI knL bkN numQ bkF lowF highF
theorem strengths_bor (l : List P3) (r : P3) : Bor tb Try.prog 65 [.d (rdD l r)] [] 1 (.fn (.func 70) [] [.ref 0 0]) [(0, xR l r)] := by
  refine bor_of pg Try.func65 (by kernel_rfl) ?_
  conv => whnf
  refine ⟨[0], [0], ?_⟩
  conv => whnf
  (refine ⟨rfl, ?_⟩; conv => whnf)
  exact ⟨rfl, rfl⟩
theorem works_bor (l : List P3) (r : P3) : Bor tb Try.prog 68 [.d (rdD l r)] [] 1 (.fn (.func 78) [] [.ref 0 0]) [(0, xR l r)] := by
  refine bor_of pg Try.func68 (by kernel_rfl) ?_
  conv => whnf
  refine ⟨[0], [0], ?_⟩
  conv => whnf
  (refine ⟨rfl, ?_⟩; conv => whnf)
  exact ⟨rfl, rfl⟩
theorem meetings_bor (l : List P3) (r : P3) : Bor tb Try.prog 67 [.d (rdD l r)] [] 1 (.fn (.func 77) [] [.ref 0 0]) [(0, xR l r)] := by
  refine bor_of pg Try.func67 (by kernel_rfl) ?_
  conv => whnf
  refine ⟨[0], [0], ?_⟩
  conv => whnf
  (refine ⟨rfl, ?_⟩; conv => whnf)
  exact ⟨rfl, rfl⟩
abbrev bkO (x : Nat) : Ob := .ro 126 [.fn (.func 75) [] [.ref x 0]]
theorem yields_bor (l : List P3) (r : P3) : Bor tb Try.prog 66 [.d (rdD l r)] [] 5 (.fn (.func 76) [] [.ref 0 0, .ref 3 0, .ref 4 0]) [(0, xR l r), (1, .map 124 3 []), (2, .ro 121 [.own 1]), (3, lsO 2 0 3), (4, bkO 0)] := by
  refine bor_of pg Try.func66 (by kernel_rfl) ?_
  conv => whnf
  refine ⟨[0, 2, 3, 4], [0, 1, 2, 3, 4], ?_⟩
  conv => whnf
  (refine ⟨rfl, ?_⟩; conv => whnf); (refine ⟨rfl, ?_⟩; conv => whnf); (refine ⟨rfl, ?_⟩; conv => whnf); (refine ⟨rfl, ?_⟩; conv => whnf)
  exact ⟨rfl, rfl⟩
theorem ends1_iter {l : List P3} {r : P3} (h : VC l r) : Iter tb Try.prog 70 [.own 0, .ref 1 0] [xR l r] [emD (0, lowF l, highF l)] 1 [(1, xR l r)] := by
  refine iter_of pg Try.func70 (by kernel_rfl) ?_
  conv => whnf
  (refine ⟨[ptsD l, dI r.1, dI r.2.1, dI r.2.2], rfl, rfl, ?_⟩; conv => whnf)
  (refine .inl ⟨_, low_pure h.len r, ?_⟩; conv => whnf)
  (refine ⟨[ptsD l, dI r.1, dI r.2.1, dI r.2.2], rfl, rfl, ?_⟩; conv => whnf)
  (refine .inl ⟨_, high_pure h.len r, ?_⟩; conv => whnf)
  (refine ⟨tv (lowF l) (highF l), fill_tv .., ?_⟩; conv => whnf)
  (refine ⟨true, ⟨Nat.zero_le _, rfl, rfl⟩, ?_⟩; conv => whnf)
  refine ⟨[0, 1], ?_⟩
  conv => whnf
  (refine ⟨rfl, ?_⟩; conv => whnf)
  rfl
theorem ends3_iter {l : List P3} {r : P3} (h : VC l r) : Iter tb Try.prog 78 [.own 0, .ref 1 0] [xR l r] [emD (0, lowF l, highF l)] 1 [(1, xR l r)] := by
  refine iter_of pg Try.func78 (by kernel_rfl) ?_
  conv => whnf
  (refine ⟨[ptsD l, dI r.1, dI r.2.1, dI r.2.2], rfl, rfl, ?_⟩; conv => whnf)
  (refine .inl ⟨_, low_pure h.len r, ?_⟩; conv => whnf)
  (refine ⟨[ptsD l, dI r.1, dI r.2.1, dI r.2.2], rfl, rfl, ?_⟩; conv => whnf)
  (refine .inl ⟨_, high_pure h.len r, ?_⟩; conv => whnf)
  (refine ⟨tv (lowF l) (highF l), fill_tv .., ?_⟩; conv => whnf)
  (refine ⟨true, ⟨Nat.zero_le _, rfl, rfl⟩, ?_⟩; conv => whnf)
  refine ⟨[0, 1], ?_⟩
  conv => whnf
  (refine ⟨rfl, ?_⟩; conv => whnf)
  rfl
end Go.Ev.Ytdgjogeddogbdaa

set_option linter.unusedVariables false
set_option linter.unusedSimpArgs false
set_option maxRecDepth 100000
namespace Go.Ev.Ytdgjogeddogbdaa
open Go.Proofs
theorem yEm_step {l : List P3} {d : Int} {i n : Nat} (h : ¬ lstI l d i > highF l i) : yEm l d i (n + 1) = (if y2 l d i ≤ highF l i then [(i, bkF l d i (y2 l d i), bkF l d i (highF l i))] else []) ++ yEm l d (i + 1) n := by rw [yEm, if_neg h]
theorem yEm_end {l : List P3} {d : Int} {i n : Nat} (h : lstI l d i > highF l i) : yEm l d i (n + 1) = [] := by rw [yEm, if_pos h]
theorem yEm_zero {l : List P3} {d : Int} {i : Nat} : yEm l d i 0 = [] := rfl
theorem ySt_step {l : List P3} {d : Int} {i n : Nat} (h : ¬ lstI l d i > highF l i) : ySt l d i (n + 1) = ySt l d (i + 1) n := by rw [ySt, if_neg h]
theorem ySt_end {l : List P3} {d : Int} {i n : Nat} (h : lstI l d i > highF l i) : ySt l d i (n + 1) = i + 1 := by rw [ySt, if_pos h]
theorem ySt_zero {l : List P3} {d : Int} {i : Nat} : ySt l d i 0 = i := rfl
theorem highF_eq (l : List P3) (i : Nat) : highF l i = (pAt l i).2.2 := rfl
theorem lowF_eq (l : List P3) (i : Nat) : lowF l i = (pAt l i).2.1 := rfl
theorem y2_eq (l : List P3) (d : Int) (i : Nat) : y2 l d i = max (lstI l d i) (lowF l (i + 1) + d) := rfl
theorem drop_head {α : Type} {l r : List α} {e : Nat} {x : α} (h : l.drop e = x :: r) : l[e]? = some x ∧ e < l.length ∧ l.drop (e + 1) = r := by
  have h1 : (l.drop e)[0]? = some x := by rw [h]; rfl
  rw [List.getElem?_drop, Nat.add_zero] at h1
  refine ⟨h1, (List.getElem?_eq_some_iff.1 h1).1, ?_⟩
  rw [← List.drop_drop, h]; rfl
theorem drop_nil' {α : Type} {l : List α} {e : Nat} (h : l.drop e = []) (he : e ≤ l.length) : e = l.length := by
  have := List.drop_eq_nil_iff.1 h; omega
attribute [local irreducible] Pure Bor Iter inB ptB ruB okL goodB lineI ckC truB maxN fstN yvN mvN wkN metI tA pAt erC cF tv lsI resQ qs lstI knL bkN numQ bkF lowF highF yEm ySt y2
theorem yields_iter {l : List P3} {r : P3} (h : VC l r) : Iter tb Try.prog 76 [.own 0, .ref 1 0, .ref 4 0, .ref 5 0] [xR l r, .map 124 3 (knL l r.1 0 0), .ro 121 [.own 2], lsO 3 1 4, bkO 1] ((yEm l r.1 0 (l.length - 1)).map emD) ((yEm l r.1 0 (l.length - 1)).map emD).length
    [(1, xR l r), (2, .map 124 3 (knL l r.1 0 (ySt l r.1 0 (l.length - 1)))), (3, .ro 121 [.own 2]), (4, lsO 3 1 4), (5, bkO 1)] := by
  have hm : ((List.map ptD l).length : Int) = (l.length : Int) := by rw [List.length_map]
  have hlen := h.len
  have hpos := h.pos
  have hd := h.drop
  obtain ⟨els, hels⟩ : ∃ els, els = (yEm l r.1 0 (l.length - 1)).map emD := ⟨_, rfl⟩
  rw [← hels]
  have hmin : min (els.length + 1) els.length = els.length := by omega
  refine iter_of pg Try.func76 (by kernel_rfl) ?_
  rw [hmin]
  conv => whnf
  (refine ⟨_, rfl, ?_⟩; conv => whnf); (refine ⟨_, rfl, ?_⟩; conv => whnf)
  (refine ⟨l.length - 1, by rw [hm, wrapI (by omega) (by omega)]; omega, ?_⟩; conv => whnf)
  (refine ⟨Nat.zero_le _, by rw [List.length_map]; omega, by intro el he; obtain ⟨x, _, rfl⟩ := List.mem_map.1 he; rfl, ?_⟩; conv => whnf)
  obtain ⟨SL, hSL⟩ : ∃ SL, SL = List.drop 0 (List.take (l.length - 1) (List.map ptD l)) := ⟨_, rfl⟩
  have hSn : (SL.length : Int) = ((l.length - 1 : Nat) : Int) := by rw [hSL]; simp
  have hSa : ∀ i, i < l.length - 1 → SL[i]? = some (ptD (pAt l i)) := fun i hi => by
    rw [hSL, List.drop_zero, List.getElem?_take_of_lt hi]; exact getpa l i (by omega)
  rw [← hSL]
  refine ⟨[], [0, 1, 2, 3, 16, 17, 18], [0, 1, 2, 3, 4, 5], 6, fun m s => ∃ (i e : Nat), i + m = l.length - 1 ∧ e ≤ els.length ∧ els.drop e = (yEm l r.1 i (l.length - 1 - i)).map emD ∧ ySt l r.1 i (l.length - 1 - i) = ySt l r.1 0 (l.length - 1) ∧
    s = ⟨[(0, .own 0), (1, .ref 1 0), (2, .ref 4 0), (3, .ref 5 0), (16, .d (.seq SL)), (17, .d (dI (SL.length : Int))), (18, .d (dI (i : Int)))],
      [(0, .env e), (1, xR l r), (2, .map 124 3 (knL l r.1 0 i)), (3, .ro 121 [.own 2]), (4, lsO 3 1 4), (5, bkO 1)], 6⟩, ?_, ?_⟩
  · conv => whnf
    (refine ⟨rfl, ?_⟩; conv => whnf); (refine ⟨rfl, ?_⟩; conv => whnf); (refine ⟨rfl, ?_⟩; conv => whnf); (refine ⟨rfl, ?_⟩; conv => whnf)
    exact ⟨l.length - 1, 0, 0, by omega, Nat.zero_le _, by rw [List.drop_zero]; exact hels, rfl, rfl⟩
  · rintro m _ ⟨i, e, hi, he, hdr, hst, rfl⟩
    by_cases hlt : i < l.length - 1
    · have hc : decide ((i : Int) < (SL.length : Int)) = true := by rw [decide_eq_true_eq, hSn]; omega
      have cl := least_miss h (i := i) (by omega)
      conv => whnf
      (apply kT (hc); conv => whnf)
      (refine ⟨i, ptD (pAt l i), rfl, hSa i hlt, rfl, ?_⟩; conv => whnf)
      (refine ⟨_, rfl, ?_⟩; conv => whnf)
      (refine ⟨_, rfl, ?_⟩; conv => whnf)
      (refine .inr ⟨[1, 2, 3, 4], 4, _, _, cl, ?_⟩; conv => whnf)
      obtain ⟨n, hn⟩ : ∃ n, l.length - 1 - i = n + 1 := ⟨l.length - 1 - i - 1, by omega⟩
      have hn' : l.length - 1 - (i + 1) = n := by omega
      rw [hn] at hdr hst
      have bl := lstI_bd h i (by omega)
      have bh := highF_b h i (by omega)
      have bl1 := lowF_b h (i + 1) (by omega)
      by_cases h1 : lstI l r.1 i > highF l i
      · rw [yEm_end h1] at hdr
        rw [ySt_end h1] at hst
        have he' := drop_nil' hdr he
        (apply kT ((by rw [decide_eq_true_eq, ← highF_eq]; exact h1)); conv => whnf)
        refine ⟨[0, 1, 2, 3, 4, 5], ?_⟩
        conv => whnf
        (refine ⟨rfl, ?_⟩; conv => whnf); (refine ⟨rfl, ?_⟩; conv => whnf); (refine ⟨rfl, ?_⟩; conv => whnf); (refine ⟨rfl, ?_⟩; conv => whnf)
        rw [← hst, he']
      · rw [yEm_step h1] at hdr
        rw [ySt_step h1] at hst
        have wy : max (lstI l r.1 i) (IntKind.i64.wrap ((pAt l (i + 1)).2.1 + r.1)) = y2 l r.1 i := by
          rw [← lowF_eq, wrapI (by omega) (by omega), y2_eq]
        have cg := greatest_pure (lstI l r.1 i) (IntKind.i64.wrap ((pAt l (i + 1)).2.1 + r.1))
        rw [wy] at cg
        (apply kF ((by rw [decide_eq_false_iff_not, ← highF_eq]; exact h1)); conv => whnf)
        (refine ⟨_, rfl, ?_⟩; conv => whnf)
        (refine ⟨i + 1, ptD (pAt l (i + 1)), w1 i (by omega), getpa l (i + 1) (by omega), rfl, ?_⟩; conv => whnf)
        (refine ⟨_, rfl, ?_⟩; conv => whnf)
        (refine .inl ⟨_, cg, ?_⟩; conv => whnf)
        by_cases h2 : y2 l r.1 i ≤ highF l i
        · rw [if_pos h2] at hdr
          obtain ⟨g1, g2, g3⟩ := drop_head hdr
          have by2 : 0 ≤ y2 l r.1 i ∧ y2 l r.1 i ≤ 100000 := ⟨by rw [y2_eq]; omega, by omega⟩
          have c1 := back_bor h (a := i) (by omega) by2
          have c2 := back_bor h (a := i) (by omega) bh
          have h2' : decide (y2 l r.1 i ≤ (pAt l i).2.2) = true := by rw [decide_eq_true_eq, ← highF_eq]; exact h2
          rw [highF_eq] at c2
          (repeat' (first | (apply kT (by with_reducible first | rfl | assumption); conv => whnf) | (apply kF (by with_reducible first | rfl | assumption); conv => whnf) | (apply kT (by decide); conv => whnf) | (apply kF (by decide); conv => whnf) | (apply kB <;> intro _ <;> conv => whnf) | fail))
          rw [highF_eq] at g1
          (refine ⟨_, rfl, ?_⟩; conv => whnf)
          (repeat' (first | (apply kT (by with_reducible first | rfl | assumption); conv => whnf) | (apply kF (by with_reducible first | rfl | assumption); conv => whnf) | (apply kT (by decide); conv => whnf) | (apply kF (by decide); conv => whnf) | (apply kB <;> intro _ <;> conv => whnf) | (refine .inr ⟨[1], 1, _, _, c1, ?_⟩; conv => whnf) | fail))
          (refine ⟨_, rfl, ?_⟩; conv => whnf)
          (repeat' (first | (apply kT (by with_reducible first | rfl | assumption); conv => whnf) | (apply kF (by with_reducible first | rfl | assumption); conv => whnf) | (apply kT (by decide); conv => whnf) | (apply kF (by decide); conv => whnf) | (apply kB <;> intro _ <;> conv => whnf) | (refine .inr ⟨[1], 1, _, _, c2, ?_⟩; conv => whnf) | fail))
          (refine ⟨tv (bkF l r.1 i (y2 l r.1 i)) (bkF l r.1 i (pAt l i).2.2), fill_tv .., ?_⟩; conv => whnf)
          (repeat' (first | (apply kT (by with_reducible first | rfl | assumption); conv => whnf) | (apply kF (by with_reducible first | rfl | assumption); conv => whnf) | (apply kT (by decide); conv => whnf) | (apply kF (by decide); conv => whnf) | (apply kB <;> intro _ <;> conv => whnf) | fail))
          (refine ⟨true, ⟨he, g1, (decide_eq_true g2).symm⟩, ?_⟩; conv => whnf)
          (repeat' (first | (apply kT (by with_reducible first | rfl | assumption); conv => whnf) | (apply kF (by with_reducible first | rfl | assumption); conv => whnf) | (apply kT (by decide); conv => whnf) | (apply kF (by decide); conv => whnf) | (apply kB <;> intro _ <;> conv => whnf) | fail))
          (refine ⟨rfl, ?_⟩; conv => whnf); (refine ⟨rfl, ?_⟩; conv => whnf); (refine ⟨rfl, ?_⟩; conv => whnf); (refine ⟨rfl, ?_⟩; conv => whnf)
          exact ⟨m - 1, by omega, i + 1, e + 1, by omega, g2, by rw [hn']; exact g3, by rw [hn']; exact hst, by rw [w1 i (by omega)]⟩
        · rw [if_neg h2, List.nil_append] at hdr
          have h2' : decide (y2 l r.1 i ≤ (pAt l i).2.2) = false := by rw [decide_eq_false_iff_not, ← highF_eq]; exact h2
          (repeat' (first | (apply kT (by with_reducible first | rfl | assumption); conv => whnf) | (apply kF (by with_reducible first | rfl | assumption); conv => whnf) | (apply kT (by decide); conv => whnf) | (apply kF (by decide); conv => whnf) | (apply kB <;> intro _ <;> conv => whnf) | fail))
          (refine ⟨rfl, ?_⟩; conv => whnf); (refine ⟨rfl, ?_⟩; conv => whnf); (refine ⟨rfl, ?_⟩; conv => whnf); (refine ⟨rfl, ?_⟩; conv => whnf)
          exact ⟨m - 1, by omega, i + 1, e, by omega, he, by rw [hn']; exact hdr, by rw [hn']; exact hst, by rw [w1 i (by omega)]⟩
    · have hc : decide ((i : Int) < (SL.length : Int)) = false := by rw [decide_eq_false_iff_not, hSn]; omega
      have h0 : l.length - 1 - i = 0 := by omega
      rw [h0] at hdr hst
      rw [yEm_zero] at hdr
      rw [ySt_zero] at hst
      have he' := drop_nil' hdr he
      conv => whnf
      (apply kF (hc); conv => whnf)
      refine ⟨[0, 1, 2, 3, 4, 5], ?_⟩
      conv => whnf
      (refine ⟨rfl, ?_⟩; conv => whnf); (refine ⟨rfl, ?_⟩; conv => whnf); (refine ⟨rfl, ?_⟩; conv => whnf); (refine ⟨rfl, ?_⟩; conv => whnf)
      rw [← hst, he']
end Go.Ev.Ytdgjogeddogbdaa

set_option linter.unusedVariables false
set_option linter.unusedSimpArgs false
set_option maxRecDepth 100000
namespace Go.Ev.Ytdgjogeddogbdaa
open Go.Proofs
theorem mEm_step {l : List P3} {r : P3} {i n : Nat} : mEm l r i (n + 1) = (if lowF l i ≤ lineI l r i then [mEm1 l r i] else []) ++ (if highF l i ≤ lineI l r i then [] else mEm l r (i + 1) n) := rfl
theorem mEm_zero {l : List P3} {r : P3} {i : Nat} : mEm l r i 0 = [] := rfl
theorem mEm1_eq (l : List P3) (r : P3) (i : Nat) : mEm1 l r i = (i, (if i = 0 then upd (highF l) i (lowF l i) else upd (upd (highF l) i (lowF l i)) (i - 1) (max (lowF l (i - 1)) (lineI l r (i - 1) + 1))), upd (highF l) i (min (highF l i) (lineI l r i))) := rfl
attribute [local irreducible] Pure Bor Iter inB ptB ruB okL goodB lineI ckC truB maxN fstN yvN mvN wkN metI tA pAt erC cF tv lsI resQ qs lstI knL bkN numQ bkF lowF highF mEm mEm1
theorem meetings_iter {l : List P3} {r : P3} (h : VC l r) : Iter tb Try.prog 77 [.own 0, .ref 1 0] [xR l r] ((mEm l r 0 l.length).map emD) ((mEm l r 0 l.length).map emD).length [(1, xR l r)] := by
  have hm : ((List.map ptD l).length : Int) = (l.length : Int) := by rw [List.length_map]
  have hlen := h.len
  obtain ⟨els, hels⟩ : ∃ els, els = (mEm l r 0 l.length).map emD := ⟨_, rfl⟩
  rw [← hels]
  have hmin : min (els.length + 1) els.length = els.length := by omega
  refine iter_of pg Try.func77 (by kernel_rfl) ?_
  rw [hmin]
  conv => whnf
  (refine ⟨_, rfl, ?_⟩; conv => whnf)
  refine ⟨[], [0, 1, 8, 9, 10], [0, 1], 2, fun m s => ∃ (i e : Nat), i + m = l.length ∧ e ≤ els.length ∧ els.drop e = (mEm l r i (l.length - i)).map emD ∧
    s = ⟨[(0, .own 0), (1, .ref 1 0), (8, .d (ptsD l)), (9, .d (dI ((l.map ptD).length : Int))), (10, .d (dI (i : Int)))], [(0, .env e), (1, xR l r)], 2⟩, ?_, ?_⟩
  · conv => whnf
    (refine ⟨rfl, ?_⟩; conv => whnf)
    exact ⟨l.length, 0, 0, by omega, Nat.zero_le _, by rw [List.drop_zero]; exact hels, rfl⟩
  · rintro m _ ⟨i, e, hi, he, hdr, rfl⟩
    by_cases hlt : i < l.length
    · have hc : decide ((i : Int) < ((List.map ptD l).length : Int)) = true := by rw [decide_eq_true_eq, hm]; omega
      obtain ⟨n, hn⟩ : ∃ n, l.length - i = n + 1 := ⟨l.length - i - 1, by omega⟩
      have hn' : l.length - (i + 1) = n := by omega
      rw [hn, mEm_step] at hdr
      have cl := line_pure h i hlt
      conv => whnf
      (apply kT (hc); conv => whnf)
      (refine ⟨i, ptD (pAt l i), rfl, getpa l i hlt, rfl, ?_⟩; conv => whnf)
      (refine ⟨[ptsD l, dI r.1, dI r.2.1, dI r.2.2], rfl, rfl, ?_⟩; conv => whnf)
      (refine .inl ⟨_, cl, ?_⟩; conv => whnf)
      by_cases h1 : lowF l i ≤ lineI l r i
      · rw [if_pos h1] at hdr
        obtain ⟨g1, g2, g3⟩ := drop_head hdr
        (apply kT ((by rw [decide_eq_true_eq, ← lowF_eq]; exact h1)); conv => whnf)
        (refine ⟨[ptsD l, dI r.1, dI r.2.1, dI r.2.2], rfl, rfl, ?_⟩; conv => whnf)
        (refine .inl ⟨_, high_pure hlen r, ?_⟩; conv => whnf)
        (refine ⟨[ptsD l, dI r.1, dI r.2.1, dI r.2.2], rfl, rfl, ?_⟩; conv => whnf)
        (refine .inl ⟨_, high_pure hlen r, ?_⟩; conv => whnf)
        (refine ⟨tv (highF l) (highF l), fill_tv .., ?_⟩; conv => whnf)
        (refine ⟨(tv (highF l) (highF l)).map A.d, rfl, tv_lenA, by simp only [tv_lenA]; decide, tv_one, ?_⟩; conv => whnf)
        (refine ⟨[ptsD l, dI r.1, dI r.2.1, dI r.2.2], rfl, rfl, ?_⟩; conv => whnf)
        (refine .inl ⟨_, cl, ?_⟩; conv => whnf)
        (refine ⟨i, rfl, by omega, ?_⟩; conv => whnf)
        (refine ⟨Nat.lt_of_lt_of_eq (m := 40) (by dsimp only; omega) zput_len.symm, ?_⟩; conv => whnf)
        (refine ⟨i, rfl, by omega, ?_⟩; conv => whnf)
        (refine ⟨Nat.lt_of_lt_of_eq (m := 40) (by dsimp only; omega) (by rw [List.length_set]; exact zput_len.symm), ?_⟩; conv => whnf)
        have e1 : ((putAt zs40 0 ((tv (highF l) (highF l)).map A.d)).set (0 + 0 + i * 1) (.d (dI (pAt l i).2.1))).set (0 + 20 + i * 1) (.d (dI (min (pAt l i).2.2 (lineI l r i)))) = (tv (upd (highF l) i (lowF l i)) (upd (highF l) i (min (highF l i) (lineI l r i)))).map A.d := by
          have q1 : 0 + 0 + i * 1 = i := by omega
          have q2 : 0 + 20 + i * 1 = 20 + i := by omega
          have q3 : i < 20 := by omega
          rw [zput40, q1, q2, tv_setL q3, tv_setR, ← lowF_eq, ← highF_eq]
        have hend : ∀ b : Bool, decide ((pAt l i).2.2 ≤ lineI l r i) = b → els.drop (e + 1) = (if b = true then [] else (mEm l r (i + 1) n).map emD) := fun b hb => by
          rw [g3, ← hb]
          by_cases hh : highF l i ≤ lineI l r i
          · rw [if_pos hh, if_pos (by rw [decide_eq_true_eq, ← highF_eq]; exact hh)]; rfl
          · rw [if_neg hh, if_neg (by rw [decide_eq_true_eq, ← highF_eq]; exact hh)]; rfl
        rcases Nat.eq_zero_or_pos i with h0 | h0
        · have hz : decide ((i : Int) > 0) = false := by rw [decide_eq_false_iff_not]; omega
          (apply kF (hz); conv => whnf)
          (refine ⟨tv (upd (highF l) i (lowF l i)) (upd (highF l) i (min (highF l i) (lineI l r i))), (congrArg (fun z : List A => (z.drop 0).take 40) e1).trans tv_all, tv_len, ?_⟩; conv => whnf)
          rw [mEm1_eq, if_pos h0] at g1
          (refine ⟨true, ⟨he, g1, (decide_eq_true g2).symm⟩, ?_⟩; conv => whnf)
          (apply kF (rfl); conv => whnf)
          (refine ⟨[ptsD l, dI r.1, dI r.2.1, dI r.2.2], rfl, rfl, ?_⟩; conv => whnf)
          (refine .inl ⟨_, cl, ?_⟩; conv => whnf)
          (apply kB <;> intro hh <;> conv => whnf)
          · have he' := drop_nil' (hend _ hh) g2
            refine ⟨[0, 1], ?_⟩
            conv => whnf
            (refine ⟨rfl, ?_⟩; conv => whnf)
            rw [he']
          · have hd' := hend _ hh
            (refine ⟨rfl, ?_⟩; conv => whnf)
            exact ⟨m - 1, by omega, i + 1, e + 1, by omega, g2, by rw [hn']; exact hd', by rw [w1 i (by omega)]⟩
        · have hz : decide ((i : Int) > 0) = true := by rw [decide_eq_true_eq]; omega
          have w : IntKind.i64.wrap ((i : Int) - 1) = ((i - 1 : Nat) : Int) := by rw [wrapI (by omega) (by omega)]; omega
          have c2 := line_pure h (i - 1) (by omega)
          have lb := lineI_bd h (i := i - 1) (by omega)
          have wl : IntKind.i64.wrap (lineI l r (i - 1) + 1) = lineI l r (i - 1) + 1 := wrapI (by omega) (by omega)
          have cg := greatest_pure ((pAt l (i - 1)).2.1) (IntKind.i64.wrap (lineI l r (i - 1) + 1))
          rw [wl] at cg
          rw [← wl] at cg
          have e2 : ((((putAt zs40 0 ((tv (highF l) (highF l)).map A.d)).set (0 + 0 + i * 1) (.d (dI (pAt l i).2.1))).set (0 + 20 + i * 1) (.d (dI (min (pAt l i).2.2 (lineI l r i))))).set (0 + 0 + (i - 1) * 1) (.d (dI (max (pAt l (i - 1)).2.1 (IntKind.i64.wrap (lineI l r (i - 1) + 1)))))) = (tv (upd (upd (highF l) i (lowF l i)) (i - 1) (max (lowF l (i - 1)) (lineI l r (i - 1) + 1))) (upd (highF l) i (min (highF l i) (lineI l r i)))).map A.d := by
            have q1 : 0 + 0 + (i - 1) * 1 = i - 1 := by omega
            have q3 : i - 1 < 20 := by omega
            rw [e1, q1, tv_setL q3, wl, ← lowF_eq]
          (apply kT (hz); conv => whnf)
          (refine ⟨_, rfl, ?_⟩; conv => whnf)
          (refine ⟨i - 1, ptD (pAt l (i - 1)), w, getpa l (i - 1) (by omega), rfl, ?_⟩; conv => whnf)
          (refine ⟨[ptsD l, dI r.1, dI r.2.1, dI r.2.2], rfl, rfl, ?_⟩; conv => whnf)
          rw [← w] at c2
          (refine .inl ⟨_, c2, ?_⟩; conv => whnf)
          (refine .inl ⟨_, cg, ?_⟩; conv => whnf)
          (refine ⟨i - 1, w, by omega, ?_⟩; conv => whnf)
          (refine ⟨Nat.lt_of_lt_of_eq (m := 40) (by dsimp only; omega) (by rw [List.length_set, List.length_set]; exact zput_len.symm), ?_⟩; conv => whnf)
          (refine ⟨tv (upd (upd (highF l) i (lowF l i)) (i - 1) (max (lowF l (i - 1)) (lineI l r (i - 1) + 1))) (upd (highF l) i (min (highF l i) (lineI l r i))), (congrArg (fun z : List A => (z.drop 0).take 40) e2).trans tv_all, tv_len, ?_⟩; conv => whnf)
          rw [mEm1_eq, if_neg (by omega)] at g1
          (refine ⟨true, ⟨he, g1, (decide_eq_true g2).symm⟩, ?_⟩; conv => whnf)
          (apply kF (rfl); conv => whnf)
          (refine ⟨[ptsD l, dI r.1, dI r.2.1, dI r.2.2], rfl, rfl, ?_⟩; conv => whnf)
          (refine .inl ⟨_, cl, ?_⟩; conv => whnf)
          (apply kB <;> intro hh <;> conv => whnf)
          · have he' := drop_nil' (hend _ hh) g2
            refine ⟨[0, 1], ?_⟩
            conv => whnf
            (refine ⟨rfl, ?_⟩; conv => whnf)
            rw [he']
          · have hd' := hend _ hh
            (refine ⟨rfl, ?_⟩; conv => whnf)
            exact ⟨m - 1, by omega, i + 1, e + 1, by omega, g2, by rw [hn']; exact hd', by rw [w1 i (by omega)]⟩
      · rw [if_neg h1, List.nil_append] at hdr
        (apply kF ((by rw [decide_eq_false_iff_not, ← lowF_eq]; exact h1)); conv => whnf)
        have hend : ∀ b : Bool, decide ((pAt l i).2.2 ≤ lineI l r i) = b → els.drop e = (if b = true then [] else (mEm l r (i + 1) n).map emD) := fun b hb => by
          rw [hdr, ← hb]
          by_cases hh : highF l i ≤ lineI l r i
          · rw [if_pos hh, if_pos (by rw [decide_eq_true_eq, ← highF_eq]; exact hh)]; rfl
          · rw [if_neg hh, if_neg (by rw [decide_eq_true_eq, ← highF_eq]; exact hh)]
        (refine ⟨[ptsD l, dI r.1, dI r.2.1, dI r.2.2], rfl, rfl, ?_⟩; conv => whnf)
        (refine .inl ⟨_, cl, ?_⟩; conv => whnf)
        (apply kB <;> intro hh <;> conv => whnf)
        · have he' := drop_nil' (hend _ hh) he
          refine ⟨[0, 1], ?_⟩
          conv => whnf
          (refine ⟨rfl, ?_⟩; conv => whnf)
          rw [he']
        · have hd' := hend _ hh
          (refine ⟨rfl, ?_⟩; conv => whnf)
          exact ⟨m - 1, by omega, i + 1, e, by omega, he, by rw [hn']; exact hd', by rw [w1 i (by omega)]⟩
    · have hc : decide ((i : Int) < ((List.map ptD l).length : Int)) = false := by rw [decide_eq_false_iff_not, hm]; omega
      have h0 : l.length - i = 0 := by omega
      rw [h0, mEm_zero] at hdr
      have he' := drop_nil' hdr he
      conv => whnf
      (apply kF (hc); conv => whnf)
      refine ⟨[0, 1], ?_⟩
      conv => whnf
      (refine ⟨rfl, ?_⟩; conv => whnf)
      rw [he']
end Go.Ev.Ytdgjogeddogbdaa

set_option linter.unusedVariables false
set_option linter.unusedSimpArgs false
namespace Go.Ev.Ytdgjogeddogbdaa
open Go.Proofs
def EB (l : List P3) (e : Em) : Prop := FB l.length e.2.1 ∧ FB l.length e.2.2
theorem yEm_b {l : List P3} {r : P3} (h : VC l r) : ∀ n i, i + n = l.length - 1 → ∀ e ∈ yEm l r.1 i n, EB l e
  | 0, i, _, e, he => by rw [yEm] at he; cases he
  | n + 1, i, hi, e, he => by
    have h1 := lstI_bd h i (by omega)
    have h2 := highF_b h i (by omega)
    have h3 := lowF_b h (i + 1) (by omega)
    have h4 := h.drop
    rw [yEm] at he
    split at he
    · cases he
    · rcases List.mem_append.1 he with he | he
      · split at he
        · rename_i hy
          simp only [List.mem_singleton] at he
          subst he
          have by2 : 0 ≤ y2 l r.1 i ∧ y2 l r.1 i ≤ 100000 := ⟨by unfold y2; omega, by omega⟩
          exact ⟨bkN_b h (by omega) by2 i (Nat.le_refl _), bkN_b h (by omega) h2 i (Nat.le_refl _)⟩
        · cases he
      · exact yEm_b h n (i + 1) (by omega) e he
theorem mEm_b {l : List P3} {r : P3} (h : VC l r) : ∀ n i, i + n = l.length → (∀ j, j + 1 = i → lineI l r j < highF l j) → ∀ e ∈ mEm l r i n, EB l e
  | 0, i, _, _, e, he => by rw [mEm] at he; cases he
  | n + 1, i, hi, hj, e, he => by
    have h2 := highF_b h i (by omega)
    have h3 := lowF_b h i (by omega)
    rw [mEm] at he
    rcases List.mem_append.1 he with he | he
    · split at he
      · rename_i hy
        simp only [List.mem_singleton] at he
        subst he
        refine ⟨?_, ?_⟩
        · unfold mEm1
          dsimp only
          split
          · exact upd_b (highF_b h) h3
          · rename_i h0
            have h5 := hj (i - 1) (by omega)
            have h6 := highF_b h (i - 1) (by omega)
            have h7 := lowF_b h (i - 1) (by omega)
            exact upd_b (upd_b (highF_b h) h3) (by omega)
        · exact upd_b (highF_b h) (by omega)
      · cases he
    · split at he
      · cases he
      · rename_i hh
        exact mEm_b h n (i + 1) (by omega) (fun j hj' => by have : j = i := by omega
                                                            subst this; omega) e he
theorem emK_b {l : List P3} {r : P3} (h : VC l r) (kind : Nat) : ∀ e ∈ emK kind l r, EB l e := by
  intro e he
  unfold emK at he
  split at he
  · exact yEm_b h _ 0 (by omega) e he
  · exact mEm_b h _ 0 (by omega) (fun j hj => by omega) e he
  · simp only [List.mem_singleton] at he
    subst he
    exact ⟨lowF_b h, highF_b h⟩
theorem endsN_succ {kind : Nat} {l : List P3} {r : P3} {es : List Em} {k : Nat} {e : Em} (he : es[k]? = some e) : endsN kind l r es (k + 1) = stE kind l r (decide (0 < k)) (endsN kind l r es k) e := by rw [endsN, he]
theorem endsN_b {l : List P3} {kind : Nat} {r : P3} {es : List Em} (hB : ∀ e ∈ es, EB l e) : ∀ k, FB l.length (endsN kind l r es k).1 ∧ FB l.length (endsN kind l r es k).2
  | 0 => ⟨fun i _ => by unfold endsN; dsimp only; omega, fun i _ => by unfold endsN; dsimp only; omega⟩
  | k + 1 => by
    have ih := endsN_b (kind := kind) (r := r) hB k
    cases he : es[k]? with
    | none => rw [endsN, he]; exact ih
    | some e =>
      rw [endsN_succ he]
      have hb := hB e (List.mem_of_getElem? he)
      unfold stE
      constructor
      · dsimp only; split
        · exact hb.1
        · exact ih.1
      · dsimp only; split
        · exact hb.2
        · exact ih.2
end Go.Ev.Ytdgjogeddogbdaa

set_option linter.unusedVariables false
set_option linter.unusedSimpArgs false
set_option maxRecDepth 100000
namespace Go.Ev.Ytdgjogeddogbdaa
open Go.Proofs
theorem zs40_only {os : List Nat} : A.onlyL os zs40 = true := onlyE rep40
abbrev obE (kind : Nat) (l : List P3) (r : P3) (i : Nat) (cs : List A) : List (Nat × Ob) := [(0, xO l r), (1, kO kind), (2, .var true 97 cs), (3, .var false 4 [.d (dB (decide (0 < i)))]), (108, .var false 118 [.fn (.func 69) [] [.ref 1 0, .ref 0 0]])]
theorem knL_zero (l : List P3) (d : Int) (a : Nat) : knL l d a 0 = [] := rfl
theorem emK_zero (l : List P3) (r : P3) : emK 0 l r = [(0, lowF l, highF l)] := rfl
theorem emK_one (l : List P3) (r : P3) : emK 1 l r = yEm l r.1 0 (l.length - 1) := rfl
theorem emK_two (l : List P3) (r : P3) : emK 2 l r = mEm l r 0 l.length := rfl
theorem emK_three (l : List P3) (r : P3) : emK 3 l r = [(0, lowF l, highF l)] := rfl
theorem endsN_zero (kind : Nat) (l : List P3) (r : P3) (es : List Em) : endsN kind l r es 0 = (fun _ => 0, fun _ => 0) := rfl
attribute [local irreducible] Pure Bor Iter inB ptB ruB okL goodB lineI ckC truB maxN fstN yvN mvN wkN metI tA pAt erC cF tv lsI resQ qs lstI knL bkN numQ bkF lowF highF mEm mEm1 yEm emK endsN
set_option maxHeartbeats 2000000 in
theorem ends_pure {l : List P3} {r : P3} (h : VC l r) {kind : Nat} (hk : kind < 4) : Pure Try.prog 58 [rdD l r, dU kind] (.tup [.agg (tv (endsF kind l r).1 (endsF kind l r).2), dB (decide (0 < (emK kind l r).length))]) := by
  have i0 : Iter tb Try.prog 70 [.own 0, .ref 1 0] [xR l r] ((emK 0 l r).map emD) ((emK 0 l r).map emD).length [(1, xR l r)] := by rw [emK_zero]; exact ends1_iter h
  have i3 : Iter tb Try.prog 78 [.own 0, .ref 1 0] [xR l r] ((emK 3 l r).map emD) ((emK 3 l r).map emD).length [(1, xR l r)] := by rw [emK_three]; exact ends3_iter h
  have i1 := yields_iter h
  have i2 := meetings_iter h
  rw [knL_zero, ← emK_one] at i1
  rw [← emK_two] at i2
  obtain ⟨es, hes⟩ : ∃ es, es = emK kind l r := ⟨_, rfl⟩
  have hB : ∀ e ∈ es, EB l e := by rw [hes]; exact emK_b h kind
  have hlen : (es.map emD).length = es.length := List.length_map ..
  obtain ⟨J, hJ⟩ : ∃ J : Nat → List (Nat × Ob) → Nat → Prop, J = fun i ob n => n = 110 ∧ ∃ cs, cs = (tv (endsN kind l r es i).1 (endsN kind l r es i).2).map A.d ∧ ob = obE kind l r i cs := ⟨_, rfl⟩
  have hend : endsF kind l r = endsN kind l r es es.length := by rw [hes]; rfl
  rw [hend, ← hes]
  refine pure_of pg Try.func58 (by kernel_rfl) ?_
  conv => whnf
  (refine .inr ⟨[], 1, _, _, strengths_bor l r, ?_⟩; conv => whnf)
  (refine .inr ⟨[], 5, _, _, yields_bor l r, ?_⟩; conv => whnf)
  (refine .inr ⟨[], 1, _, _, meetings_bor l r, ?_⟩; conv => whnf)
  (refine .inr ⟨[], 1, _, _, works_bor l r, ?_⟩; conv => whnf)
  have hkk : kind = 0 ∨ kind = 1 ∨ kind = 2 ∨ kind = 3 := by omega
  rcases hkk with rfl | rfl | rfl | rfl
  · rw [← hes] at i0
    (refine ⟨0, _, rfl, rfl, rfl, ?_⟩; conv => whnf)
    refine ⟨[12], [2, 3, 4, 5, 7], [0, 1, 2, 3, 108], _, _, _, J, i0, ?_⟩
    conv => whnf
    (refine ⟨zs40_only, ?_⟩; conv => whnf)
    subst hJ
    refine ⟨⟨rfl, _, by rw [endsN_zero]; exact rep40, rfl⟩, ?_, ?_⟩
    · rintro i ds ob1 n1 hi hit ⟨rfl, cs, rfl, rfl⟩
      rw [List.getElem?_map] at hi
      obtain ⟨⟨p, f, g⟩, he, rfl⟩ := Option.map_eq_some_iff.1 hi
      have hilt : i < (es.map emD).length := by rw [hlen]; exact (List.getElem?_eq_some_iff.1 he).1
      obtain ⟨hf1, hf2⟩ := hB _ (List.mem_of_getElem? he)
      have o1 := of_bor h hk hf1
      have o2 := of_bor h hk hf2
      have ld1 : ((putAt zs40 0 ((tv f g).map A.d)).drop 0).take 20 = (cF 20 f).map A.d := by rw [zput40]; exact tv_fst
      have ld2 : ((putAt zs40 0 ((tv f g).map A.d)).drop 20).take 20 = (cF 20 g).map A.d := by rw [zput40]; exact tv_snd
      obtain ⟨ha1, ha2⟩ := endsN_b (kind := _) (r := r) hB i
      have o3 := of_bor h hk ha1
      have o4 := of_bor h hk ha2
      have eN := endsN_succ (kind := 0) (l := l) (r := r) he
      generalize endsN 0 l r es i = ab at *
      obtain ⟨a, b⟩ := ab
      dsimp only at o1 o2 o3 o4
      refine ⟨rfl, ?_⟩
      have fin : ∀ (f' g' : Nat → Int) (cs : List A), endsN 0 l r es (i + 1) = (f', g') → cs = (tv f' g').map A.d → i < (es.map emD).length ∧ (110 = 110 ∧ ∃ cs', cs' = (tv (endsN 0 l r es (i + 1)).1 (endsN 0 l r es (i + 1)).2).map A.d ∧ obE 0 l r (i + 1) cs = obE 0 l r (i + 1) cs') := fun f' g' cs h1 h2 => ⟨hilt, rfl, cs, by rw [h1]; exact h2, rfl⟩
      have lenP : (putAt ((tv a b).map A.d) 0 ((cF 20 f).map A.d)).length = 40 := by rw [tv_putL]; exact tv_lenA
      have ld3 : ((putAt ((tv a b).map A.d) 0 ((cF 20 f).map A.d)).drop 20).take 20 = (cF 20 b).map A.d := by rw [tv_putL]; exact tv_snd
      rcases Nat.eq_zero_or_pos i with h0 | h0
      · have hz : (!decide (0 < i)) = true := by subst h0; rfl
        have e1 : endsN 0 l r es (i + 1) = (f, g) := by rw [eN]; unfold stE; rw [decide_eq_false (by omega), if_pos (.inl rfl), if_pos (.inl rfl)]
        have e2 : putAt (putAt ((tv a b).map A.d) 0 ((cF 20 f).map A.d)) 20 ((cF 20 g).map A.d) = (tv f g).map A.d := by rw [tv_putL, tv_putR]
        conv => whnf
        (refine ⟨(tv f g).map A.d, rfl, tv_lenA, by simp only [tv_lenA]; decide, tv_one, ?_⟩; conv => whnf)
        (repeat' (first | (apply kT (by with_reducible first | rfl | assumption); conv => whnf) | (apply kF (by with_reducible first | rfl | assumption); conv => whnf) | (apply kT (by decide); conv => whnf) | (apply kF (by decide); conv => whnf) | (apply kB <;> intro _ <;> conv => whnf) | fail))
        (refine ⟨cF 20 f, ld1, cF_len, ?_⟩; conv => whnf)
        (refine ⟨(cF 20 f).map A.d, rfl, cF_lenA, by simp only [cF_lenA, tv_lenA]; decide, cF_one, ?_⟩; conv => whnf)
        (repeat' (first | (apply kT (by with_reducible first | rfl | assumption); conv => whnf) | (apply kF (by with_reducible first | rfl | assumption); conv => whnf) | (apply kT (by decide); conv => whnf) | (apply kF (by decide); conv => whnf) | (apply kB <;> intro _ <;> conv => whnf) | fail))
        (refine ⟨cF 20 g, ld2, cF_len, ?_⟩; conv => whnf)
        (refine ⟨(cF 20 g).map A.d, rfl, cF_lenA, by rw [cF_lenA]; exact Nat.le_of_eq lenP.symm, cF_one, ?_⟩; conv => whnf)
        refine ⟨[0, 1, 2, 3, 108], 110, rfl, ?_⟩
        conv => whnf
        refine ⟨onlyE e2, ?_⟩
        conv => whnf
        exact fin f g _ e1 e2
      · have hz : (!decide (0 < i)) = false := by rw [decide_eq_true h0]; rfl
        have q0 : ¬ (decide (0 < i) = false) := by rw [decide_eq_true h0]; exact fun h => nomatch h
        by_cases c1 : numQ 0 l r f < numQ 0 l r a <;> by_cases c2 : numQ 0 l r g > numQ 0 l r b
        · have c1' := decide_eq_true c1
          have c2' := decide_eq_true c2
          have e1 : endsN 0 l r es (i + 1) = (f, g) := by rw [eN]; unfold stE; rw [if_pos (.inr c1), if_pos (.inr c2)]
          have e2 : putAt (putAt ((tv a b).map A.d) 0 ((cF 20 f).map A.d)) 20 ((cF 20 g).map A.d) = (tv f g).map A.d := by rw [tv_putL, tv_putR]
          conv => whnf
          (refine ⟨(tv f g).map A.d, rfl, tv_lenA, by simp only [tv_lenA]; decide, tv_one, ?_⟩; conv => whnf)
          (repeat' (first | (apply kT (by with_reducible first | rfl | assumption); conv => whnf) | (apply kF (by with_reducible first | rfl | assumption); conv => whnf) | (apply kT (by decide); conv => whnf) | (apply kF (by decide); conv => whnf) | (apply kB <;> intro _ <;> conv => whnf) | fail))
          (refine ⟨cF 20 f, ld1, cF_len, ?_⟩; conv => whnf)
          (repeat' (first | (apply kT (by with_reducible first | rfl | assumption); conv => whnf) | (apply kF (by with_reducible first | rfl | assumption); conv => whnf) | (apply kT (by decide); conv => whnf) | (apply kF (by decide); conv => whnf) | (apply kB <;> intro _ <;> conv => whnf) | (refine .inr ⟨[1, 0], 2, _, _, o1, ?_⟩; conv => whnf) | fail))
          (refine ⟨cF 20 a, tv_fst, cF_len, ?_⟩; conv => whnf)
          (repeat' (first | (apply kT (by with_reducible first | rfl | assumption); conv => whnf) | (apply kF (by with_reducible first | rfl | assumption); conv => whnf) | (apply kT (by decide); conv => whnf) | (apply kF (by decide); conv => whnf) | (apply kB <;> intro _ <;> conv => whnf) | (refine .inr ⟨[1, 0], 2, _, _, o3, ?_⟩; conv => whnf) | fail))
          (refine ⟨cF 20 f, ld1, cF_len, ?_⟩; conv => whnf)
          (refine ⟨(cF 20 f).map A.d, rfl, cF_lenA, by simp only [cF_lenA, tv_lenA]; decide, cF_one, ?_⟩; conv => whnf)
          (repeat' (first | (apply kT (by with_reducible first | rfl | assumption); conv => whnf) | (apply kF (by with_reducible first | rfl | assumption); conv => whnf) | (apply kT (by decide); conv => whnf) | (apply kF (by decide); conv => whnf) | (apply kB <;> intro _ <;> conv => whnf) | fail))
          (refine ⟨cF 20 g, ld2, cF_len, ?_⟩; conv => whnf)
          (repeat' (first | (apply kT (by with_reducible first | rfl | assumption); conv => whnf) | (apply kF (by with_reducible first | rfl | assumption); conv => whnf) | (apply kT (by decide); conv => whnf) | (apply kF (by decide); conv => whnf) | (apply kB <;> intro _ <;> conv => whnf) | (refine .inr ⟨[1, 0], 2, _, _, o2, ?_⟩; conv => whnf) | fail))
          (refine ⟨cF 20 b, ld3, cF_len, ?_⟩; conv => whnf)
          (repeat' (first | (apply kT (by with_reducible first | rfl | assumption); conv => whnf) | (apply kF (by with_reducible first | rfl | assumption); conv => whnf) | (apply kT (by decide); conv => whnf) | (apply kF (by decide); conv => whnf) | (apply kB <;> intro _ <;> conv => whnf) | (refine .inr ⟨[1, 0], 2, _, _, o4, ?_⟩; conv => whnf) | fail))
          (refine ⟨cF 20 g, ld2, cF_len, ?_⟩; conv => whnf)
          (refine ⟨(cF 20 g).map A.d, rfl, cF_lenA, by rw [cF_lenA]; exact Nat.le_of_eq lenP.symm, cF_one, ?_⟩; conv => whnf)
          refine ⟨[0, 1, 2, 3, 108], 110, rfl, ?_⟩
          conv => whnf
          refine ⟨onlyE e2, ?_⟩
          conv => whnf
          exact fin f g _ e1 e2
        · have c1' := decide_eq_true c1
          have c2' := decide_eq_false c2
          have e1 : endsN 0 l r es (i + 1) = (f, b) := by rw [eN]; unfold stE; rw [if_pos (.inr c1), if_neg (fun hx => hx.elim q0 c2)]
          have e2 : putAt ((tv a b).map A.d) 0 ((cF 20 f).map A.d) = (tv f b).map A.d := tv_putL
          conv => whnf
          (refine ⟨(tv f g).map A.d, rfl, tv_lenA, by simp only [tv_lenA]; decide, tv_one, ?_⟩; conv => whnf)
          (repeat' (first | (apply kT (by with_reducible first | rfl | assumption); conv => whnf) | (apply kF (by with_reducible first | rfl | assumption); conv => whnf) | (apply kT (by decide); conv => whnf) | (apply kF (by decide); conv => whnf) | (apply kB <;> intro _ <;> conv => whnf) | fail))
          (refine ⟨cF 20 f, ld1, cF_len, ?_⟩; conv => whnf)
          (repeat' (first | (apply kT (by with_reducible first | rfl | assumption); conv => whnf) | (apply kF (by with_reducible first | rfl | assumption); conv => whnf) | (apply kT (by decide); conv => whnf) | (apply kF (by decide); conv => whnf) | (apply kB <;> intro _ <;> conv => whnf) | (refine .inr ⟨[1, 0], 2, _, _, o1, ?_⟩; conv => whnf) | fail))
          (refine ⟨cF 20 a, tv_fst, cF_len, ?_⟩; conv => whnf)
          (repeat' (first | (apply kT (by with_reducible first | rfl | assumption); conv => whnf) | (apply kF (by with_reducible first | rfl | assumption); conv => whnf) | (apply kT (by decide); conv => whnf) | (apply kF (by decide); conv => whnf) | (apply kB <;> intro _ <;> conv => whnf) | (refine .inr ⟨[1, 0], 2, _, _, o3, ?_⟩; conv => whnf) | fail))
          (refine ⟨cF 20 f, ld1, cF_len, ?_⟩; conv => whnf)
          (refine ⟨(cF 20 f).map A.d, rfl, cF_lenA, by simp only [cF_lenA, tv_lenA]; decide, cF_one, ?_⟩; conv => whnf)
          (repeat' (first | (apply kT (by with_reducible first | rfl | assumption); conv => whnf) | (apply kF (by with_reducible first | rfl | assumption); conv => whnf) | (apply kT (by decide); conv => whnf) | (apply kF (by decide); conv => whnf) | (apply kB <;> intro _ <;> conv => whnf) | fail))
          (refine ⟨cF 20 g, ld2, cF_len, ?_⟩; conv => whnf)
          (repeat' (first | (apply kT (by with_reducible first | rfl | assumption); conv => whnf) | (apply kF (by with_reducible first | rfl | assumption); conv => whnf) | (apply kT (by decide); conv => whnf) | (apply kF (by decide); conv => whnf) | (apply kB <;> intro _ <;> conv => whnf) | (refine .inr ⟨[1, 0], 2, _, _, o2, ?_⟩; conv => whnf) | fail))
          (refine ⟨cF 20 b, ld3, cF_len, ?_⟩; conv => whnf)
          (repeat' (first | (apply kT (by with_reducible first | rfl | assumption); conv => whnf) | (apply kF (by with_reducible first | rfl | assumption); conv => whnf) | (apply kT (by decide); conv => whnf) | (apply kF (by decide); conv => whnf) | (apply kB <;> intro _ <;> conv => whnf) | (refine .inr ⟨[1, 0], 2, _, _, o4, ?_⟩; conv => whnf) | fail))
          refine ⟨[0, 1, 2, 3, 108], 110, rfl, ?_⟩
          conv => whnf
          refine ⟨onlyE e2, ?_⟩
          conv => whnf
          exact fin f b _ e1 e2
        · have c1' := decide_eq_false c1
          have c2' := decide_eq_true c2
          have e1 : endsN 0 l r es (i + 1) = (a, g) := by rw [eN]; unfold stE; rw [if_neg (fun hx => hx.elim q0 c1), if_pos (.inr c2)]
          have e2 : putAt ((tv a b).map A.d) 20 ((cF 20 g).map A.d) = (tv a g).map A.d := tv_putR
          conv => whnf
          (refine ⟨(tv f g).map A.d, rfl, tv_lenA, by simp only [tv_lenA]; decide, tv_one, ?_⟩; conv => whnf)
          (repeat' (first | (apply kT (by with_reducible first | rfl | assumption); conv => whnf) | (apply kF (by with_reducible first | rfl | assumption); conv => whnf) | (apply kT (by decide); conv => whnf) | (apply kF (by decide); conv => whnf) | (apply kB <;> intro _ <;> conv => whnf) | fail))
          (refine ⟨cF 20 f, ld1, cF_len, ?_⟩; conv => whnf)
          (repeat' (first | (apply kT (by with_reducible first | rfl | assumption); conv => whnf) | (apply kF (by with_reducible first | rfl | assumption); conv => whnf) | (apply kT (by decide); conv => whnf) | (apply kF (by decide); conv => whnf) | (apply kB <;> intro _ <;> conv => whnf) | (refine .inr ⟨[1, 0], 2, _, _, o1, ?_⟩; conv => whnf) | fail))
          (refine ⟨cF 20 a, tv_fst, cF_len, ?_⟩; conv => whnf)
          (repeat' (first | (apply kT (by with_reducible first | rfl | assumption); conv => whnf) | (apply kF (by with_reducible first | rfl | assumption); conv => whnf) | (apply kT (by decide); conv => whnf) | (apply kF (by decide); conv => whnf) | (apply kB <;> intro _ <;> conv => whnf) | (refine .inr ⟨[1, 0], 2, _, _, o3, ?_⟩; conv => whnf) | fail))
          (refine ⟨cF 20 g, ld2, cF_len, ?_⟩; conv => whnf)
          (repeat' (first | (apply kT (by with_reducible first | rfl | assumption); conv => whnf) | (apply kF (by with_reducible first | rfl | assumption); conv => whnf) | (apply kT (by decide); conv => whnf) | (apply kF (by decide); conv => whnf) | (apply kB <;> intro _ <;> conv => whnf) | (refine .inr ⟨[1, 0], 2, _, _, o2, ?_⟩; conv => whnf) | fail))
          (refine ⟨cF 20 b, tv_snd, cF_len, ?_⟩; conv => whnf)
          (repeat' (first | (apply kT (by with_reducible first | rfl | assumption); conv => whnf) | (apply kF (by with_reducible first | rfl | assumption); conv => whnf) | (apply kT (by decide); conv => whnf) | (apply kF (by decide); conv => whnf) | (apply kB <;> intro _ <;> conv => whnf) | (refine .inr ⟨[1, 0], 2, _, _, o4, ?_⟩; conv => whnf) | fail))
          (refine ⟨cF 20 g, ld2, cF_len, ?_⟩; conv => whnf)
          (refine ⟨(cF 20 g).map A.d, rfl, cF_lenA, by simp only [cF_lenA, tv_lenA]; decide, cF_one, ?_⟩; conv => whnf)
          refine ⟨[0, 1, 2, 3, 108], 110, rfl, ?_⟩
          conv => whnf
          refine ⟨onlyE e2, ?_⟩
          conv => whnf
          exact fin a g _ e1 e2
        · have c1' := decide_eq_false c1
          have c2' := decide_eq_false c2
          have e1 : endsN 0 l r es (i + 1) = (a, b) := by rw [eN]; unfold stE; rw [if_neg (fun hx => hx.elim q0 c1), if_neg (fun hx => hx.elim q0 c2)]
          conv => whnf
          (refine ⟨(tv f g).map A.d, rfl, tv_lenA, by simp only [tv_lenA]; decide, tv_one, ?_⟩; conv => whnf)
          (repeat' (first | (apply kT (by with_reducible first | rfl | assumption); conv => whnf) | (apply kF (by with_reducible first | rfl | assumption); conv => whnf) | (apply kT (by decide); conv => whnf) | (apply kF (by decide); conv => whnf) | (apply kB <;> intro _ <;> conv => whnf) | fail))
          (refine ⟨cF 20 f, ld1, cF_len, ?_⟩; conv => whnf)
          (repeat' (first | (apply kT (by with_reducible first | rfl | assumption); conv => whnf) | (apply kF (by with_reducible first | rfl | assumption); conv => whnf) | (apply kT (by decide); conv => whnf) | (apply kF (by decide); conv => whnf) | (apply kB <;> intro _ <;> conv => whnf) | (refine .inr ⟨[1, 0], 2, _, _, o1, ?_⟩; conv => whnf) | fail))
          (refine ⟨cF 20 a, tv_fst, cF_len, ?_⟩; conv => whnf)
          (repeat' (first | (apply kT (by with_reducible first | rfl | assumption); conv => whnf) | (apply kF (by with_reducible first | rfl | assumption); conv => whnf) | (apply kT (by decide); conv => whnf) | (apply kF (by decide); conv => whnf) | (apply kB <;> intro _ <;> conv => whnf) | (refine .inr ⟨[1, 0], 2, _, _, o3, ?_⟩; conv => whnf) | fail))
          (refine ⟨cF 20 g, ld2, cF_len, ?_⟩; conv => whnf)
          (repeat' (first | (apply kT (by with_reducible first | rfl | assumption); conv => whnf) | (apply kF (by with_reducible first | rfl | assumption); conv => whnf) | (apply kT (by decide); conv => whnf) | (apply kF (by decide); conv => whnf) | (apply kB <;> intro _ <;> conv => whnf) | (refine .inr ⟨[1, 0], 2, _, _, o2, ?_⟩; conv => whnf) | fail))
          (refine ⟨cF 20 b, tv_snd, cF_len, ?_⟩; conv => whnf)
          (repeat' (first | (apply kT (by with_reducible first | rfl | assumption); conv => whnf) | (apply kF (by with_reducible first | rfl | assumption); conv => whnf) | (apply kT (by decide); conv => whnf) | (apply kF (by decide); conv => whnf) | (apply kB <;> intro _ <;> conv => whnf) | (refine .inr ⟨[1, 0], 2, _, _, o4, ?_⟩; conv => whnf) | fail))
          refine ⟨[0, 1, 2, 3, 108], 110, rfl, ?_⟩
          conv => whnf
          refine ⟨onlyE rfl, ?_⟩
          conv => whnf
          exact fin a b _ e1 rfl
    · rintro ob1 n1 _ ⟨rfl, cs, rfl, rfl⟩
      rw [hlen]
      conv => whnf
      (refine ⟨tv (endsN 0 l r es es.length).1 (endsN 0 l r es es.length).2, tv_all, tv_len, ?_⟩; conv => whnf)
      (refine ⟨(tv (endsN 0 l r es es.length).1 (endsN 0 l r es es.length).2).map A.d, rfl, tv_lenA, by simp only [tv_lenA]; decide, tv_one, ?_⟩; conv => whnf)
      (refine ⟨tv (endsN 0 l r es es.length).1 (endsN 0 l r es es.length).2, by rw [put40]; exact tv_all, tv_len, ?_⟩; conv => whnf)
      rfl
  · rw [← hes] at i1
    (refine ⟨1, _, rfl, rfl, rfl, ?_⟩; conv => whnf)
    refine ⟨[28, 29, 30, 31, 32], [2, 3, 4, 5, 7], [0, 1, 2, 3, 108], _, _, _, J, i1, ?_⟩
    conv => whnf
    (refine ⟨zs40_only, ?_⟩; conv => whnf)
    subst hJ
    refine ⟨⟨rfl, _, by rw [endsN_zero]; exact rep40, rfl⟩, ?_, ?_⟩
    · rintro i ds ob1 n1 hi hit ⟨rfl, cs, rfl, rfl⟩
      rw [List.getElem?_map] at hi
      obtain ⟨⟨p, f, g⟩, he, rfl⟩ := Option.map_eq_some_iff.1 hi
      have hilt : i < (es.map emD).length := by rw [hlen]; exact (List.getElem?_eq_some_iff.1 he).1
      obtain ⟨hf1, hf2⟩ := hB _ (List.mem_of_getElem? he)
      have o1 := of_bor h hk hf1
      have o2 := of_bor h hk hf2
      have ld1 : ((putAt zs40 0 ((tv f g).map A.d)).drop 0).take 20 = (cF 20 f).map A.d := by rw [zput40]; exact tv_fst
      have ld2 : ((putAt zs40 0 ((tv f g).map A.d)).drop 20).take 20 = (cF 20 g).map A.d := by rw [zput40]; exact tv_snd
      obtain ⟨ha1, ha2⟩ := endsN_b (kind := _) (r := r) hB i
      have o3 := of_bor h hk ha1
      have o4 := of_bor h hk ha2
      have eN := endsN_succ (kind := 1) (l := l) (r := r) he
      generalize endsN 1 l r es i = ab at *
      obtain ⟨a, b⟩ := ab
      dsimp only at o1 o2 o3 o4
      refine ⟨rfl, ?_⟩
      have fin : ∀ (f' g' : Nat → Int) (cs : List A), endsN 1 l r es (i + 1) = (f', g') → cs = (tv f' g').map A.d → i < (es.map emD).length ∧ (110 = 110 ∧ ∃ cs', cs' = (tv (endsN 1 l r es (i + 1)).1 (endsN 1 l r es (i + 1)).2).map A.d ∧ obE 1 l r (i + 1) cs = obE 1 l r (i + 1) cs') := fun f' g' cs h1 h2 => ⟨hilt, rfl, cs, by rw [h1]; exact h2, rfl⟩
      have lenP : (putAt ((tv a b).map A.d) 0 ((cF 20 f).map A.d)).length = 40 := by rw [tv_putL]; exact tv_lenA
      have ld3 : ((putAt ((tv a b).map A.d) 0 ((cF 20 f).map A.d)).drop 20).take 20 = (cF 20 b).map A.d := by rw [tv_putL]; exact tv_snd
      rcases Nat.eq_zero_or_pos i with h0 | h0
      · have hz : (!decide (0 < i)) = true := by subst h0; rfl
        have e1 : endsN 1 l r es (i + 1) = (f, g) := by rw [eN]; unfold stE; rw [decide_eq_false (by omega), if_pos (.inl rfl), if_pos (.inl rfl)]
        have e2 : putAt (putAt ((tv a b).map A.d) 0 ((cF 20 f).map A.d)) 20 ((cF 20 g).map A.d) = (tv f g).map A.d := by rw [tv_putL, tv_putR]
        conv => whnf
        (refine ⟨(tv f g).map A.d, rfl, tv_lenA, by simp only [tv_lenA]; decide, tv_one, ?_⟩; conv => whnf)
        (repeat' (first | (apply kT (by with_reducible first | rfl | assumption); conv => whnf) | (apply kF (by with_reducible first | rfl | assumption); conv => whnf) | (apply kT (by decide); conv => whnf) | (apply kF (by decide); conv => whnf) | (apply kB <;> intro _ <;> conv => whnf) | fail))
        (refine ⟨cF 20 f, ld1, cF_len, ?_⟩; conv => whnf)
        (refine ⟨(cF 20 f).map A.d, rfl, cF_lenA, by simp only [cF_lenA, tv_lenA]; decide, cF_one, ?_⟩; conv => whnf)
        (repeat' (first | (apply kT (by with_reducible first | rfl | assumption); conv => whnf) | (apply kF (by with_reducible first | rfl | assumption); conv => whnf) | (apply kT (by decide); conv => whnf) | (apply kF (by decide); conv => whnf) | (apply kB <;> intro _ <;> conv => whnf) | fail))
        (refine ⟨cF 20 g, ld2, cF_len, ?_⟩; conv => whnf)
        (refine ⟨(cF 20 g).map A.d, rfl, cF_lenA, by rw [cF_lenA]; exact Nat.le_of_eq lenP.symm, cF_one, ?_⟩; conv => whnf)
        refine ⟨[0, 1, 2, 3, 108], 110, rfl, ?_⟩
        conv => whnf
        refine ⟨onlyE e2, ?_⟩
        conv => whnf
        exact fin f g _ e1 e2
      · have hz : (!decide (0 < i)) = false := by rw [decide_eq_true h0]; rfl
        have q0 : ¬ (decide (0 < i) = false) := by rw [decide_eq_true h0]; exact fun h => nomatch h
        by_cases c1 : numQ 1 l r f < numQ 1 l r a <;> by_cases c2 : numQ 1 l r g > numQ 1 l r b
        · have c1' := decide_eq_true c1
          have c2' := decide_eq_true c2
          have e1 : endsN 1 l r es (i + 1) = (f, g) := by rw [eN]; unfold stE; rw [if_pos (.inr c1), if_pos (.inr c2)]
          have e2 : putAt (putAt ((tv a b).map A.d) 0 ((cF 20 f).map A.d)) 20 ((cF 20 g).map A.d) = (tv f g).map A.d := by rw [tv_putL, tv_putR]
          conv => whnf
          (refine ⟨(tv f g).map A.d, rfl, tv_lenA, by simp only [tv_lenA]; decide, tv_one, ?_⟩; conv => whnf)
          (repeat' (first | (apply kT (by with_reducible first | rfl | assumption); conv => whnf) | (apply kF (by with_reducible first | rfl | assumption); conv => whnf) | (apply kT (by decide); conv => whnf) | (apply kF (by decide); conv => whnf) | (apply kB <;> intro _ <;> conv => whnf) | fail))
          (refine ⟨cF 20 f, ld1, cF_len, ?_⟩; conv => whnf)
          (repeat' (first | (apply kT (by with_reducible first | rfl | assumption); conv => whnf) | (apply kF (by with_reducible first | rfl | assumption); conv => whnf) | (apply kT (by decide); conv => whnf) | (apply kF (by decide); conv => whnf) | (apply kB <;> intro _ <;> conv => whnf) | (refine .inr ⟨[1, 0], 2, _, _, o1, ?_⟩; conv => whnf) | fail))
          (refine ⟨cF 20 a, tv_fst, cF_len, ?_⟩; conv => whnf)
          (repeat' (first | (apply kT (by with_reducible first | rfl | assumption); conv => whnf) | (apply kF (by with_reducible first | rfl | assumption); conv => whnf) | (apply kT (by decide); conv => whnf) | (apply kF (by decide); conv => whnf) | (apply kB <;> intro _ <;> conv => whnf) | (refine .inr ⟨[1, 0], 2, _, _, o3, ?_⟩; conv => whnf) | fail))
          (refine ⟨cF 20 f, ld1, cF_len, ?_⟩; conv => whnf)
          (refine ⟨(cF 20 f).map A.d, rfl, cF_lenA, by simp only [cF_lenA, tv_lenA]; decide, cF_one, ?_⟩; conv => whnf)
          (repeat' (first | (apply kT (by with_reducible first | rfl | assumption); conv => whnf) | (apply kF (by with_reducible first | rfl | assumption); conv => whnf) | (apply kT (by decide); conv => whnf) | (apply kF (by decide); conv => whnf) | (apply kB <;> intro _ <;> conv => whnf) | fail))
          (refine ⟨cF 20 g, ld2, cF_len, ?_⟩; conv => whnf)
          (repeat' (first | (apply kT (by with_reducible first | rfl | assumption); conv => whnf) | (apply kF (by with_reducible first | rfl | assumption); conv => whnf) | (apply kT (by decide); conv => whnf) | (apply kF (by decide); conv => whnf) | (apply kB <;> intro _ <;> conv => whnf) | (refine .inr ⟨[1, 0], 2, _, _, o2, ?_⟩; conv => whnf) | fail))
          (refine ⟨cF 20 b, ld3, cF_len, ?_⟩; conv => whnf)
          (repeat' (first | (apply kT (by with_reducible first | rfl | assumption); conv => whnf) | (apply kF (by with_reducible first | rfl | assumption); conv => whnf) | (apply kT (by decide); conv => whnf) | (apply kF (by decide); conv => whnf) | (apply kB <;> intro _ <;> conv => whnf) | (refine .inr ⟨[1, 0], 2, _, _, o4, ?_⟩; conv => whnf) | fail))
          (refine ⟨cF 20 g, ld2, cF_len, ?_⟩; conv => whnf)
          (refine ⟨(cF 20 g).map A.d, rfl, cF_lenA, by rw [cF_lenA]; exact Nat.le_of_eq lenP.symm, cF_one, ?_⟩; conv => whnf)
          refine ⟨[0, 1, 2, 3, 108], 110, rfl, ?_⟩
          conv => whnf
          refine ⟨onlyE e2, ?_⟩
          conv => whnf
          exact fin f g _ e1 e2
        · have c1' := decide_eq_true c1
          have c2' := decide_eq_false c2
          have e1 : endsN 1 l r es (i + 1) = (f, b) := by rw [eN]; unfold stE; rw [if_pos (.inr c1), if_neg (fun hx => hx.elim q0 c2)]
          have e2 : putAt ((tv a b).map A.d) 0 ((cF 20 f).map A.d) = (tv f b).map A.d := tv_putL
          conv => whnf
          (refine ⟨(tv f g).map A.d, rfl, tv_lenA, by simp only [tv_lenA]; decide, tv_one, ?_⟩; conv => whnf)
          (repeat' (first | (apply kT (by with_reducible first | rfl | assumption); conv => whnf) | (apply kF (by with_reducible first | rfl | assumption); conv => whnf) | (apply kT (by decide); conv => whnf) | (apply kF (by decide); conv => whnf) | (apply kB <;> intro _ <;> conv => whnf) | fail))
          (refine ⟨cF 20 f, ld1, cF_len, ?_⟩; conv => whnf)
          (repeat' (first | (apply kT (by with_reducible first | rfl | assumption); conv => whnf) | (apply kF (by with_reducible first | rfl | assumption); conv => whnf) | (apply kT (by decide); conv => whnf) | (apply kF (by decide); conv => whnf) | (apply kB <;> intro _ <;> conv => whnf) | (refine .inr ⟨[1, 0], 2, _, _, o1, ?_⟩; conv => whnf) | fail))
          (refine ⟨cF 20 a, tv_fst, cF_len, ?_⟩; conv => whnf)
          (repeat' (first | (apply kT (by with_reducible first | rfl | assumption); conv => whnf) | (apply kF (by with_reducible first | rfl | assumption); conv => whnf) | (apply kT (by decide); conv => whnf) | (apply kF (by decide); conv => whnf) | (apply kB <;> intro _ <;> conv => whnf) | (refine .inr ⟨[1, 0], 2, _, _, o3, ?_⟩; conv => whnf) | fail))
          (refine ⟨cF 20 f, ld1, cF_len, ?_⟩; conv => whnf)
          (refine ⟨(cF 20 f).map A.d, rfl, cF_lenA, by simp only [cF_lenA, tv_lenA]; decide, cF_one, ?_⟩; conv => whnf)
          (repeat' (first | (apply kT (by with_reducible first | rfl | assumption); conv => whnf) | (apply kF (by with_reducible first | rfl | assumption); conv => whnf) | (apply kT (by decide); conv => whnf) | (apply kF (by decide); conv => whnf) | (apply kB <;> intro _ <;> conv => whnf) | fail))
          (refine ⟨cF 20 g, ld2, cF_len, ?_⟩; conv => whnf)
          (repeat' (first | (apply kT (by with_reducible first | rfl | assumption); conv => whnf) | (apply kF (by with_reducible first | rfl | assumption); conv => whnf) | (apply kT (by decide); conv => whnf) | (apply kF (by decide); conv => whnf) | (apply kB <;> intro _ <;> conv => whnf) | (refine .inr ⟨[1, 0], 2, _, _, o2, ?_⟩; conv => whnf) | fail))
          (refine ⟨cF 20 b, ld3, cF_len, ?_⟩; conv => whnf)
          (repeat' (first | (apply kT (by with_reducible first | rfl | assumption); conv => whnf) | (apply kF (by with_reducible first | rfl | assumption); conv => whnf) | (apply kT (by decide); conv => whnf) | (apply kF (by decide); conv => whnf) | (apply kB <;> intro _ <;> conv => whnf) | (refine .inr ⟨[1, 0], 2, _, _, o4, ?_⟩; conv => whnf) | fail))
          refine ⟨[0, 1, 2, 3, 108], 110, rfl, ?_⟩
          conv => whnf
          refine ⟨onlyE e2, ?_⟩
          conv => whnf
          exact fin f b _ e1 e2
        · have c1' := decide_eq_false c1
          have c2' := decide_eq_true c2
          have e1 : endsN 1 l r es (i + 1) = (a, g) := by rw [eN]; unfold stE; rw [if_neg (fun hx => hx.elim q0 c1), if_pos (.inr c2)]
          have e2 : putAt ((tv a b).map A.d) 20 ((cF 20 g).map A.d) = (tv a g).map A.d := tv_putR
          conv => whnf
          (refine ⟨(tv f g).map A.d, rfl, tv_lenA, by simp only [tv_lenA]; decide, tv_one, ?_⟩; conv => whnf)
          (repeat' (first | (apply kT (by with_reducible first | rfl | assumption); conv => whnf) | (apply kF (by with_reducible first | rfl | assumption); conv => whnf) | (apply kT (by decide); conv => whnf) | (apply kF (by decide); conv => whnf) | (apply kB <;> intro _ <;> conv => whnf) | fail))
          (refine ⟨cF 20 f, ld1, cF_len, ?_⟩; conv => whnf)
          (repeat' (first | (apply kT (by with_reducible first | rfl | assumption); conv => whnf) | (apply kF (by with_reducible first | rfl | assumption); conv => whnf) | (apply kT (by decide); conv => whnf) | (apply kF (by decide); conv => whnf) | (apply kB <;> intro _ <;> conv => whnf) | (refine .inr ⟨[1, 0], 2, _, _, o1, ?_⟩; conv => whnf) | fail))
          (refine ⟨cF 20 a, tv_fst, cF_len, ?_⟩; conv => whnf)
          (repeat' (first | (apply kT (by with_reducible first | rfl | assumption); conv => whnf) | (apply kF (by with_reducible first | rfl | assumption); conv => whnf) | (apply kT (by decide); conv => whnf) | (apply kF (by decide); conv => whnf) | (apply kB <;> intro _ <;> conv => whnf) | (refine .inr ⟨[1, 0], 2, _, _, o3, ?_⟩; conv => whnf) | fail))
          (refine ⟨cF 20 g, ld2, cF_len, ?_⟩; conv => whnf)
          (repeat' (first | (apply kT (by with_reducible first | rfl | assumption); conv => whnf) | (apply kF (by with_reducible first | rfl | assumption); conv => whnf) | (apply kT (by decide); conv => whnf) | (apply kF (by decide); conv => whnf) | (apply kB <;> intro _ <;> conv => whnf) | (refine .inr ⟨[1, 0], 2, _, _, o2, ?_⟩; conv => whnf) | fail))
          (refine ⟨cF 20 b, tv_snd, cF_len, ?_⟩; conv => whnf)
          (repeat' (first | (apply kT (by with_reducible first | rfl | assumption); conv => whnf) | (apply kF (by with_reducible first | rfl | assumption); conv => whnf) | (apply kT (by decide); conv => whnf) | (apply kF (by decide); conv => whnf) | (apply kB <;> intro _ <;> conv => whnf) | (refine .inr ⟨[1, 0], 2, _, _, o4, ?_⟩; conv => whnf) | fail))
          (refine ⟨cF 20 g, ld2, cF_len, ?_⟩; conv => whnf)
          (refine ⟨(cF 20 g).map A.d, rfl, cF_lenA, by simp only [cF_lenA, tv_lenA]; decide, cF_one, ?_⟩; conv => whnf)
          refine ⟨[0, 1, 2, 3, 108], 110, rfl, ?_⟩
          conv => whnf
          refine ⟨onlyE e2, ?_⟩
          conv => whnf
          exact fin a g _ e1 e2
        · have c1' := decide_eq_false c1
          have c2' := decide_eq_false c2
          have e1 : endsN 1 l r es (i + 1) = (a, b) := by rw [eN]; unfold stE; rw [if_neg (fun hx => hx.elim q0 c1), if_neg (fun hx => hx.elim q0 c2)]
          conv => whnf
          (refine ⟨(tv f g).map A.d, rfl, tv_lenA, by simp only [tv_lenA]; decide, tv_one, ?_⟩; conv => whnf)
          (repeat' (first | (apply kT (by with_reducible first | rfl | assumption); conv => whnf) | (apply kF (by with_reducible first | rfl | assumption); conv => whnf) | (apply kT (by decide); conv => whnf) | (apply kF (by decide); conv => whnf) | (apply kB <;> intro _ <;> conv => whnf) | fail))
          (refine ⟨cF 20 f, ld1, cF_len, ?_⟩; conv => whnf)
          (repeat' (first | (apply kT (by with_reducible first | rfl | assumption); conv => whnf) | (apply kF (by with_reducible first | rfl | assumption); conv => whnf) | (apply kT (by decide); conv => whnf) | (apply kF (by decide); conv => whnf) | (apply kB <;> intro _ <;> conv => whnf) | (refine .inr ⟨[1, 0], 2, _, _, o1, ?_⟩; conv => whnf) | fail))
          (refine ⟨cF 20 a, tv_fst, cF_len, ?_⟩; conv => whnf)
          (repeat' (first | (apply kT (by with_reducible first | rfl | assumption); conv => whnf) | (apply kF (by with_reducible first | rfl | assumption); conv => whnf) | (apply kT (by decide); conv => whnf) | (apply kF (by decide); conv => whnf) | (apply kB <;> intro _ <;> conv => whnf) | (refine .inr ⟨[1, 0], 2, _, _, o3, ?_⟩; conv => whnf) | fail))
          (refine ⟨cF 20 g, ld2, cF_len, ?_⟩; conv => whnf)
          (repeat' (first | (apply kT (by with_reducible first | rfl | assumption); conv => whnf) | (apply kF (by with_reducible first | rfl | assumption); conv => whnf) | (apply kT (by decide); conv => whnf) | (apply kF (by decide); conv => whnf) | (apply kB <;> intro _ <;> conv => whnf) | (refine .inr ⟨[1, 0], 2, _, _, o2, ?_⟩; conv => whnf) | fail))
          (refine ⟨cF 20 b, tv_snd, cF_len, ?_⟩; conv => whnf)
          (repeat' (first | (apply kT (by with_reducible first | rfl | assumption); conv => whnf) | (apply kF (by with_reducible first | rfl | assumption); conv => whnf) | (apply kT (by decide); conv => whnf) | (apply kF (by decide); conv => whnf) | (apply kB <;> intro _ <;> conv => whnf) | (refine .inr ⟨[1, 0], 2, _, _, o4, ?_⟩; conv => whnf) | fail))
          refine ⟨[0, 1, 2, 3, 108], 110, rfl, ?_⟩
          conv => whnf
          refine ⟨onlyE rfl, ?_⟩
          conv => whnf
          exact fin a b _ e1 rfl
    · rintro ob1 n1 _ ⟨rfl, cs, rfl, rfl⟩
      rw [hlen]
      conv => whnf
      (refine ⟨tv (endsN 1 l r es es.length).1 (endsN 1 l r es es.length).2, tv_all, tv_len, ?_⟩; conv => whnf)
      (refine ⟨(tv (endsN 1 l r es es.length).1 (endsN 1 l r es es.length).2).map A.d, rfl, tv_lenA, by simp only [tv_lenA]; decide, tv_one, ?_⟩; conv => whnf)
      (refine ⟨tv (endsN 1 l r es es.length).1 (endsN 1 l r es es.length).2, by rw [put40]; exact tv_all, tv_len, ?_⟩; conv => whnf)
      rfl
  · rw [← hes] at i2
    (refine ⟨2, _, rfl, rfl, rfl, ?_⟩; conv => whnf)
    refine ⟨[44], [2, 3, 4, 5, 7], [0, 1, 2, 3, 108], _, _, _, J, i2, ?_⟩
    conv => whnf
    (refine ⟨zs40_only, ?_⟩; conv => whnf)
    subst hJ
    refine ⟨⟨rfl, _, by rw [endsN_zero]; exact rep40, rfl⟩, ?_, ?_⟩
    · rintro i ds ob1 n1 hi hit ⟨rfl, cs, rfl, rfl⟩
      rw [List.getElem?_map] at hi
      obtain ⟨⟨p, f, g⟩, he, rfl⟩ := Option.map_eq_some_iff.1 hi
      have hilt : i < (es.map emD).length := by rw [hlen]; exact (List.getElem?_eq_some_iff.1 he).1
      obtain ⟨hf1, hf2⟩ := hB _ (List.mem_of_getElem? he)
      have o1 := of_bor h hk hf1
      have o2 := of_bor h hk hf2
      have ld1 : ((putAt zs40 0 ((tv f g).map A.d)).drop 0).take 20 = (cF 20 f).map A.d := by rw [zput40]; exact tv_fst
      have ld2 : ((putAt zs40 0 ((tv f g).map A.d)).drop 20).take 20 = (cF 20 g).map A.d := by rw [zput40]; exact tv_snd
      obtain ⟨ha1, ha2⟩ := endsN_b (kind := _) (r := r) hB i
      have o3 := of_bor h hk ha1
      have o4 := of_bor h hk ha2
      have eN := endsN_succ (kind := 2) (l := l) (r := r) he
      generalize endsN 2 l r es i = ab at *
      obtain ⟨a, b⟩ := ab
      dsimp only at o1 o2 o3 o4
      refine ⟨rfl, ?_⟩
      have fin : ∀ (f' g' : Nat → Int) (cs : List A), endsN 2 l r es (i + 1) = (f', g') → cs = (tv f' g').map A.d → i < (es.map emD).length ∧ (110 = 110 ∧ ∃ cs', cs' = (tv (endsN 2 l r es (i + 1)).1 (endsN 2 l r es (i + 1)).2).map A.d ∧ obE 2 l r (i + 1) cs = obE 2 l r (i + 1) cs') := fun f' g' cs h1 h2 => ⟨hilt, rfl, cs, by rw [h1]; exact h2, rfl⟩
      have lenP : (putAt ((tv a b).map A.d) 0 ((cF 20 f).map A.d)).length = 40 := by rw [tv_putL]; exact tv_lenA
      have ld3 : ((putAt ((tv a b).map A.d) 0 ((cF 20 f).map A.d)).drop 20).take 20 = (cF 20 b).map A.d := by rw [tv_putL]; exact tv_snd
      rcases Nat.eq_zero_or_pos i with h0 | h0
      · have hz : (!decide (0 < i)) = true := by subst h0; rfl
        have e1 : endsN 2 l r es (i + 1) = (f, g) := by rw [eN]; unfold stE; rw [decide_eq_false (by omega), if_pos (.inl rfl), if_pos (.inl rfl)]
        have e2 : putAt (putAt ((tv a b).map A.d) 0 ((cF 20 f).map A.d)) 20 ((cF 20 g).map A.d) = (tv f g).map A.d := by rw [tv_putL, tv_putR]
        conv => whnf
        (refine ⟨(tv f g).map A.d, rfl, tv_lenA, by simp only [tv_lenA]; decide, tv_one, ?_⟩; conv => whnf)
        (repeat' (first | (apply kT (by with_reducible first | rfl | assumption); conv => whnf) | (apply kF (by with_reducible first | rfl | assumption); conv => whnf) | (apply kT (by decide); conv => whnf) | (apply kF (by decide); conv => whnf) | (apply kB <;> intro _ <;> conv => whnf) | fail))
        (refine ⟨cF 20 f, ld1, cF_len, ?_⟩; conv => whnf)
        (refine ⟨(cF 20 f).map A.d, rfl, cF_lenA, by simp only [cF_lenA, tv_lenA]; decide, cF_one, ?_⟩; conv => whnf)
        (repeat' (first | (apply kT (by with_reducible first | rfl | assumption); conv => whnf) | (apply kF (by with_reducible first | rfl | assumption); conv => whnf) | (apply kT (by decide); conv => whnf) | (apply kF (by decide); conv => whnf) | (apply kB <;> intro _ <;> conv => whnf) | fail))
        (refine ⟨cF 20 g, ld2, cF_len, ?_⟩; conv => whnf)
        (refine ⟨(cF 20 g).map A.d, rfl, cF_lenA, by rw [cF_lenA]; exact Nat.le_of_eq lenP.symm, cF_one, ?_⟩; conv => whnf)
        refine ⟨[0, 1, 2, 3, 108], 110, rfl, ?_⟩
        conv => whnf
        refine ⟨onlyE e2, ?_⟩
        conv => whnf
        exact fin f g _ e1 e2
      · have hz : (!decide (0 < i)) = false := by rw [decide_eq_true h0]; rfl
        have q0 : ¬ (decide (0 < i) = false) := by rw [decide_eq_true h0]; exact fun h => nomatch h
        by_cases c1 : numQ 2 l r f < numQ 2 l r a <;> by_cases c2 : numQ 2 l r g > numQ 2 l r b
        · have c1' := decide_eq_true c1
          have c2' := decide_eq_true c2
          have e1 : endsN 2 l r es (i + 1) = (f, g) := by rw [eN]; unfold stE; rw [if_pos (.inr c1), if_pos (.inr c2)]
          have e2 : putAt (putAt ((tv a b).map A.d) 0 ((cF 20 f).map A.d)) 20 ((cF 20 g).map A.d) = (tv f g).map A.d := by rw [tv_putL, tv_putR]
          conv => whnf
          (refine ⟨(tv f g).map A.d, rfl, tv_lenA, by simp only [tv_lenA]; decide, tv_one, ?_⟩; conv => whnf)
          (repeat' (first | (apply kT (by with_reducible first | rfl | assumption); conv => whnf) | (apply kF (by with_reducible first | rfl | assumption); conv => whnf) | (apply kT (by decide); conv => whnf) | (apply kF (by decide); conv => whnf) | (apply kB <;> intro _ <;> conv => whnf) | fail))
          (refine ⟨cF 20 f, ld1, cF_len, ?_⟩; conv => whnf)
          (repeat' (first | (apply kT (by with_reducible first | rfl | assumption); conv => whnf) | (apply kF (by with_reducible first | rfl | assumption); conv => whnf) | (apply kT (by decide); conv => whnf) | (apply kF (by decide); conv => whnf) | (apply kB <;> intro _ <;> conv => whnf) | (refine .inr ⟨[1, 0], 2, _, _, o1, ?_⟩; conv => whnf) | fail))
          (refine ⟨cF 20 a, tv_fst, cF_len, ?_⟩; conv => whnf)
          (repeat' (first | (apply kT (by with_reducible first | rfl | assumption); conv => whnf) | (apply kF (by with_reducible first | rfl | assumption); conv => whnf) | (apply kT (by decide); conv => whnf) | (apply kF (by decide); conv => whnf) | (apply kB <;> intro _ <;> conv => whnf) | (refine .inr ⟨[1, 0], 2, _, _, o3, ?_⟩; conv => whnf) | fail))
          (refine ⟨cF 20 f, ld1, cF_len, ?_⟩; conv => whnf)
          (refine ⟨(cF 20 f).map A.d, rfl, cF_lenA, by simp only [cF_lenA, tv_lenA]; decide, cF_one, ?_⟩; conv => whnf)
          (repeat' (first | (apply kT (by with_reducible first | rfl | assumption); conv => whnf) | (apply kF (by with_reducible first | rfl | assumption); conv => whnf) | (apply kT (by decide); conv => whnf) | (apply kF (by decide); conv => whnf) | (apply kB <;> intro _ <;> conv => whnf) | fail))
          (refine ⟨cF 20 g, ld2, cF_len, ?_⟩; conv => whnf)
          (repeat' (first | (apply kT (by with_reducible first | rfl | assumption); conv => whnf) | (apply kF (by with_reducible first | rfl | assumption); conv => whnf) | (apply kT (by decide); conv => whnf) | (apply kF (by decide); conv => whnf) | (apply kB <;> intro _ <;> conv => whnf) | (refine .inr ⟨[1, 0], 2, _, _, o2, ?_⟩; conv => whnf) | fail))
          (refine ⟨cF 20 b, ld3, cF_len, ?_⟩; conv => whnf)
          (repeat' (first | (apply kT (by with_reducible first | rfl | assumption); conv => whnf) | (apply kF (by with_reducible first | rfl | assumption); conv => whnf) | (apply kT (by decide); conv => whnf) | (apply kF (by decide); conv => whnf) | (apply kB <;> intro _ <;> conv => whnf) | (refine .inr ⟨[1, 0], 2, _, _, o4, ?_⟩; conv => whnf) | fail))
          (refine ⟨cF 20 g, ld2, cF_len, ?_⟩; conv => whnf)
          (refine ⟨(cF 20 g).map A.d, rfl, cF_lenA, by rw [cF_lenA]; exact Nat.le_of_eq lenP.symm, cF_one, ?_⟩; conv => whnf)
          refine ⟨[0, 1, 2, 3, 108], 110, rfl, ?_⟩
          conv => whnf
          refine ⟨onlyE e2, ?_⟩
          conv => whnf
          exact fin f g _ e1 e2
        · have c1' := decide_eq_true c1
          have c2' := decide_eq_false c2
          have e1 : endsN 2 l r es (i + 1) = (f, b) := by rw [eN]; unfold stE; rw [if_pos (.inr c1), if_neg (fun hx => hx.elim q0 c2)]
          have e2 : putAt ((tv a b).map A.d) 0 ((cF 20 f).map A.d) = (tv f b).map A.d := tv_putL
          conv => whnf
          (refine ⟨(tv f g).map A.d, rfl, tv_lenA, by simp only [tv_lenA]; decide, tv_one, ?_⟩; conv => whnf)
          (repeat' (first | (apply kT (by with_reducible first | rfl | assumption); conv => whnf) | (apply kF (by with_reducible first | rfl | assumption); conv => whnf) | (apply kT (by decide); conv => whnf) | (apply kF (by decide); conv => whnf) | (apply kB <;> intro _ <;> conv => whnf) | fail))
          (refine ⟨cF 20 f, ld1, cF_len, ?_⟩; conv => whnf)
          (repeat' (first | (apply kT (by with_reducible first | rfl | assumption); conv => whnf) | (apply kF (by with_reducible first | rfl | assumption); conv => whnf) | (apply kT (by decide); conv => whnf) | (apply kF (by decide); conv => whnf) | (apply kB <;> intro _ <;> conv => whnf) | (refine .inr ⟨[1, 0], 2, _, _, o1, ?_⟩; conv => whnf) | fail))
          (refine ⟨cF 20 a, tv_fst, cF_len, ?_⟩; conv => whnf)
          (repeat' (first | (apply kT (by with_reducible first | rfl | assumption); conv => whnf) | (apply kF (by with_reducible first | rfl | assumption); conv => whnf) | (apply kT (by decide); conv => whnf) | (apply kF (by decide); conv => whnf) | (apply kB <;> intro _ <;> conv => whnf) | (refine .inr ⟨[1, 0], 2, _, _, o3, ?_⟩; conv => whnf) | fail))
          (refine ⟨cF 20 f, ld1, cF_len, ?_⟩; conv => whnf)
          (refine ⟨(cF 20 f).map A.d, rfl, cF_lenA, by simp only [cF_lenA, tv_lenA]; decide, cF_one, ?_⟩; conv => whnf)
          (repeat' (first | (apply kT (by with_reducible first | rfl | assumption); conv => whnf) | (apply kF (by with_reducible first | rfl | assumption); conv => whnf) | (apply kT (by decide); conv => whnf) | (apply kF (by decide); conv => whnf) | (apply kB <;> intro _ <;> conv => whnf) | fail))
          (refine ⟨cF 20 g, ld2, cF_len, ?_⟩; conv => whnf)
          (repeat' (first | (apply kT (by with_reducible first | rfl | assumption); conv => whnf) | (apply kF (by with_reducible first | rfl | assumption); conv => whnf) | (apply kT (by decide); conv => whnf) | (apply kF (by decide); conv => whnf) | (apply kB <;> intro _ <;> conv => whnf) | (refine .inr ⟨[1, 0], 2, _, _, o2, ?_⟩; conv => whnf) | fail))
          (refine ⟨cF 20 b, ld3, cF_len, ?_⟩; conv => whnf)
          (repeat' (first | (apply kT (by with_reducible first | rfl | assumption); conv => whnf) | (apply kF (by with_reducible first | rfl | assumption); conv => whnf) | (apply kT (by decide); conv => whnf) | (apply kF (by decide); conv => whnf) | (apply kB <;> intro _ <;> conv => whnf) | (refine .inr ⟨[1, 0], 2, _, _, o4, ?_⟩; conv => whnf) | fail))
          refine ⟨[0, 1, 2, 3, 108], 110, rfl, ?_⟩
          conv => whnf
          refine ⟨onlyE e2, ?_⟩
          conv => whnf
          exact fin f b _ e1 e2
        · have c1' := decide_eq_false c1
          have c2' := decide_eq_true c2
          have e1 : endsN 2 l r es (i + 1) = (a, g) := by rw [eN]; unfold stE; rw [if_neg (fun hx => hx.elim q0 c1), if_pos (.inr c2)]
          have e2 : putAt ((tv a b).map A.d) 20 ((cF 20 g).map A.d) = (tv a g).map A.d := tv_putR
          conv => whnf
          (refine ⟨(tv f g).map A.d, rfl, tv_lenA, by simp only [tv_lenA]; decide, tv_one, ?_⟩; conv => whnf)
          (repeat' (first | (apply kT (by with_reducible first | rfl | assumption); conv => whnf) | (apply kF (by with_reducible first | rfl | assumption); conv => whnf) | (apply kT (by decide); conv => whnf) | (apply kF (by decide); conv => whnf) | (apply kB <;> intro _ <;> conv => whnf) | fail))
          (refine ⟨cF 20 f, ld1, cF_len, ?_⟩; conv => whnf)
          (repeat' (first | (apply kT (by with_reducible first | rfl | assumption); conv => whnf) | (apply kF (by with_reducible first | rfl | assumption); conv => whnf) | (apply kT (by decide); conv => whnf) | (apply kF (by decide); conv => whnf) | (apply kB <;> intro _ <;> conv => whnf) | (refine .inr ⟨[1, 0], 2, _, _, o1, ?_⟩; conv => whnf) | fail))
          (refine ⟨cF 20 a, tv_fst, cF_len, ?_⟩; conv => whnf)
          (repeat' (first | (apply kT (by with_reducible first | rfl | assumption); conv => whnf) | (apply kF (by with_reducible first | rfl | assumption); conv => whnf) | (apply kT (by decide); conv => whnf) | (apply kF (by decide); conv => whnf) | (apply kB <;> intro _ <;> conv => whnf) | (refine .inr ⟨[1, 0], 2, _, _, o3, ?_⟩; conv => whnf) | fail))
          (refine ⟨cF 20 g, ld2, cF_len, ?_⟩; conv => whnf)
          (repeat' (first | (apply kT (by with_reducible first | rfl | assumption); conv => whnf) | (apply kF (by with_reducible first | rfl | assumption); conv => whnf) | (apply kT (by decide); conv => whnf) | (apply kF (by decide); conv => whnf) | (apply kB <;> intro _ <;> conv => whnf) | (refine .inr ⟨[1, 0], 2, _, _, o2, ?_⟩; conv => whnf) | fail))
          (refine ⟨cF 20 b, tv_snd, cF_len, ?_⟩; conv => whnf)
          (repeat' (first | (apply kT (by with_reducible first | rfl | assumption); conv => whnf) | (apply kF (by with_reducible first | rfl | assumption); conv => whnf) | (apply kT (by decide); conv => whnf) | (apply kF (by decide); conv => whnf) | (apply kB <;> intro _ <;> conv => whnf) | (refine .inr ⟨[1, 0], 2, _, _, o4, ?_⟩; conv => whnf) | fail))
          (refine ⟨cF 20 g, ld2, cF_len, ?_⟩; conv => whnf)
          (refine ⟨(cF 20 g).map A.d, rfl, cF_lenA, by simp only [cF_lenA, tv_lenA]; decide, cF_one, ?_⟩; conv => whnf)
          refine ⟨[0, 1, 2, 3, 108], 110, rfl, ?_⟩
          conv => whnf
          refine ⟨onlyE e2, ?_⟩
          conv => whnf
          exact fin a g _ e1 e2
        · have c1' := decide_eq_false c1
          have c2' := decide_eq_false c2
          have e1 : endsN 2 l r es (i + 1) = (a, b) := by rw [eN]; unfold stE; rw [if_neg (fun hx => hx.elim q0 c1), if_neg (fun hx => hx.elim q0 c2)]
          conv => whnf
          (refine ⟨(tv f g).map A.d, rfl, tv_lenA, by simp only [tv_lenA]; decide, tv_one, ?_⟩; conv => whnf)
          (repeat' (first | (apply kT (by with_reducible first | rfl | assumption); conv => whnf) | (apply kF (by with_reducible first | rfl | assumption); conv => whnf) | (apply kT (by decide); conv => whnf) | (apply kF (by decide); conv => whnf) | (apply kB <;> intro _ <;> conv => whnf) | fail))
          (refine ⟨cF 20 f, ld1, cF_len, ?_⟩; conv => whnf)
          (repeat' (first | (apply kT (by with_reducible first | rfl | assumption); conv => whnf) | (apply kF (by with_reducible first | rfl | assumption); conv => whnf) | (apply kT (by decide); conv => whnf) | (apply kF (by decide); conv => whnf) | (apply kB <;> intro _ <;> conv => whnf) | (refine .inr ⟨[1, 0], 2, _, _, o1, ?_⟩; conv => whnf) | fail))
          (refine ⟨cF 20 a, tv_fst, cF_len, ?_⟩; conv => whnf)
          (repeat' (first | (apply kT (by with_reducible first | rfl | assumption); conv => whnf) | (apply kF (by with_reducible first | rfl | assumption); conv => whnf) | (apply kT (by decide); conv => whnf) | (apply kF (by decide); conv => whnf) | (apply kB <;> intro _ <;> conv => whnf) | (refine .inr ⟨[1, 0], 2, _, _, o3, ?_⟩; conv => whnf) | fail))
          (refine ⟨cF 20 g, ld2, cF_len, ?_⟩; conv => whnf)
          (repeat' (first | (apply kT (by with_reducible first | rfl | assumption); conv => whnf) | (apply kF (by with_reducible first | rfl | assumption); conv => whnf) | (apply kT (by decide); conv => whnf) | (apply kF (by decide); conv => whnf) | (apply kB <;> intro _ <;> conv => whnf) | (refine .inr ⟨[1, 0], 2, _, _, o2, ?_⟩; conv => whnf) | fail))
          (refine ⟨cF 20 b, tv_snd, cF_len, ?_⟩; conv => whnf)
          (repeat' (first | (apply kT (by with_reducible first | rfl | assumption); conv => whnf) | (apply kF (by with_reducible first | rfl | assumption); conv => whnf) | (apply kT (by decide); conv => whnf) | (apply kF (by decide); conv => whnf) | (apply kB <;> intro _ <;> conv => whnf) | (refine .inr ⟨[1, 0], 2, _, _, o4, ?_⟩; conv => whnf) | fail))
          refine ⟨[0, 1, 2, 3, 108], 110, rfl, ?_⟩
          conv => whnf
          refine ⟨onlyE rfl, ?_⟩
          conv => whnf
          exact fin a b _ e1 rfl
    · rintro ob1 n1 _ ⟨rfl, cs, rfl, rfl⟩
      rw [hlen]
      conv => whnf
      (refine ⟨tv (endsN 2 l r es es.length).1 (endsN 2 l r es es.length).2, tv_all, tv_len, ?_⟩; conv => whnf)
      (refine ⟨(tv (endsN 2 l r es es.length).1 (endsN 2 l r es es.length).2).map A.d, rfl, tv_lenA, by simp only [tv_lenA]; decide, tv_one, ?_⟩; conv => whnf)
      (refine ⟨tv (endsN 2 l r es es.length).1 (endsN 2 l r es es.length).2, by rw [put40]; exact tv_all, tv_len, ?_⟩; conv => whnf)
      rfl
  · rw [← hes] at i3
    (refine ⟨3, _, rfl, rfl, rfl, ?_⟩; conv => whnf)
    refine ⟨[60], [2, 3, 4, 5, 7], [0, 1, 2, 3, 108], _, _, _, J, i3, ?_⟩
    conv => whnf
    (refine ⟨zs40_only, ?_⟩; conv => whnf)
    subst hJ
    refine ⟨⟨rfl, _, by rw [endsN_zero]; exact rep40, rfl⟩, ?_, ?_⟩
    · rintro i ds ob1 n1 hi hit ⟨rfl, cs, rfl, rfl⟩
      rw [List.getElem?_map] at hi
      obtain ⟨⟨p, f, g⟩, he, rfl⟩ := Option.map_eq_some_iff.1 hi
      have hilt : i < (es.map emD).length := by rw [hlen]; exact (List.getElem?_eq_some_iff.1 he).1
      obtain ⟨hf1, hf2⟩ := hB _ (List.mem_of_getElem? he)
      have o1 := of_bor h hk hf1
      have o2 := of_bor h hk hf2
      have ld1 : ((putAt zs40 0 ((tv f g).map A.d)).drop 0).take 20 = (cF 20 f).map A.d := by rw [zput40]; exact tv_fst
      have ld2 : ((putAt zs40 0 ((tv f g).map A.d)).drop 20).take 20 = (cF 20 g).map A.d := by rw [zput40]; exact tv_snd
      obtain ⟨ha1, ha2⟩ := endsN_b (kind := _) (r := r) hB i
      have o3 := of_bor h hk ha1
      have o4 := of_bor h hk ha2
      have eN := endsN_succ (kind := 3) (l := l) (r := r) he
      generalize endsN 3 l r es i = ab at *
      obtain ⟨a, b⟩ := ab
      dsimp only at o1 o2 o3 o4
      refine ⟨rfl, ?_⟩
      have fin : ∀ (f' g' : Nat → Int) (cs : List A), endsN 3 l r es (i + 1) = (f', g') → cs = (tv f' g').map A.d → i < (es.map emD).length ∧ (110 = 110 ∧ ∃ cs', cs' = (tv (endsN 3 l r es (i + 1)).1 (endsN 3 l r es (i + 1)).2).map A.d ∧ obE 3 l r (i + 1) cs = obE 3 l r (i + 1) cs') := fun f' g' cs h1 h2 => ⟨hilt, rfl, cs, by rw [h1]; exact h2, rfl⟩
      have lenP : (putAt ((tv a b).map A.d) 0 ((cF 20 f).map A.d)).length = 40 := by rw [tv_putL]; exact tv_lenA
      have ld3 : ((putAt ((tv a b).map A.d) 0 ((cF 20 f).map A.d)).drop 20).take 20 = (cF 20 b).map A.d := by rw [tv_putL]; exact tv_snd
      rcases Nat.eq_zero_or_pos i with h0 | h0
      · have hz : (!decide (0 < i)) = true := by subst h0; rfl
        have e1 : endsN 3 l r es (i + 1) = (f, g) := by rw [eN]; unfold stE; rw [decide_eq_false (by omega), if_pos (.inl rfl), if_pos (.inl rfl)]
        have e2 : putAt (putAt ((tv a b).map A.d) 0 ((cF 20 f).map A.d)) 20 ((cF 20 g).map A.d) = (tv f g).map A.d := by rw [tv_putL, tv_putR]
        conv => whnf
        (refine ⟨(tv f g).map A.d, rfl, tv_lenA, by simp only [tv_lenA]; decide, tv_one, ?_⟩; conv => whnf)
        (repeat' (first | (apply kT (by with_reducible first | rfl | assumption); conv => whnf) | (apply kF (by with_reducible first | rfl | assumption); conv => whnf) | (apply kT (by decide); conv => whnf) | (apply kF (by decide); conv => whnf) | (apply kB <;> intro _ <;> conv => whnf) | fail))
        (refine ⟨cF 20 f, ld1, cF_len, ?_⟩; conv => whnf)
        (refine ⟨(cF 20 f).map A.d, rfl, cF_lenA, by simp only [cF_lenA, tv_lenA]; decide, cF_one, ?_⟩; conv => whnf)
        (repeat' (first | (apply kT (by with_reducible first | rfl | assumption); conv => whnf) | (apply kF (by with_reducible first | rfl | assumption); conv => whnf) | (apply kT (by decide); conv => whnf) | (apply kF (by decide); conv => whnf) | (apply kB <;> intro _ <;> conv => whnf) | fail))
        (refine ⟨cF 20 g, ld2, cF_len, ?_⟩; conv => whnf)
        (refine ⟨(cF 20 g).map A.d, rfl, cF_lenA, by rw [cF_lenA]; exact Nat.le_of_eq lenP.symm, cF_one, ?_⟩; conv => whnf)
        refine ⟨[0, 1, 2, 3, 108], 110, rfl, ?_⟩
        conv => whnf
        refine ⟨onlyE e2, ?_⟩
        conv => whnf
        exact fin f g _ e1 e2
      · have hz : (!decide (0 < i)) = false := by rw [decide_eq_true h0]; rfl
        have q0 : ¬ (decide (0 < i) = false) := by rw [decide_eq_true h0]; exact fun h => nomatch h
        by_cases c1 : numQ 3 l r f < numQ 3 l r a <;> by_cases c2 : numQ 3 l r g > numQ 3 l r b
        · have c1' := decide_eq_true c1
          have c2' := decide_eq_true c2
          have e1 : endsN 3 l r es (i + 1) = (f, g) := by rw [eN]; unfold stE; rw [if_pos (.inr c1), if_pos (.inr c2)]
          have e2 : putAt (putAt ((tv a b).map A.d) 0 ((cF 20 f).map A.d)) 20 ((cF 20 g).map A.d) = (tv f g).map A.d := by rw [tv_putL, tv_putR]
          conv => whnf
          (refine ⟨(tv f g).map A.d, rfl, tv_lenA, by simp only [tv_lenA]; decide, tv_one, ?_⟩; conv => whnf)
          (repeat' (first | (apply kT (by with_reducible first | rfl | assumption); conv => whnf) | (apply kF (by with_reducible first | rfl | assumption); conv => whnf) | (apply kT (by decide); conv => whnf) | (apply kF (by decide); conv => whnf) | (apply kB <;> intro _ <;> conv => whnf) | fail))
          (refine ⟨cF 20 f, ld1, cF_len, ?_⟩; conv => whnf)
          (repeat' (first | (apply kT (by with_reducible first | rfl | assumption); conv => whnf) | (apply kF (by with_reducible first | rfl | assumption); conv => whnf) | (apply kT (by decide); conv => whnf) | (apply kF (by decide); conv => whnf) | (apply kB <;> intro _ <;> conv => whnf) | (refine .inr ⟨[1, 0], 2, _, _, o1, ?_⟩; conv => whnf) | fail))
          (refine ⟨cF 20 a, tv_fst, cF_len, ?_⟩; conv => whnf)
          (repeat' (first | (apply kT (by with_reducible first | rfl | assumption); conv => whnf) | (apply kF (by with_reducible first | rfl | assumption); conv => whnf) | (apply kT (by decide); conv => whnf) | (apply kF (by decide); conv => whnf) | (apply kB <;> intro _ <;> conv => whnf) | (refine .inr ⟨[1, 0], 2, _, _, o3, ?_⟩; conv => whnf) | fail))
          (refine ⟨cF 20 f, ld1, cF_len, ?_⟩; conv => whnf)
          (refine ⟨(cF 20 f).map A.d, rfl, cF_lenA, by simp only [cF_lenA, tv_lenA]; decide, cF_one, ?_⟩; conv => whnf)
          (repeat' (first | (apply kT (by with_reducible first | rfl | assumption); conv => whnf) | (apply kF (by with_reducible first | rfl | assumption); conv => whnf) | (apply kT (by decide); conv => whnf) | (apply kF (by decide); conv => whnf) | (apply kB <;> intro _ <;> conv => whnf) | fail))
          (refine ⟨cF 20 g, ld2, cF_len, ?_⟩; conv => whnf)
          (repeat' (first | (apply kT (by with_reducible first | rfl | assumption); conv => whnf) | (apply kF (by with_reducible first | rfl | assumption); conv => whnf) | (apply kT (by decide); conv => whnf) | (apply kF (by decide); conv => whnf) | (apply kB <;> intro _ <;> conv => whnf) | (refine .inr ⟨[1, 0], 2, _, _, o2, ?_⟩; conv => whnf) | fail))
          (refine ⟨cF 20 b, ld3, cF_len, ?_⟩; conv => whnf)
          (repeat' (first | (apply kT (by with_reducible first | rfl | assumption); conv => whnf) | (apply kF (by with_reducible first | rfl | assumption); conv => whnf) | (apply kT (by decide); conv => whnf) | (apply kF (by decide); conv => whnf) | (apply kB <;> intro _ <;> conv => whnf) | (refine .inr ⟨[1, 0], 2, _, _, o4, ?_⟩; conv => whnf) | fail))
          (refine ⟨cF 20 g, ld2, cF_len, ?_⟩; conv => whnf)
          (refine ⟨(cF 20 g).map A.d, rfl, cF_lenA, by rw [cF_lenA]; exact Nat.le_of_eq lenP.symm, cF_one, ?_⟩; conv => whnf)
          refine ⟨[0, 1, 2, 3, 108], 110, rfl, ?_⟩
          conv => whnf
          refine ⟨onlyE e2, ?_⟩
          conv => whnf
          exact fin f g _ e1 e2
        · have c1' := decide_eq_true c1
          have c2' := decide_eq_false c2
          have e1 : endsN 3 l r es (i + 1) = (f, b) := by rw [eN]; unfold stE; rw [if_pos (.inr c1), if_neg (fun hx => hx.elim q0 c2)]
          have e2 : putAt ((tv a b).map A.d) 0 ((cF 20 f).map A.d) = (tv f b).map A.d := tv_putL
          conv => whnf
          (refine ⟨(tv f g).map A.d, rfl, tv_lenA, by simp only [tv_lenA]; decide, tv_one, ?_⟩; conv => whnf)
          (repeat' (first | (apply kT (by with_reducible first | rfl | assumption); conv => whnf) | (apply kF (by with_reducible first | rfl | assumption); conv => whnf) | (apply kT (by decide); conv => whnf) | (apply kF (by decide); conv => whnf) | (apply kB <;> intro _ <;> conv => whnf) | fail))
          (refine ⟨cF 20 f, ld1, cF_len, ?_⟩; conv => whnf)
          (repeat' (first | (apply kT (by with_reducible first | rfl | assumption); conv => whnf) | (apply kF (by with_reducible first | rfl | assumption); conv => whnf) | (apply kT (by decide); conv => whnf) | (apply kF (by decide); conv => whnf) | (apply kB <;> intro _ <;> conv => whnf) | (refine .inr ⟨[1, 0], 2, _, _, o1, ?_⟩; conv => whnf) | fail))
          (refine ⟨cF 20 a, tv_fst, cF_len, ?_⟩; conv => whnf)
          (repeat' (first | (apply kT (by with_reducible first | rfl | assumption); conv => whnf) | (apply kF (by with_reducible first | rfl | assumption); conv => whnf) | (apply kT (by decide); conv => whnf) | (apply kF (by decide); conv => whnf) | (apply kB <;> intro _ <;> conv => whnf) | (refine .inr ⟨[1, 0], 2, _, _, o3, ?_⟩; conv => whnf) | fail))
          (refine ⟨cF 20 f, ld1, cF_len, ?_⟩; conv => whnf)
          (refine ⟨(cF 20 f).map A.d, rfl, cF_lenA, by simp only [cF_lenA, tv_lenA]; decide, cF_one, ?_⟩; conv => whnf)
          (repeat' (first | (apply kT (by with_reducible first | rfl | assumption); conv => whnf) | (apply kF (by with_reducible first | rfl | assumption); conv => whnf) | (apply kT (by decide); conv => whnf) | (apply kF (by decide); conv => whnf) | (apply kB <;> intro _ <;> conv => whnf) | fail))
          (refine ⟨cF 20 g, ld2, cF_len, ?_⟩; conv => whnf)
          (repeat' (first | (apply kT (by with_reducible first | rfl | assumption); conv => whnf) | (apply kF (by with_reducible first | rfl | assumption); conv => whnf) | (apply kT (by decide); conv => whnf) | (apply kF (by decide); conv => whnf) | (apply kB <;> intro _ <;> conv => whnf) | (refine .inr ⟨[1, 0], 2, _, _, o2, ?_⟩; conv => whnf) | fail))
          (refine ⟨cF 20 b, ld3, cF_len, ?_⟩; conv => whnf)
          (repeat' (first | (apply kT (by with_reducible first | rfl | assumption); conv => whnf) | (apply kF (by with_reducible first | rfl | assumption); conv => whnf) | (apply kT (by decide); conv => whnf) | (apply kF (by decide); conv => whnf) | (apply kB <;> intro _ <;> conv => whnf) | (refine .inr ⟨[1, 0], 2, _, _, o4, ?_⟩; conv => whnf) | fail))
          refine ⟨[0, 1, 2, 3, 108], 110, rfl, ?_⟩
          conv => whnf
          refine ⟨onlyE e2, ?_⟩
          conv => whnf
          exact fin f b _ e1 e2
        · have c1' := decide_eq_false c1
          have c2' := decide_eq_true c2
          have e1 : endsN 3 l r es (i + 1) = (a, g) := by rw [eN]; unfold stE; rw [if_neg (fun hx => hx.elim q0 c1), if_pos (.inr c2)]
          have e2 : putAt ((tv a b).map A.d) 20 ((cF 20 g).map A.d) = (tv a g).map A.d := tv_putR
          conv => whnf
          (refine ⟨(tv f g).map A.d, rfl, tv_lenA, by simp only [tv_lenA]; decide, tv_one, ?_⟩; conv => whnf)
          (repeat' (first | (apply kT (by with_reducible first | rfl | assumption); conv => whnf) | (apply kF (by with_reducible first | rfl | assumption); conv => whnf) | (apply kT (by decide); conv => whnf) | (apply kF (by decide); conv => whnf) | (apply kB <;> intro _ <;> conv => whnf) | fail))
          (refine ⟨cF 20 f, ld1, cF_len, ?_⟩; conv => whnf)
          (repeat' (first | (apply kT (by with_reducible first | rfl | assumption); conv => whnf) | (apply kF (by with_reducible first | rfl | assumption); conv => whnf) | (apply kT (by decide); conv => whnf) | (apply kF (by decide); conv => whnf) | (apply kB <;> intro _ <;> conv => whnf) | (refine .inr ⟨[1, 0], 2, _, _, o1, ?_⟩; conv => whnf) | fail))
          (refine ⟨cF 20 a, tv_fst, cF_len, ?_⟩; conv => whnf)
          (repeat' (first | (apply kT (by with_reducible first | rfl | assumption); conv => whnf) | (apply kF (by with_reducible first | rfl | assumption); conv => whnf) | (apply kT (by decide); conv => whnf) | (apply kF (by decide); conv => whnf) | (apply kB <;> intro _ <;> conv => whnf) | (refine .inr ⟨[1, 0], 2, _, _, o3, ?_⟩; conv => whnf) | fail))
          (refine ⟨cF 20 g, ld2, cF_len, ?_⟩; conv => whnf)
          (repeat' (first | (apply kT (by with_reducible first | rfl | assumption); conv => whnf) | (apply kF (by with_reducible first | rfl | assumption); conv => whnf) | (apply kT (by decide); conv => whnf) | (apply kF (by decide); conv => whnf) | (apply kB <;> intro _ <;> conv => whnf) | (refine .inr ⟨[1, 0], 2, _, _, o2, ?_⟩; conv => whnf) | fail))
          (refine ⟨cF 20 b, tv_snd, cF_len, ?_⟩; conv => whnf)
          (repeat' (first | (apply kT (by with_reducible first | rfl | assumption); conv => whnf) | (apply kF (by with_reducible first | rfl | assumption); conv => whnf) | (apply kT (by decide); conv => whnf) | (apply kF (by decide); conv => whnf) | (apply kB <;> intro _ <;> conv => whnf) | (refine .inr ⟨[1, 0], 2, _, _, o4, ?_⟩; conv => whnf) | fail))
          (refine ⟨cF 20 g, ld2, cF_len, ?_⟩; conv => whnf)
          (refine ⟨(cF 20 g).map A.d, rfl, cF_lenA, by simp only [cF_lenA, tv_lenA]; decide, cF_one, ?_⟩; conv => whnf)
          refine ⟨[0, 1, 2, 3, 108], 110, rfl, ?_⟩
          conv => whnf
          refine ⟨onlyE e2, ?_⟩
          conv => whnf
          exact fin a g _ e1 e2
        · have c1' := decide_eq_false c1
          have c2' := decide_eq_false c2
          have e1 : endsN 3 l r es (i + 1) = (a, b) := by rw [eN]; unfold stE; rw [if_neg (fun hx => hx.elim q0 c1), if_neg (fun hx => hx.elim q0 c2)]
          conv => whnf
          (refine ⟨(tv f g).map A.d, rfl, tv_lenA, by simp only [tv_lenA]; decide, tv_one, ?_⟩; conv => whnf)
          (repeat' (first | (apply kT (by with_reducible first | rfl | assumption); conv => whnf) | (apply kF (by with_reducible first | rfl | assumption); conv => whnf) | (apply kT (by decide); conv => whnf) | (apply kF (by decide); conv => whnf) | (apply kB <;> intro _ <;> conv => whnf) | fail))
          (refine ⟨cF 20 f, ld1, cF_len, ?_⟩; conv => whnf)
          (repeat' (first | (apply kT (by with_reducible first | rfl | assumption); conv => whnf) | (apply kF (by with_reducible first | rfl | assumption); conv => whnf) | (apply kT (by decide); conv => whnf) | (apply kF (by decide); conv => whnf) | (apply kB <;> intro _ <;> conv => whnf) | (refine .inr ⟨[1, 0], 2, _, _, o1, ?_⟩; conv => whnf) | fail))
          (refine ⟨cF 20 a, tv_fst, cF_len, ?_⟩; conv => whnf)
          (repeat' (first | (apply kT (by with_reducible first | rfl | assumption); conv => whnf) | (apply kF (by with_reducible first | rfl | assumption); conv => whnf) | (apply kT (by decide); conv => whnf) | (apply kF (by decide); conv => whnf) | (apply kB <;> intro _ <;> conv => whnf) | (refine .inr ⟨[1, 0], 2, _, _, o3, ?_⟩; conv => whnf) | fail))
          (refine ⟨cF 20 g, ld2, cF_len, ?_⟩; conv => whnf)
          (repeat' (first | (apply kT (by with_reducible first | rfl | assumption); conv => whnf) | (apply kF (by with_reducible first | rfl | assumption); conv => whnf) | (apply kT (by decide); conv => whnf) | (apply kF (by decide); conv => whnf) | (apply kB <;> intro _ <;> conv => whnf) | (refine .inr ⟨[1, 0], 2, _, _, o2, ?_⟩; conv => whnf) | fail))
          (refine ⟨cF 20 b, tv_snd, cF_len, ?_⟩; conv => whnf)
          (repeat' (first | (apply kT (by with_reducible first | rfl | assumption); conv => whnf) | (apply kF (by with_reducible first | rfl | assumption); conv => whnf) | (apply kT (by decide); conv => whnf) | (apply kF (by decide); conv => whnf) | (apply kB <;> intro _ <;> conv => whnf) | (refine .inr ⟨[1, 0], 2, _, _, o4, ?_⟩; conv => whnf) | fail))
          refine ⟨[0, 1, 2, 3, 108], 110, rfl, ?_⟩
          conv => whnf
          refine ⟨onlyE rfl, ?_⟩
          conv => whnf
          exact fin a b _ e1 rfl
    · rintro ob1 n1 _ ⟨rfl, cs, rfl, rfl⟩
      rw [hlen]
      conv => whnf
      (refine ⟨tv (endsN 3 l r es es.length).1 (endsN 3 l r es es.length).2, tv_all, tv_len, ?_⟩; conv => whnf)
      (refine ⟨(tv (endsN 3 l r es es.length).1 (endsN 3 l r es es.length).2).map A.d, rfl, tv_lenA, by simp only [tv_lenA]; decide, tv_one, ?_⟩; conv => whnf)
      (refine ⟨tv (endsN 3 l r es es.length).1 (endsN 3 l r es es.length).2, by rw [put40]; exact tv_all, tv_len, ?_⟩; conv => whnf)
      rfl
end Go.Ev.Ytdgjogeddogbdaa

set_option linter.unusedVariables false
set_option linter.unusedSimpArgs false
set_option maxRecDepth 100000
namespace Go.Ev.Ytdgjogeddogbdaa
open Go.Proofs
/-- the error of a question for a kind's span -/
def askE (kind : Nat) (l : List P3) (r : P3) : Int := if erC l r = 0 then if 3 < kind then 2 else if (emK kind l r).length = 0 then 7 else 0 else erC l r
def askF (kind : Nat) (l : List P3) (r : P3) : (Nat → Int) × (Nat → Int) := if askE kind l r = 0 then endsF kind l r else (fun _ => 0, fun _ => 0)
def spanI (kind : Nat) (l : List P3) (r : P3) : Int × Int := if askE kind l r = 0 then (numQ kind l r (endsF kind l r).1, numQ kind l r (endsF kind l r).2) else (0, 0)
attribute [local irreducible] Pure Bor Iter inB ptB ruB okL goodB lineI ckC truB maxN fstN yvN mvN wkN metI tA pAt erC cF tv lsI resQ qs lstI knL bkN numQ bkF lowF highF mEm mEm1 yEm emK endsN endsF
theorem asked_pure (l : List P3) (hl : l.length ≤ 1000) (r : P3) (kind : Nat) (hk : kind ≤ 255) : Pure Try.prog 47 [crD l, ruD r, dU kind] (.tup [rdD l r, .agg (tv (askF kind l r).1 (askF kind l r).2), dI (askE kind l r)]) := by
  by_cases he : erC l r = 0
  · have hb : (erC l r != 0) = false := by rw [he]; rfl
    by_cases h3 : 3 < kind
    · have hk3 : decide ((kind : Int) > 3) = true := by rw [decide_eq_true_eq]; omega
      have e : askE kind l r = 2 := by unfold askE; rw [if_pos he, if_pos h3]
      have ed : askF kind l r = (fun _ => 0, fun _ => 0) := by unfold askF; rw [if_neg (by omega)]
      rw [ed, e]
      refine pure_of pg Try.func47 (by kernel_rfl) ?_
      conv => whnf
      (repeat' (first | (apply kT (by with_reducible first | rfl | assumption); conv => whnf) | (apply kF (by with_reducible first | rfl | assumption); conv => whnf) | (apply kT (by decide); conv => whnf) | (apply kF (by decide); conv => whnf) | (apply kB <;> intro _ <;> conv => whnf) | (refine .inl ⟨_, read_pure l hl r, ?_⟩; conv => whnf) | fail))
      (refine ⟨tv (fun _ => 0) (fun _ => 0), rep40, ?_⟩; conv => whnf)
      (refine ⟨(tv (fun _ => 0) (fun _ => 0)).map A.d, rfl, tv_lenA, by simp only [tv_lenA]; decide, tv_one, ?_⟩; conv => whnf)
      (refine ⟨tv (fun _ => 0) (fun _ => 0), by rw [zput40]; exact tv_all, tv_len, ?_⟩; conv => whnf)
      rfl
    · have hk3 : decide ((kind : Int) > 3) = false := by rw [decide_eq_false_iff_not]; omega
      have c := ends_pure (erC_iff.1 he) (kind := kind) (by omega)
      by_cases h0 : (emK kind l r).length = 0
      · have e : askE kind l r = 7 := by unfold askE; rw [if_pos he, if_neg h3, if_pos h0]
        have ed : askF kind l r = (fun _ => 0, fun _ => 0) := by unfold askF; rw [if_neg (by omega)]
        have h0' : (!decide (0 < (emK kind l r).length)) = true := by rw [decide_eq_false (by omega)]; rfl
        rw [ed, e]
        generalize endsF kind l r = x at c
        refine pure_of pg Try.func47 (by kernel_rfl) ?_
        conv => whnf
        (repeat' (first | (apply kT (by with_reducible first | rfl | assumption); conv => whnf) | (apply kF (by with_reducible first | rfl | assumption); conv => whnf) | (apply kT (by decide); conv => whnf) | (apply kF (by decide); conv => whnf) | (apply kB <;> intro _ <;> conv => whnf) | (refine .inl ⟨_, read_pure l hl r, ?_⟩; conv => whnf) | (refine .inl ⟨_, c, ?_⟩; conv => whnf) | fail))
        (refine ⟨(tv x.1 x.2).map A.d, rfl, tv_lenA, by simp only [tv_lenA]; decide, tv_one, ?_⟩; conv => whnf)
        (repeat' (first | (apply kT (by with_reducible first | rfl | assumption); conv => whnf) | (apply kF (by with_reducible first | rfl | assumption); conv => whnf) | (apply kT (by decide); conv => whnf) | (apply kF (by decide); conv => whnf) | (apply kB <;> intro _ <;> conv => whnf) | fail))
        (refine ⟨tv (fun _ => 0) (fun _ => 0), rep40, ?_⟩; conv => whnf)
        (refine ⟨(tv (fun _ => 0) (fun _ => 0)).map A.d, rfl, tv_lenA, by simp only [tv_lenA]; decide, tv_one, ?_⟩; conv => whnf)
        (refine ⟨tv (fun _ => 0) (fun _ => 0), by rw [zput40]; exact tv_all, tv_len, ?_⟩; conv => whnf)
        rfl
      · have e : askE kind l r = 0 := by unfold askE; rw [if_pos he, if_neg h3, if_neg h0]
        have ed : askF kind l r = endsF kind l r := by unfold askF; rw [if_pos e]
        have h0' : (!decide (0 < (emK kind l r).length)) = false := by rw [decide_eq_true (by omega)]; rfl
        rw [ed, e]
        generalize endsF kind l r = x at c
        refine pure_of pg Try.func47 (by kernel_rfl) ?_
        conv => whnf
        (repeat' (first | (apply kT (by with_reducible first | rfl | assumption); conv => whnf) | (apply kF (by with_reducible first | rfl | assumption); conv => whnf) | (apply kT (by decide); conv => whnf) | (apply kF (by decide); conv => whnf) | (apply kB <;> intro _ <;> conv => whnf) | (refine .inl ⟨_, read_pure l hl r, ?_⟩; conv => whnf) | (refine .inl ⟨_, c, ?_⟩; conv => whnf) | fail))
        (refine ⟨(tv x.1 x.2).map A.d, rfl, tv_lenA, by simp only [tv_lenA]; decide, tv_one, ?_⟩; conv => whnf)
        (repeat' (first | (apply kT (by with_reducible first | rfl | assumption); conv => whnf) | (apply kF (by with_reducible first | rfl | assumption); conv => whnf) | (apply kT (by decide); conv => whnf) | (apply kF (by decide); conv => whnf) | (apply kB <;> intro _ <;> conv => whnf) | fail))
        (refine ⟨tv x.1 x.2, by rw [zput40]; exact tv_all, tv_len, ?_⟩; conv => whnf)
        (refine ⟨(tv x.1 x.2).map A.d, rfl, tv_lenA, by simp only [tv_lenA]; decide, tv_one, ?_⟩; conv => whnf)
        (refine ⟨tv x.1 x.2, by rw [zput40]; exact tv_all, tv_len, ?_⟩; conv => whnf)
        rfl
  · have hb : (erC l r != 0) = true := by rw [bne_iff_ne]; exact he
    have e : askE kind l r = erC l r := by unfold askE; rw [if_neg he]
    have ed : askF kind l r = (fun _ => 0, fun _ => 0) := by unfold askF; rw [if_neg (by omega)]
    rw [ed, e]
    refine pure_of pg Try.func47 (by kernel_rfl) ?_
    conv => whnf
    (repeat' (first | (apply kT (by with_reducible first | rfl | assumption); conv => whnf) | (apply kF (by with_reducible first | rfl | assumption); conv => whnf) | (apply kT (by decide); conv => whnf) | (apply kF (by decide); conv => whnf) | (apply kB <;> intro _ <;> conv => whnf) | (refine .inl ⟨_, read_pure l hl r, ?_⟩; conv => whnf) | fail))
    (refine ⟨tv (fun _ => 0) (fun _ => 0), rep40, ?_⟩; conv => whnf)
    (refine ⟨(tv (fun _ => 0) (fun _ => 0)).map A.d, rfl, tv_lenA, by simp only [tv_lenA]; decide, tv_one, ?_⟩; conv => whnf)
    (refine ⟨tv (fun _ => 0) (fun _ => 0), by rw [zput40]; exact tv_all, tv_len, ?_⟩; conv => whnf)
    rfl
theorem endsF_b {l : List P3} {r : P3} (h : VC l r) (kind : Nat) : FB l.length (endsF kind l r).1 ∧ FB l.length (endsF kind l r).2 := by
  unfold endsF
  exact endsN_b (emK_b h kind) _
theorem numQ_eq (kind : Nat) (l : List P3) (r : P3) (f : Nat → Int) : numQ kind l r f = (resQ kind l r (lsI l.length f)).1 := by unfold numQ; rfl
theorem span_pure (l : List P3) (hl : l.length ≤ 1000) (r : P3) (kind : Nat) (hk : kind ≤ 255) : Pure Try.prog 24 [crD l, ruD r, dU kind] (.tup [.agg [dI (spanI kind l r).1, dI (spanI kind l r).2], dI (askE kind l r)]) := by
  have c := asked_pure l hl r kind hk
  by_cases he : askE kind l r = 0
  · have hv : VC l r := by
      refine erC_iff.1 ?_
      unfold askE at he
      split at he
      · assumption
      · rename_i hx; exact absurd he hx
    have hk4 : kind < 4 := by
      unfold askE at he
      rw [if_pos (erC_iff.2 hv)] at he
      split at he
      · cases he
      · omega
    have e : spanI kind l r = (numQ kind l r (endsF kind l r).1, numQ kind l r (endsF kind l r).2) := by unfold spanI; rw [if_pos he]
    have ed : askF kind l r = endsF kind l r := by unfold askF; rw [if_pos he]
    have hb : (askE kind l r != 0) = false := by rw [he]; rfl
    obtain ⟨b1, b2⟩ := endsF_b hv kind
    rw [e]
    rw [ed] at c
    generalize endsF kind l r = x at *
    have q1 := llist_pure hv.len hv.pos r x.1
    have q2 := llist_pure hv.len hv.pos r x.2
    have r1 := result_pure hv b1.tb
    have r2 := result_pure hv b2.tb
    have s1 := q_pure kind hk4 l r (lsI l.length x.1)
    have s2 := q_pure kind hk4 l r (lsI l.length x.2)
    rw [← numQ_eq] at s1 s2
    refine pure_of pg Try.func24 (by kernel_rfl) ?_
    conv => whnf
    (repeat' (first | (apply kT (by with_reducible first | rfl | assumption); conv => whnf) | (apply kF (by with_reducible first | rfl | assumption); conv => whnf) | (apply kT (by decide); conv => whnf) | (apply kF (by decide); conv => whnf) | (apply kB <;> intro _ <;> conv => whnf) | (refine .inl ⟨_, c, ?_⟩; conv => whnf) | fail))
    (refine ⟨(tv x.1 x.2).map A.d, rfl, tv_lenA, by simp only [tv_lenA]; decide, tv_one, ?_⟩; conv => whnf)
    (repeat' (first | (apply kT (by with_reducible first | rfl | assumption); conv => whnf) | (apply kF (by with_reducible first | rfl | assumption); conv => whnf) | (apply kT (by decide); conv => whnf) | (apply kF (by decide); conv => whnf) | (apply kB <;> intro _ <;> conv => whnf) | fail))
    (refine .inl ⟨_, quants_pure, ?_⟩; conv => whnf)
    (refine ⟨kind, _, rfl, qs_at hk4, rfl, ?_⟩; conv => whnf)
    (refine ⟨cF 20 x.1, by rw [zput40]; exact tv_fst, cF_len, ?_⟩; conv => whnf)
    (refine .inl ⟨_, q1, ?_⟩; conv => whnf)
    (refine .inl ⟨_, r1, ?_⟩; conv => whnf)
    (refine .inl ⟨_, s1, ?_⟩; conv => whnf)
    (refine .inl ⟨_, quants_pure, ?_⟩; conv => whnf)
    (refine ⟨kind, _, rfl, qs_at hk4, rfl, ?_⟩; conv => whnf)
    (refine ⟨cF 20 x.2, by rw [zput40]; exact tv_snd, cF_len, ?_⟩; conv => whnf)
    (refine .inl ⟨_, q2, ?_⟩; conv => whnf)
    (refine .inl ⟨_, r2, ?_⟩; conv => whnf)
    (refine .inl ⟨_, s2, ?_⟩; conv => whnf)
    rw [he]
    rfl
  · have e : spanI kind l r = (0, 0) := by unfold spanI; rw [if_neg he]
    have ed : askF kind l r = (fun _ => 0, fun _ => 0) := by unfold askF; rw [if_neg he]
    have hb : (askE kind l r != 0) = true := by rw [bne_iff_ne]; exact he
    rw [e]
    rw [ed] at c
    refine pure_of pg Try.func24 (by kernel_rfl) ?_
    conv => whnf
    (repeat' (first | (apply kT (by with_reducible first | rfl | assumption); conv => whnf) | (apply kF (by with_reducible first | rfl | assumption); conv => whnf) | (apply kT (by decide); conv => whnf) | (apply kF (by decide); conv => whnf) | (apply kB <;> intro _ <;> conv => whnf) | (refine .inl ⟨_, c, ?_⟩; conv => whnf) | fail))
    (refine ⟨(tv (fun _ => 0) (fun _ => 0)).map A.d, rfl, tv_lenA, by simp only [tv_lenA]; decide, tv_one, ?_⟩; conv => whnf)
    (repeat' (first | (apply kT (by with_reducible first | rfl | assumption); conv => whnf) | (apply kF (by with_reducible first | rfl | assumption); conv => whnf) | (apply kT (by decide); conv => whnf) | (apply kF (by decide); conv => whnf) | (apply kB <;> intro _ <;> conv => whnf) | fail))
    rfl
end Go.Ev.Ytdgjogeddogbdaa

set_option linter.unusedVariables false
set_option linter.unusedSimpArgs false
set_option maxRecDepth 100000
namespace Go.Ev.Ytdgjogeddogbdaa
open Go.Proofs
abbrev exT : List Int := [0, 50, 100, 94, 125, 105]
theorem ex_re : reE exL exR exT = 0 := by kernel_rfl
theorem ex_rd : reD exL exR exT = .agg [dI 125, dI 4, dI 2, dI 100, dI 3, dI 97, dI 8430] := by kernel_rfl
theorem ex_a1 : askE 1 exL exR = 0 := by kernel_rfl
theorem ex_s1 : spanI 1 exL exR = (95, 130) := by kernel_rfl
theorem ex_a2 : askE 2 exL exR = 0 := by kernel_rfl
theorem ex_s2 : spanI 2 exL exR = (93, 101) := by kernel_rfl
attribute [local irreducible] Pure Bor Iter reE reD askE spanI
theorem awake_pure : Pure Try.prog 12 [] (dB true) := by
  have c1 := Read_pure exL (by decide) exR exT
  have c2 := span_pure exL (by decide) exR 1 (by decide)
  have c3 := span_pure exL (by decide) exR 2 (by decide)
  rw [ex_re, ex_rd] at c1
  rw [ex_a1, ex_s1] at c2
  rw [ex_a2, ex_s2] at c3
  refine pure_of pg Try.func12 (by kernel_rfl) ?_
  conv => whnf
  (refine .inl ⟨_, pulled_pure, ?_⟩; conv => whnf)
  (refine .inl ⟨_, exrule_pure, ?_⟩; conv => whnf)
  (refine .inl ⟨_, c1, ?_⟩; conv => whnf)
  (refine .inl ⟨_, pulled_pure, ?_⟩; conv => whnf)
  (refine .inl ⟨_, exrule_pure, ?_⟩; conv => whnf)
  (refine .inl ⟨_, c2, ?_⟩; conv => whnf)
  (refine .inl ⟨_, pulled_pure, ?_⟩; conv => whnf)
  (refine .inl ⟨_, exrule_pure, ?_⟩; conv => whnf)
  (refine .inl ⟨_, c3, ?_⟩; conv => whnf)
  (repeat' (first | (apply kT (by with_reducible first | rfl | assumption); conv => whnf) | (apply kF (by with_reducible first | rfl | assumption); conv => whnf) | (apply kT (by decide); conv => whnf) | (apply kF (by decide); conv => whnf) | (apply kB <;> intro _ <;> conv => whnf) | fail))
  rfl
end Go.Ev.Ytdgjogeddogbdaa
