/-
  Contracts of functions, and plain laws, that lead to the statement. Written by an agent.
-/
import Derived.Test.YthmandhpmkfopaaProg
import Derived.KernelRfl
import Derived.Test.YthmandhpmkfopaaRows
import Derived.Test.YthmandhpmkfopaaKc
namespace Go.Ev.Ythmandhpmkfopaa
open Go.Proofs

def tys : List (Option Ty) := [
  none,
  some ⟨.other, 1, 8, [.nilFunc], (false, false)⟩,
  some ⟨.int .i64, 1, 8, [.int .i64 0], (false, false)⟩,
  some ⟨.int .i64, 1, 8, [.int .i64 0], (false, false)⟩,
  some ⟨.bool, 1, 1, [.bool false], (false, false)⟩,
  some ⟨.int .u8, 1, 1, [.int .u8 0], (false, false)⟩,
  some ⟨.int .u8, 1, 1, [.int .u8 0], (false, false)⟩,
  some ⟨.struct [(0, 2), (1, 3), (2, 4), (3, 6)], 4, 24, [.int .i64 0, .int .i64 0, .bool false, .int .u8 0], (false, false)⟩,
  some ⟨.struct [(0, 2), (1, 3), (2, 4), (3, 6)], 4, 24, [.int .i64 0, .int .i64 0, .bool false, .int .u8 0], (false, false)⟩,
  some ⟨.str, 1, 16, [.string ByteArray.empty], (false, false)⟩,
  some ⟨.str, 1, 16, [.string ByteArray.empty], (false, false)⟩,
  some ⟨.str, 1, 16, [.string ByteArray.empty], (false, false)⟩,
  some ⟨.int .u64, 1, 8, [.int .u64 0], (false, false)⟩,
  some ⟨.struct [(0, 9), (1, 12)], 2, 24, [.string ByteArray.empty, .int .u64 0], (false, false)⟩,
  some ⟨.struct [(0, 9), (1, 12)], 2, 24, [.string ByteArray.empty, .int .u64 0], (false, false)⟩,
  some ⟨.ptr 120, 1, 8, [.pointer none], (false, false)⟩,
  some ⟨.ptr 123, 1, 8, [.pointer none], (false, false)⟩,
  some ⟨.ptr 132, 1, 8, [.pointer none], (false, false)⟩,
  some ⟨.struct [(0, 17)], 1, 8, [.pointer none], (false, false)⟩,
  some ⟨.struct [(0, 17)], 1, 8, [.pointer none], (false, false)⟩,
  some ⟨.other, 1, 16, [.nilIface], (false, false)⟩,
  some ⟨.int .i32, 1, 4, [.int .i32 0], (false, false)⟩,
  some ⟨.slice 57, 1, 24, [.slice none 0 0], (false, false)⟩,
  some ⟨.struct [(0, 3), (1, 22)], 2, 32, [.int .i64 0, .slice none 0 0], (false, false)⟩,
  some ⟨.struct [(0, 3), (1, 22)], 2, 32, [.int .i64 0, .slice none 0 0], (false, false)⟩,
  some ⟨.other, 1, 8, [.nilFunc], (false, false)⟩,
  some ⟨.other, 1, 8, [.nilFunc], (false, false)⟩,
  some ⟨.int .i64, 1, 8, [.int .i64 0], (false, false)⟩,
  some ⟨.other, 1, 8, [.nilFunc], (false, false)⟩,
  some ⟨.slice 61, 1, 24, [.slice none 0 0], (false, false)⟩,
  some ⟨.struct [(0, 3), (1, 29)], 2, 32, [.int .i64 0, .slice none 0 0], (false, false)⟩,
  some ⟨.struct [(0, 3), (1, 29)], 2, 32, [.int .i64 0, .slice none 0 0], (false, false)⟩,
  some ⟨.other, 1, 8, [.nilFunc], (false, false)⟩,
  some ⟨.struct [(0, 3), (1, 3)], 2, 16, [.int .i64 0, .int .i64 0], (false, false)⟩,
  some ⟨.struct [(0, 3), (1, 3)], 2, 16, [.int .i64 0, .int .i64 0], (false, true)⟩,
  none,
  some ⟨.other, 1, 8, [.nilFunc], (false, false)⟩,
  some ⟨.other, 1, 8, [.nilFunc], (false, false)⟩,
  some ⟨.other, 1, 8, [.nilFunc], (false, false)⟩,
  some ⟨.struct [(0, 3), (1, 3), (2, 3)], 3, 24, [.int .i64 0, .int .i64 0, .int .i64 0], (false, false)⟩,
  some ⟨.struct [(0, 3), (1, 3), (2, 3)], 3, 24, [.int .i64 0, .int .i64 0, .int .i64 0], (false, true)⟩,
  some ⟨.other, 1, 8, [.nilFunc], (false, false)⟩,
  some ⟨.other, 1, 8, [.nilFunc], (false, false)⟩,
  some ⟨.other, 1, 8, [.nilFunc], (false, false)⟩,
  some ⟨.slice 4, 1, 24, [.slice none 0 0], (false, false)⟩,
  none,
  some ⟨.other, 1, 8, [.nilFunc], (false, false)⟩,
  none,
  some ⟨.other, 1, 8, [.nilFunc], (false, false)⟩,
  some ⟨.other, 1, 8, [.nilFunc], (false, false)⟩,
  some ⟨.int .u64, 1, 8, [.int .u64 0], (false, false)⟩,
  some ⟨.slice 53, 1, 24, [.slice none 0 0], (false, false)⟩,
  some ⟨.other, 1, 8, [.nilFunc], (false, false)⟩,
  some ⟨.slice 3, 1, 24, [.slice none 0 0], (false, false)⟩,
  some ⟨.other, 1, 8, [.nilFunc], (false, false)⟩,
  some ⟨.other, 1, 8, [.nilFunc], (false, false)⟩,
  some ⟨.struct [(0, 3), (1, 3), (2, 3)], 3, 24, [.int .i64 0, .int .i64 0, .int .i64 0], (false, false)⟩,
  some ⟨.struct [(0, 3), (1, 3), (2, 3)], 3, 24, [.int .i64 0, .int .i64 0, .int .i64 0], (false, true)⟩,
  some ⟨.other, 1, 8, [.nilFunc], (false, false)⟩,
  some ⟨.slice 5, 1, 24, [.slice none 0 0], (false, false)⟩,
  some ⟨.other, 1, 8, [.nilFunc], (false, false)⟩,
  some ⟨.struct [(0, 3), (1, 3), (2, 3)], 3, 24, [.int .i64 0, .int .i64 0, .int .i64 0], (false, true)⟩,
  some ⟨.other, 1, 8, [.nilFunc], (false, false)⟩,
  some ⟨.struct [(0, 3), (1, 3), (2, 3), (3, 3)], 4, 32, [.int .i64 0, .int .i64 0, .int .i64 0, .int .i64 0], (false, false)⟩,
  some ⟨.struct [(0, 3), (1, 3), (2, 3), (3, 3)], 4, 32, [.int .i64 0, .int .i64 0, .int .i64 0, .int .i64 0], (false, true)⟩,
  some ⟨.other, 1, 8, [.nilFunc], (false, false)⟩,
  none,
  some ⟨.other, 1, 8, [.nilFunc], (false, false)⟩,
  some ⟨.struct [(0, 3), (1, 3), (2, 3), (3, 3)], 4, 32, [.int .i64 0, .int .i64 0, .int .i64 0, .int .i64 0], (false, true)⟩,
  some ⟨.other, 1, 8, [.nilFunc], (false, false)⟩,
  none,
  some ⟨.other, 1, 8, [.nilFunc], (false, false)⟩,
  some ⟨.other, 1, 8, [.nilFunc], (false, false)⟩,
  some ⟨.other, 1, 8, [.nilFunc], (false, false)⟩,
  some ⟨.other, 1, 8, [.nilFunc], (false, false)⟩,
  some ⟨.other, 1, 8, [.nilFunc], (false, false)⟩,
  some ⟨.other, 1, 8, [.nilFunc], (false, false)⟩,
  some ⟨.other, 1, 8, [.nilFunc], (false, false)⟩,
  some ⟨.other, 1, 8, [.nilFunc], (false, false)⟩,
  some ⟨.other, 1, 8, [.nilFunc], (false, false)⟩,
  some ⟨.other, 1, 8, [.nilFunc], (false, false)⟩,
  some ⟨.other, 1, 8, [.nilFunc], (false, false)⟩,
  some ⟨.other, 1, 8, [.nilFunc], (false, false)⟩,
  some ⟨.struct [(0, 3), (1, 3), (2, 3)], 3, 24, [.int .i64 0, .int .i64 0, .int .i64 0], (false, false)⟩,
  some ⟨.struct [(0, 3), (1, 3), (2, 3)], 3, 24, [.int .i64 0, .int .i64 0, .int .i64 0], (false, true)⟩,
  some ⟨.struct [(0, 81)], 1, 8, [.nilFunc], (false, false)⟩,
  some ⟨.struct [(0, 81)], 1, 8, [.nilFunc], (false, false)⟩,
  some ⟨.other, 1, 8, [.nilFunc], (false, false)⟩,
  none,
  some ⟨.other, 1, 8, [.nilFunc], (false, false)⟩,
  some ⟨.other, 1, 8, [.nilFunc], (false, false)⟩,
  some ⟨.other, 1, 8, [.nilFunc], (false, false)⟩,
  some ⟨.other, 1, 8, [.nilFunc], (false, false)⟩,
  some ⟨.other, 1, 8, [.nilFunc], (false, false)⟩,
  some ⟨.ptr 108, 1, 8, [.pointer none], (false, false)⟩,
  some ⟨.other, 1, 8, [.nilFunc], (false, false)⟩,
  some ⟨.other, 1, 8, [.nilFunc], (false, false)⟩,
  some ⟨.other, 1, 8, [.nilFunc], (false, false)⟩,
  some ⟨.other, 1, 8, [.nilFunc], (false, false)⟩,
  some ⟨.other, 1, 8, [.nilFunc], (false, false)⟩,
  some ⟨.other, 1, 8, [.nilFunc], (false, false)⟩,
  some ⟨.other, 1, 8, [.nilFunc], (false, false)⟩,
  some ⟨.arr 31 3, 31, 248, List.replicate 31 (.int .i64 0), (true, false)⟩,
  some ⟨.arr 31 102, 961, 7688, List.replicate 961 (.int .i64 0), (true, false)⟩,
  some ⟨.arr 31 102, 961, 7688, List.replicate 961 (.int .i64 0), (true, true)⟩,
  some ⟨.other, 1, 8, [.nilFunc], (false, false)⟩,
  some ⟨.map 111 84, 1, 8, [.map none], (false, false)⟩,
  some ⟨.struct [(0, 31), (2, 3), (3, 104), (964, 106)], 965, 7736, [.int .i64 0, .slice none 0 0] ++ List.replicate 962 (.int .i64 0) ++ [.map none], (true, false)⟩,
  some ⟨.struct [(0, 31), (2, 3), (3, 104), (964, 106)], 965, 7736, [.int .i64 0, .slice none 0 0] ++ List.replicate 962 (.int .i64 0) ++ [.map none], (true, false)⟩,
  some ⟨.other, 1, 8, [.nilFunc], (false, false)⟩,
  some ⟨.struct [(0, 3), (1, 3), (2, 3)], 3, 24, [.int .i64 0, .int .i64 0, .int .i64 0], (false, false)⟩,
  some ⟨.struct [(0, 3), (1, 3), (2, 3)], 3, 24, [.int .i64 0, .int .i64 0, .int .i64 0], (false, true)⟩,
  none,
  some ⟨.other, 1, 8, [.nilFunc], (false, false)⟩,
  some ⟨.other, 1, 8, [.nilFunc], (false, false)⟩,
  some ⟨.other, 1, 8, [.nilFunc], (false, false)⟩,
  some ⟨.other, 1, 8, [.nilFunc], (false, false)⟩,
  some ⟨.other, 1, 8, [.nilFunc], (false, false)⟩,
  some ⟨.other, 1, 8, [.nilFunc], (false, false)⟩,
  some ⟨.struct [(0, 17), (1, 17), (2, 17), (3, 9)], 4, 40, [.pointer none, .pointer none, .pointer none, .string ByteArray.empty], (false, false)⟩,
  some ⟨.struct [(0, 17), (1, 17), (2, 17), (3, 9)], 4, 40, [.pointer none, .pointer none, .pointer none, .string ByteArray.empty], (false, false)⟩,
  some ⟨.arr 0 16, 0, 0, [], (true, false)⟩,
  some ⟨.struct [(0, 121)], 0, 0, [], (true, false)⟩,
  some ⟨.struct [(0, 121)], 0, 0, [], (true, false)⟩,
  some ⟨.int .u32, 1, 4, [.int .u32 0], (false, false)⟩,
  some ⟨.int .u8, 1, 1, [.int .u8 0], (false, false)⟩,
  some ⟨.int .u8, 1, 1, [.int .u8 0], (false, false)⟩,
  some ⟨.other, 1, 8, [.nilFunc], (false, false)⟩,
  some ⟨.ptr 5, 1, 8, [.pointer none], (false, false)⟩,
  some ⟨.int .i32, 1, 4, [.int .i32 0], (false, false)⟩,
  some ⟨.int .i32, 1, 4, [.int .i32 0], (false, false)⟩,
  some ⟨.struct [(0, 12), (1, 12), (2, 124), (3, 125), (4, 5), (5, 5), (6, 126), (7, 127), (8, 128), (9, 129), (10, 130)], 11, 48, [.int .u64 0, .int .u64 0, .int .u32 0, .int .u8 0, .int .u8 0, .int .u8 0, .int .u8 0, .nilFunc, .pointer none, .int .i32 0, .int .i32 0], (false, false)⟩,
  some ⟨.struct [(0, 12), (1, 12), (2, 124), (3, 125), (4, 5), (5, 5), (6, 126), (7, 127), (8, 128), (9, 129), (10, 130)], 11, 48, [.int .u64 0, .int .u64 0, .int .u32 0, .int .u8 0, .int .u8 0, .int .u8 0, .int .u8 0, .nilFunc, .pointer none, .int .i32 0, .int .i32 0], (false, false)⟩,
  some ⟨.other, 1, 8, [.pointer none], (false, false)⟩]

def tb : TB := fun t => match tys[t]? with
  | some (some y) => some y
  | _ => none

theorem tbOk : tyTable Try.prog tys = true := by kernel_rfl

theorem pg : PG Try.prog tb where
  ty t y h := by
    unfold tb at h
    split at h
    · rename_i z hz; cases h; exact tyTable_ok tbOk t _ hz
    · cases h
  mixed := by kernel_rfl
end Go.Ev.Ythmandhpmkfopaa

set_option linter.unusedVariables false
set_option linter.unusedSimpArgs false
namespace Go.Ev.Ythmandhpmkfopaa
open Go.Proofs

theorem within_pure (n lo hi : Int) : Pure Try.prog 39 [dI n, dI lo, dI hi] (dB (decide (lo ≤ n) && decide (n ≤ hi))) := by
  refine pure_of pg Try.func39 (by kernel_rfl) ?_
  ((conv => whnf); repeat (first | (refine ChL.l ?_; (conv => whnf)) | (refine ChC.r ?_; (conv => whnf))))
  repeat' (first | (apply kT (by assumption); ((conv => whnf); repeat (first | (refine ChL.l ?_; (conv => whnf)) | (refine ChC.r ?_; (conv => whnf))))) | (apply kF (by assumption); ((conv => whnf); repeat (first | (refine ChL.l ?_; (conv => whnf)) | (refine ChC.r ?_; (conv => whnf))))) | (apply kB <;> intro h <;> ((conv => whnf); repeat (first | (refine ChL.l ?_; (conv => whnf)) | (refine ChC.r ?_; (conv => whnf))))))
  all_goals (rw [h]; rfl)

def says (a r bad : Int) : Int := if bad ≤ a then 1 else if r ≤ bad then 2 else 3

theorem says_pure (t a r bad : Int) : Pure Try.prog 47 [.agg [dI t, dI a, dI r], dI bad] (dU (says a r bad)) := by
  refine pure_of pg Try.func47 (by kernel_rfl) ?_
  ((conv => whnf); repeat (first | (refine ChL.l ?_; (conv => whnf)) | (refine ChC.r ?_; (conv => whnf))))
  repeat' (first | (apply kT (by assumption); ((conv => whnf); repeat (first | (refine ChL.l ?_; (conv => whnf)) | (refine ChC.r ?_; (conv => whnf))))) | (apply kF (by assumption); ((conv => whnf); repeat (first | (refine ChL.l ?_; (conv => whnf)) | (refine ChC.r ?_; (conv => whnf))))) | (apply kB <;> intro h <;> ((conv => whnf); repeat (first | (refine ChL.l ?_; (conv => whnf)) | (refine ChC.r ?_; (conv => whnf))))))
  all_goals (simp only [decide_eq_true_eq, decide_eq_false_iff_not, ge_iff_le] at *; simp [oneD, says, *])

theorem takes_pure (t a r : Int) : Pure Try.prog 41 [.agg [dI t, dI a, dI r]] (dB (decide (1 ≤ t))) := by
  refine pure_of pg Try.func41 (by kernel_rfl) ?_
  ((conv => whnf); repeat (first | (refine ChL.l ?_; (conv => whnf)) | (refine ChC.r ?_; (conv => whnf))))
  rfl

theorem times_pure (l : List Int) (hl : l.length < 2 ^ 63) : Pure Try.prog 55 [.seq (l.map fun n => [dI n])] (dI (l.foldl mulI 1)) := by
  refine pure_of pg Try.func55 (by kernel_rfl) ?_
  ((conv => whnf); repeat (first | (refine ChL.l ?_; (conv => whnf)) | (refine ChC.r ?_; (conv => whnf))))
  refine ⟨[], [3, 6, 7, 8], [], 0, fun m s => ∃ k : Nat, k + m = l.length ∧ s = ⟨[(3, .d (dI ((l.take k).foldl mulI 1))), (6, .d (.seq (l.map fun n => [dI n]))), (7, .d (dI l.length)), (8, .d (dI k))], [], 0⟩, ?_, ?_⟩
  · ((conv => whnf); repeat (first | (refine ChL.l ?_; (conv => whnf)) | (refine ChC.r ?_; (conv => whnf))))
    exact ⟨l.length, 0, by simp, by simp⟩
  · rintro m _ ⟨k, hk, rfl⟩
    ((conv => whnf); repeat (first | (refine ChL.l ?_; (conv => whnf)) | (refine ChC.r ?_; (conv => whnf))))
    apply kB <;> intro h <;> ((conv => whnf); repeat (first | (refine ChL.l ?_; (conv => whnf)) | (refine ChC.r ?_; (conv => whnf))))
    · have hlt : k < l.length := by simpa using h
      refine ⟨k, [dI l[k]], rfl, by simp [hlt], rfl, ?_⟩
      ((conv => whnf); repeat (first | (refine ChL.l ?_; (conv => whnf)) | (refine ChC.r ?_; (conv => whnf))))
      refine ⟨m - 1, by omega, k + 1, by omega, ?_⟩
      have e1 : IntKind.i64.wrap ((k : Int) + 1) = ((k + 1 : Nat) : Int) := by rw [wrapI (by omega) (by omega)]; rfl
      rw [List.take_succ_eq_append_getElem hlt, List.foldl_append]
      simp [e1, mulI, dI]
    · have hge : l.length ≤ k := by simpa using h
      have : l.take k = l := List.take_of_length_le hge
      rw [this]
      rfl
end Go.Ev.Ythmandhpmkfopaa

namespace Go.Ev.Ythmandhpmkfopaa
open Go.Proofs
set_option linter.unusedVariables false
set_option linter.unusedSimpArgs false
abbrev rightO : Ob := .var false 79 [.d (.fn (.func 41) [] [])]
theorem all1_bor (t a r : Int) : Bor tb Try.prog 58 [.d (.agg [dI t, dI a, dI r]), .ref 0 0] [rightO] 1 (.d (dB (!decide (1 ≤ t)))) [(0, rightO)] := by
  refine bor_of pg Try.func58 (by kernel_rfl) ?_
  ((conv => whnf); repeat (first | (refine ChL.l ?_; (conv => whnf)) | (refine ChC.r ?_; (conv => whnf))))
  refine .inl ⟨_, takes_pure t a r, ?_⟩
  ((conv => whnf); repeat (first | (refine ChL.l ?_; (conv => whnf)) | (refine ChC.r ?_; (conv => whnf))))
  refine ⟨[], [0], ?_⟩
  ((conv => whnf); repeat (first | (refine ChL.l ?_; (conv => whnf)) | (refine ChC.r ?_; (conv => whnf))))
  exact ⟨rfl, rfl⟩
def stD (x : Int × Int × Int) : List D := [dI x.1, dI x.2.1, dI x.2.2]
theorem indexFunc_bor (l : List (Int × Int × Int)) (hl : l.length < 2 ^ 63) : Bor tb Try.prog 65 [.d (.seq (l.map stD)), .fn (.func 58) [] [.ref 0 0]] [rightO] 1 (.d (dI (match l.findIdx? (fun x => !decide (1 ≤ x.1)) with | some i => (i : Int) | none => -1))) [(0, rightO)] := by
  refine bor_of pg Try.func65 (by kernel_rfl) ?_
  ((conv => whnf); repeat (first | (refine ChL.l ?_; (conv => whnf)) | (refine ChC.r ?_; (conv => whnf))))
  refine ⟨[], [0, 1, 7, 8], [0], 1, fun m s => ∃ k : Nat, k + m = l.length ∧ (∀ i (h : i < k) (h' : i < l.length), decide (1 ≤ (l[i]).1) = true) ∧ s = ⟨[(0, .d (.seq (l.map stD))), (1, .fn (.func 58) [] [.ref 0 0]), (7, .d (dI l.length)), (8, .d (dI k))], [(0, rightO)], 1⟩, ?_, ?_⟩
  · ((conv => whnf); repeat (first | (refine ChL.l ?_; (conv => whnf)) | (refine ChC.r ?_; (conv => whnf))))
    exact ⟨l.length, 0, by simp, by simp, by simp⟩
  · rintro m _ ⟨k, hk, hall, rfl⟩
    ((conv => whnf); repeat (first | (refine ChL.l ?_; (conv => whnf)) | (refine ChC.r ?_; (conv => whnf))))
    apply kB <;> intro h <;> ((conv => whnf); repeat (first | (refine ChL.l ?_; (conv => whnf)) | (refine ChC.r ?_; (conv => whnf))))
    · have hlt : k < l.length := by simpa using h
      refine ⟨k, stD l[k], rfl, by simp [hlt], rfl, ?_⟩
      ((conv => whnf); repeat (first | (refine ChL.l ?_; (conv => whnf)) | (refine ChC.r ?_; (conv => whnf))))
      refine .inr ⟨[0], 1, _, _, all1_bor l[k].1 l[k].2.1 l[k].2.2, ?_⟩
      ((conv => whnf); repeat (first | (refine ChL.l ?_; (conv => whnf)) | (refine ChC.r ?_; (conv => whnf))))
      apply kB <;> intro h1 <;> ((conv => whnf); repeat (first | (refine ChL.l ?_; (conv => whnf)) | (refine ChC.r ?_; (conv => whnf))))
      · refine ⟨[], [0], ?_⟩
        ((conv => whnf); repeat (first | (refine ChL.l ?_; (conv => whnf)) | (refine ChC.r ?_; (conv => whnf))))
        refine ⟨?_, rfl⟩
        have hf : l.findIdx? (fun x => !decide (1 ≤ x.1)) = some k := by
          rw [List.findIdx?_eq_some_iff_getElem]
          exact ⟨hlt, h1, fun j hj => by simp [hall j hj (by omega)]⟩
        rw [hf]
        rfl
      · have e1 : IntKind.i64.wrap ((k : Int) + 1) = ((k + 1 : Nat) : Int) := by rw [wrapI (by omega) (by omega)]; rfl
        refine ⟨m - 1, by omega, k + 1, by omega, fun i hi hi' => ?_, ?_⟩
        · rcases Nat.lt_or_ge i k with h2 | h2
          · exact hall i h2 hi'
          · have : i = k := by omega
            subst this
            simpa using h1
        · simp [e1, dI]
    · have hge : l.length ≤ k := by simpa using h
      refine ⟨[], [0], ?_⟩
      ((conv => whnf); repeat (first | (refine ChL.l ?_; (conv => whnf)) | (refine ChC.r ?_; (conv => whnf))))
      refine ⟨?_, rfl⟩
      have hf : l.findIdx? (fun x => !decide (1 ≤ x.1)) = none := by
        rw [List.findIdx?_eq_none_iff]
        intro x hx
        obtain ⟨i, hi, rfl⟩ := List.mem_iff_getElem.1 hx
        simp [hall i (by omega) hi]
      rw [hf]
      rfl

theorem contains_bor (l : List (Int × Int × Int)) (hl : l.length < 2 ^ 63) : Bor tb Try.prog 57 [.d (.seq (l.map stD)), .fn (.func 58) [] [.ref 0 0]] [rightO] 1 (.d (dB (!l.all fun x => decide (1 ≤ x.1)))) [(0, rightO)] := by
  refine bor_of pg Try.func57 (by kernel_rfl) ?_
  ((conv => whnf); repeat (first | (refine ChL.l ?_; (conv => whnf)) | (refine ChC.r ?_; (conv => whnf))))
  refine .inr ⟨[0], 1, _, _, indexFunc_bor l hl, ?_⟩
  ((conv => whnf); repeat (first | (refine ChL.l ?_; (conv => whnf)) | (refine ChC.r ?_; (conv => whnf))))
  refine ⟨[], [0], ?_⟩
  ((conv => whnf); repeat (first | (refine ChL.l ?_; (conv => whnf)) | (refine ChC.r ?_; (conv => whnf))))
  refine ⟨?_, rfl⟩
  show A.d (dB (decide ((match l.findIdx? (fun x => !decide (1 ≤ x.1)) with | some i => (i : Int) | none => -1) ≥ 0))) = _
  congr 1
  cases h : l.findIdx? (fun x => !decide (1 ≤ x.1)) with
  | none =>
    rw [List.findIdx?_eq_none_iff] at h
    have : (l.all fun x => decide (1 ≤ x.1)) = true := by
      rw [List.all_eq_true]
      intro x hx
      simpa using h x hx
    simp [this]
  | some i =>
    rw [List.findIdx?_eq_some_iff_getElem] at h
    obtain ⟨h1, h2, _⟩ := h
    have : (l.all fun x => decide (1 ≤ x.1)) = false := by
      rw [Bool.eq_false_iff]
      intro h3
      have := List.all_eq_true.1 h3 _ (List.getElem_mem h1)
      rw [this] at h2
      cases h2
    rw [this]
    have : (i : Int) ≥ 0 := by omega
    simp [this]

theorem all_pure (l : List (Int × Int × Int)) (hl : l.length < 2 ^ 63) : Pure Try.prog 40 [.seq (l.map stD), .fn (.func 41) [] []] (dB (l.all fun x => decide (1 ≤ x.1))) := by
  refine pure_of pg Try.func40 (by kernel_rfl) ?_
  ((conv => whnf); repeat (first | (refine ChL.l ?_; (conv => whnf)) | (refine ChC.r ?_; (conv => whnf))))
  refine .inr ⟨[0], 1, _, _, contains_bor l hl, ?_⟩
  ((conv => whnf); repeat (first | (refine ChL.l ?_; (conv => whnf)) | (refine ChC.r ?_; (conv => whnf))))
  simp [oneD]
end Go.Ev.Ythmandhpmkfopaa

set_option linter.unusedVariables false
set_option linter.unusedSimpArgs false
namespace Go.Ev.Ythmandhpmkfopaa
open Go.Proofs
attribute [local irreducible] Pure Bor Iter
abbrev S3 := Int × Int × Int
abbrev wI (n : Int) : Int := IntKind.i64.wrap n
def chk (lot : Int) : List S3 → Int → S3 → Int
  | [], _, last => if last.2.2 ≠ wI (last.2.1 + 1) then 1 else 0
  | s :: r, taken, last => if s.1 > wI (lot - taken) then 1 else
      if s.2.1 < last.2.1 ∨ s.2.2 < last.2.2 ∨ ¬ (wI (s.2.1 + 1) ≤ s.2.2 ∧ s.2.2 ≤ wI (wI (taken + s.1) + 1)) then 1 else chk lot r (wI (taken + s.1)) s
def check (lot : Int) (l : List S3) : Int :=
  if (l.length : Int) > 3 then 3 else if ¬ (1 ≤ lot ∧ lot ≤ 30) ∨ l.length = 0 ∨ ¬ (∀ x ∈ l, 1 ≤ x.1) then 1 else chk lot l 0 (0, -1, 0)
abbrev plD (lot : Int) (l : List S3) : D := .agg [dI lot, .seq (l.map stD)]
theorem getD? (l : List S3) (k : Nat) (h : k < l.length) : (l.map stD)[k]? = some (stD l[k]) := by simp [h]
theorem check_pure (lot : Int) (l : List S3) (hl : l.length < 2 ^ 63) : Pure Try.prog 16 [plD lot l] (dI (check lot l)) := by
  refine pure_of pg Try.func16 (by kernel_rfl) ?_
  ((conv => whnf); repeat (first | (refine ChL.l ?_; (conv => whnf)) | (refine ChC.r ?_; (conv => whnf))))
  have hall := all_pure l hl
  repeat' (first | (first | (apply kT (by with_reducible first | rfl | assumption); ((conv => whnf); repeat (first | (refine ChL.l ?_; (conv => whnf)) | (refine ChC.r ?_; (conv => whnf))))) | (apply kF (by with_reducible first | rfl | assumption); ((conv => whnf); repeat (first | (refine ChL.l ?_; (conv => whnf)) | (refine ChC.r ?_; (conv => whnf))))) | (apply kB <;> intro _ <;> ((conv => whnf); repeat (first | (refine ChL.l ?_; (conv => whnf)) | (refine ChC.r ?_; (conv => whnf))))) | (refine .inl ⟨_, within_pure .., ?_⟩; ((conv => whnf); repeat (first | (refine ChL.l ?_; (conv => whnf)) | (refine ChC.r ?_; (conv => whnf)))))) | (refine .inl ⟨_, hall, ?_⟩; ((conv => whnf); repeat (first | (refine ChL.l ?_; (conv => whnf)) | (refine ChC.r ?_; (conv => whnf))))))
  case y.y.y.y =>
    (simp only [decide_eq_true_eq, decide_eq_false_iff_not, Bool.not_eq_true', Bool.not_eq_false', Bool.and_eq_true, Bool.and_eq_false_iff, Bool.or_eq_true, Bool.or_eq_false_iff, gt_iff_lt, ge_iff_le, bne_iff_ne, beq_iff_eq, ne_eq, beq_eq_false_iff_ne, bne_eq_false_iff_eq] at *)
    rename_i h3 h2 h1 h
    have e0 : check lot l = chk lot l 0 (0, -1, 0) := by
      unfold check
      rw [if_neg (by simpa using h3), if_neg]
      rintro (h' | h' | h')
      · exact h' h2
      · simp [h'] at h1
      · exact h' (by simpa using h)
    refine ⟨[], [1, 3, 4, 31, 32, 33], [0, 1], 2, fun m s => ∃ (k : Nat) (taken : Int) (last : S3), k + m = l.length ∧ chk lot (l.drop k) taken last = chk lot l 0 (0, -1, 0) ∧
      s = ⟨[(1, .ref 0 0), (3, .d (dI taken)), (4, .ref 1 0), (31, .d (.seq (l.map stD))), (32, .d (dI l.length)), (33, .d (dI k))], [(0, .var false 31 [.d (dI lot), .d (.seq (l.map stD))]), (1, .var false 61 [.d (dI last.1), .d (dI last.2.1), .d (dI last.2.2)])], 2⟩, ?_, ?_⟩
    · ((conv => whnf); repeat (first | (refine ChL.l ?_; (conv => whnf)) | (refine ChC.r ?_; (conv => whnf))))
      exact ⟨l.length, 0, 0, (0, -1, 0), by simp, rfl, by simp⟩
    · rintro m _ ⟨k, taken, last, hk, hc, rfl⟩
      ((conv => whnf); repeat (first | (refine ChL.l ?_; (conv => whnf)) | (refine ChC.r ?_; (conv => whnf))))
      apply kB <;> intro h <;> ((conv => whnf); repeat (first | (refine ChL.l ?_; (conv => whnf)) | (refine ChC.r ?_; (conv => whnf))))
      · have hlt : k < l.length := by simpa using h
        have hd : l.drop k = l[k] :: l.drop (k + 1) := (List.getElem_cons_drop ..).symm
        rw [hd] at hc
        have hq := getD? l k hlt
        generalize l[k] = q at hc hq
        have e1 : IntKind.i64.wrap ((k : Int) + 1) = ((k + 1 : Nat) : Int) := by rw [wrapI (by omega) (by omega)]; rfl
        refine ⟨k, stD q, rfl, hq, rfl, ?_⟩
        ((conv => whnf); repeat (first | (refine ChL.l ?_; (conv => whnf)) | (refine ChC.r ?_; (conv => whnf))))
        (repeat' (first | (apply kT (by with_reducible first | rfl | assumption); ((conv => whnf); repeat (first | (refine ChL.l ?_; (conv => whnf)) | (refine ChC.r ?_; (conv => whnf))))) | (apply kF (by with_reducible first | rfl | assumption); ((conv => whnf); repeat (first | (refine ChL.l ?_; (conv => whnf)) | (refine ChC.r ?_; (conv => whnf))))) | (apply kB <;> intro _ <;> ((conv => whnf); repeat (first | (refine ChL.l ?_; (conv => whnf)) | (refine ChC.r ?_; (conv => whnf))))) | (refine .inl ⟨_, within_pure .., ?_⟩; ((conv => whnf); repeat (first | (refine ChL.l ?_; (conv => whnf)) | (refine ChC.r ?_; (conv => whnf)))))))
        all_goals clear hd
        all_goals (simp only [decide_eq_true_eq, decide_eq_false_iff_not, Bool.not_eq_true', Bool.not_eq_false', Bool.and_eq_true, Bool.and_eq_false_iff, Bool.or_eq_true, Bool.or_eq_false_iff, gt_iff_lt, ge_iff_le, bne_iff_ne, beq_iff_eq, ne_eq, beq_eq_false_iff_ne, bne_eq_false_iff_eq] at *)
        case x => rw [e0, ← hc]; simp [chk, *]; rfl
        case y.x => rw [e0, ← hc]; simp [chk, *]; rfl
        case y.y.x => rw [e0, ← hc]; simp [chk, *]; rfl
        case y.y.y.x => 
          rename_i h
          have : ¬ (wI (q.2.1 + 1) ≤ q.2.2 ∧ q.2.2 ≤ wI (wI (taken + q.1) + 1)) := by
            rintro ⟨h1, h2⟩
            simp [h1, h2] at h
          rw [e0, ← hc]; simp [chk, *]; rfl
        case y.y.y.y =>
          rename_i h4 h3 h2 h1
          refine ⟨m - 1, by omega, k + 1, wI (taken + q.1), q, by omega, ?_, ?_⟩
          · rw [← hc]
            simp [chk, h1, h2, h3, h4]
          · simp [e1]
      · have hge : l.length ≤ k := by simpa using h
        rw [List.drop_of_length_le hge] at hc
        apply kB <;> intro h <;> ((conv => whnf); repeat (first | (refine ChL.l ?_; (conv => whnf)) | (refine ChC.r ?_; (conv => whnf))))
        all_goals (simp only [decide_eq_true_eq, decide_eq_false_iff_not, Bool.not_eq_true', Bool.not_eq_false', Bool.and_eq_true, Bool.and_eq_false_iff, Bool.or_eq_true, Bool.or_eq_false_iff, gt_iff_lt, ge_iff_le, bne_iff_ne, beq_iff_eq, ne_eq, beq_eq_false_iff_ne, bne_eq_false_iff_eq] at *)
        all_goals (rw [e0, ← hc]; simp [chk, h]; rfl)
  all_goals (simp only [decide_eq_true_eq, decide_eq_false_iff_not, Bool.not_eq_true', Bool.not_eq_false', Bool.and_eq_true, Bool.and_eq_false_iff, Bool.or_eq_true, Bool.or_eq_false_iff, gt_iff_lt, ge_iff_le, bne_iff_ne, beq_iff_eq, ne_eq, beq_eq_false_iff_ne, bne_eq_false_iff_eq] at *)
  case x => rename_i h; simp at h; simp [check, h]; rfl
  case y.x =>
    rename_i h1 h2
    simp at h1
    have : ¬ (1 ≤ lot ∧ lot ≤ 30) := by omega
    simp [check, Int.not_lt.2 h1, this]; rfl
  case y.y.x =>
    rename_i h1 h2 h3
    simp at h1 h3
    subst h3
    simp [check]; rfl
  case y.y.y.x =>
    rename_i h1 h2 h3 h4
    simp at h1 h3
    have : ¬ ∀ x ∈ l, 1 ≤ x.1 := by
      intro h5
      rw [List.all_eq_true.2 (fun x hx => by simpa using h5 x hx)] at h4
      cases h4
    unfold check
    rw [if_neg (by simpa using h1), if_pos (.inr (.inr this))]; rfl
end Go.Ev.Ythmandhpmkfopaa

set_option linter.unusedVariables false
set_option linter.unusedSimpArgs false
namespace Go.Ev.Ythmandhpmkfopaa
open Go.Proofs
attribute [local irreducible] Pure Bor Iter
def C : Nat → Nat → Nat
  | _, 0 => 1
  | 0, _ + 1 => 0
  | n + 1, k + 1 => C n k + C n (k + 1)
theorem C_le : ∀ n k, C n k ≤ 2 ^ n
  | n, 0 => by rw [C.eq_def]; cases n <;> exact Nat.one_le_two_pow
  | 0, _ + 1 => Nat.zero_le _
  | n + 1, k + 1 => by
    rw [C]
    have h1 := C_le n k
    have h2 := C_le n (k + 1)
    have : 2 ^ (n + 1) = 2 ^ n + 2 ^ n := by omega
    omega
theorem C_zero : ∀ n k, n < k → C n k = 0
  | _, 0, h => by omega
  | 0, _ + 1, _ => rfl
  | n + 1, k + 1, h => by rw [C, C_zero n k (by omega), C_zero n (k + 1) (by omega)]
theorem C_step (n k : Nat) : C (n + 1) (k + 1) = C n k + C n (k + 1) := rfl
theorem C_pos : ∀ n k, k ≤ n → 0 < C n k
  | 0, 0, _ => Nat.one_pos
  | n + 1, 0, _ => Nat.one_pos
  | n + 1, k + 1, h => by rw [C]; have := C_pos n k (by omega); omega
theorem C_one (n : Nat) : C n 0 = 1 := by cases n <;> rfl
def cF (N : Nat) (f : Nat → Int) : List D := (List.range N).map fun i => dI (f i)
theorem cF_get {N : Nat} {f : Nat → Int} {i : Nat} (h : i < N) : (cF N f)[i]? = some (dI (f i)) := by simp [cF, h]
theorem cF_getA {N : Nat} {f : Nat → Int} {i : Nat} (h : i < N) : ((cF N f).map A.d)[i]? = some (.d (dI (f i))) := by simp [cF, h]
theorem cF_set {N : Nat} {f g : Nat → Int} {i : Nat} {v : Int} (h1 : g i = v) (h2 : ∀ j, j ≠ i → g j = f j) : ((cF N f).map A.d).set i (.d (dI v)) = (cF N g).map A.d := by
  apply List.ext_getElem?
  intro j
  simp only [cF, List.getElem?_set, List.getElem?_map, List.length_map, List.length_range]
  by_cases hj : i = j
  · subst hj
    by_cases hn : i < N
    · simp [hn, h1]
    · simp [hn]
  · by_cases hn : j < N
    · simp [hn, hj, h2 j (Ne.symm hj)]
    · simp [hn, hj]
theorem cF_congr {N : Nat} {f g : Nat → Int} (h : ∀ i, i < N → f i = g i) : cF N f = cF N g := by
  unfold cF
  exact List.map_congr_left fun i hi => by rw [h i (List.mem_range.1 hi)]
theorem cF_len {N : Nat} {f : Nat → Int} : (cF N f).length = N := by simp [cF]
def val (i : Nat) : Int := (C (i / 31) (i % 31) : Nat)
/-- the triangle, as far as it is done -/
def upTo (m : Nat) : Nat → Int := fun i => if i < m then val i else 0
def tri : List D := cF 961 val
theorem val_at {n k : Nat} (h : k < 31) : val (n * 31 + k) = (C n k : Nat) := by
  unfold val
  have h1 : (n * 31 + k) / 31 = n := by omega
  have h2 : (n * 31 + k) % 31 = k := by omega
  rw [h1, h2]
theorem onlyD (os : List Nat) : ∀ l : List D, A.onlyL os (l.map A.d) = true
  | [] => rfl
  | x :: r => by rw [List.map_cons, A.onlyL, onlyD os r]; rfl
theorem rep_cF {N : Nat} {f : Nat → Int} (h : ∀ i, i < N → f i = 0) : (List.replicate N (Value.int .i64 0)).map (fun v => A.d (D.v v)) = (cF N f).map A.d := by
  apply List.ext_getElem?
  intro j
  by_cases hn : j < N
  · simp [cF, hn, h j hn]
  · simp [cF, hn]
theorem setv {N : Nat} {f g : Nat → Int} {i j : Nat} {v : Int} {cs : List A} (hcs : cs = (cF N f).map A.d) (hi : i = j) (h1 : g j = v) (h2 : ∀ l, l ≠ j → g l = f l) : cs.set i (.d (.v (.int .i64 v))) = (cF N g).map A.d := by
  subst hcs; subst hi; exact cF_set h1 h2
theorem getv {N : Nat} {f : Nat → Int} {i j : Nat} {cs : List A} (hcs : cs = (cF N f).map A.d) (hi : i = j) (h : j < N) : cs[i]? = some (.d (dI (f j))) := by
  subst hcs; subst hi; exact cF_getA h
theorem onlyE {os : List Nat} {l : List D} {cs : List A} (h : cs = l.map A.d) : A.onlyL os cs = true := by subst h; exact onlyD ..
theorem lenv {N : Nat} {f : Nat → Int} {i j : Nat} {cs : List A} (hcs : cs = (cF N f).map A.d) (hi : i = j) (h : j < N) : i < cs.length := by
  subst hcs; subst hi; rw [List.length_map, cF_len]; exact h
theorem up_at {m i : Nat} (h : i < m) : upTo m i = val i := if_pos h
theorem up_ge {m i : Nat} (h : ¬ i < m) : upTo m i = 0 := if_neg h
theorem up_step {m l : Nat} (h : l ≠ m) : upTo (m + 1) l = upTo m l := by
  by_cases h1 : l < m
  · rw [up_at h1, up_at (by omega)]
  · rw [up_ge h1, up_ge (by omega)]
attribute [local irreducible] cF upTo val C
theorem pascal_pure : Pure Try.prog 61 [] (.agg tri) := by
  refine pure_of pg Try.func61 (by kernel_rfl) ?_
  ((conv => whnf); repeat (first | (refine ChL.l ?_; (conv => whnf)) | (refine ChC.r ?_; (conv => whnf))))
  refine ⟨[], [0, 3], [0], 1, fun m s => ∃ (n : Nat) (cs : List A), n + m = 31 ∧ cs = (cF 961 (upTo (n * 31))).map A.d ∧ s = ⟨[(0, .ref 0 0), (3, .d (dI n))], [(0, .var true 104 cs)], 1⟩, ?_, ?_⟩
  · ((conv => whnf); repeat (first | (refine ChL.l ?_; (conv => whnf)) | (refine ChC.r ?_; (conv => whnf))))
    have e : List.map (fun v => A.d (D.v v)) (List.replicate 961 (Value.int IntKind.i64 0)) = (cF 961 (upTo (0 * 31))).map A.d := rep_cF fun i hi => by simp [upTo]
    refine ⟨onlyE e, ?_⟩
    · ((conv => whnf); repeat (first | (refine ChL.l ?_; (conv => whnf)) | (refine ChC.r ?_; (conv => whnf))))
      exact ⟨31, 0, _, rfl, e, rfl⟩
  · rintro m _ ⟨n, cs, hn, hcs, rfl⟩
    ((conv => whnf); repeat (first | (refine ChL.l ?_; (conv => whnf)) | (refine ChC.r ?_; (conv => whnf))))
    apply kB <;> intro h <;> ((conv => whnf); repeat (first | (refine ChL.l ?_; (conv => whnf)) | (refine ChC.r ?_; (conv => whnf))))
    · have hlt : n < 31 := by simp at h; omega
      refine ⟨n, rfl, hlt, ?_⟩
      ((conv => whnf); repeat (first | (refine ChL.l ?_; (conv => whnf)) | (refine ChC.r ?_; (conv => whnf))))
      refine ⟨0, rfl, by omega, ?_⟩
      ((conv => whnf); repeat (first | (refine ChL.l ?_; (conv => whnf)) | (refine ChC.r ?_; (conv => whnf))))
      refine ⟨lenv (j := n * 31) hcs (by dsimp only; omega) (by omega), ?_⟩
      ((conv => whnf); repeat (first | (refine ChL.l ?_; (conv => whnf)) | (refine ChC.r ?_; (conv => whnf))))
      refine ⟨[], [0, 1, 2, 3], [0], 1, fun m s => ∃ (k : Nat) (cs : List A), 1 ≤ k ∧ k ≤ n + 1 ∧ k + m = n + 1 + 1 ∧ cs = (cF 961 (upTo (n * 31 + k))).map A.d ∧ s = ⟨[(0, .ref 0 0), (1, .d (dI n)), (2, .d (dI k)), (3, .d (dI n))], [(0, .var true 104 cs)], 1⟩, ?_, ?_⟩
      · ((conv => whnf); repeat (first | (refine ChL.l ?_; (conv => whnf)) | (refine ChC.r ?_; (conv => whnf))))
        have e := setv (g := upTo (n * 31 + 1)) (j := n * 31) (i := 0 + n * 31 + 0 * 1) (v := 1) hcs (by omega) ((up_at (by omega)).trans ((val_at (n := n) (k := 0) (by omega)).trans (by rw [C_one]; rfl))) fun l hl => up_step hl
        refine ⟨onlyE e, ?_⟩
        ((conv => whnf); repeat (first | (refine ChL.l ?_; (conv => whnf)) | (refine ChC.r ?_; (conv => whnf))))
        exact ⟨n + 1, 1, _, by omega, by omega, by omega, e, rfl⟩
      · rintro m' _ ⟨k, cs, hk1, hk3, hk2, hcs, rfl⟩
        ((conv => whnf); repeat (first | (refine ChL.l ?_; (conv => whnf)) | (refine ChC.r ?_; (conv => whnf))))
        apply kB <;> intro h <;> ((conv => whnf); repeat (first | (refine ChL.l ?_; (conv => whnf)) | (refine ChC.r ?_; (conv => whnf))))
        · have hkn : k ≤ n := by simp at h; omega
          have w1 : IntKind.i64.wrap ((n : Int) - 1) = ((n - 1 : Nat) : Int) := by rw [wrapI (by omega) (by omega)]; omega
          have w2 : IntKind.i64.wrap ((k : Int) - 1) = ((k - 1 : Nat) : Int) := by rw [wrapI (by omega) (by omega)]; omega
          have w3 : IntKind.i64.wrap ((k : Int) + 1) = ((k + 1 : Nat) : Int) := by rw [wrapI (by omega) (by omega)]; rfl
          refine ⟨n - 1, w1, by omega, ?_⟩
          ((conv => whnf); repeat (first | (refine ChL.l ?_; (conv => whnf)) | (refine ChC.r ?_; (conv => whnf))))
          refine ⟨k - 1, w2, by omega, ?_⟩
          ((conv => whnf); repeat (first | (refine ChL.l ?_; (conv => whnf)) | (refine ChC.r ?_; (conv => whnf))))
          refine ⟨_, getv (j := (n - 1) * 31 + (k - 1)) hcs (by dsimp only; omega) (by omega), ?_⟩
          rw [up_at (by omega), val_at (by omega)]
          ((conv => whnf); repeat (first | (refine ChL.l ?_; (conv => whnf)) | (refine ChC.r ?_; (conv => whnf))))
          refine ⟨n - 1, w1, by omega, ?_⟩
          ((conv => whnf); repeat (first | (refine ChL.l ?_; (conv => whnf)) | (refine ChC.r ?_; (conv => whnf))))
          refine ⟨k, rfl, by omega, ?_⟩
          ((conv => whnf); repeat (first | (refine ChL.l ?_; (conv => whnf)) | (refine ChC.r ?_; (conv => whnf))))
          refine ⟨_, getv (j := (n - 1) * 31 + k) hcs (by dsimp only; omega) (by omega), ?_⟩
          rw [up_at (by omega), val_at (by omega)]
          ((conv => whnf); repeat (first | (refine ChL.l ?_; (conv => whnf)) | (refine ChC.r ?_; (conv => whnf))))
          refine ⟨n, rfl, by omega, ?_⟩
          ((conv => whnf); repeat (first | (refine ChL.l ?_; (conv => whnf)) | (refine ChC.r ?_; (conv => whnf))))
          refine ⟨k, rfl, by omega, ?_⟩
          ((conv => whnf); repeat (first | (refine ChL.l ?_; (conv => whnf)) | (refine ChC.r ?_; (conv => whnf))))
          refine ⟨lenv (j := n * 31 + k) hcs (by dsimp only; omega) (by omega), ?_⟩
          ((conv => whnf); repeat (first | (refine ChL.l ?_; (conv => whnf)) | (refine ChC.r ?_; (conv => whnf))))
          have w4 : IntKind.i64.wrap (((C (n - 1) (k - 1) : Nat) : Int) + ((C (n - 1) k : Nat) : Int)) = ((C n k : Nat) : Int) := by
            obtain ⟨n', rfl⟩ : ∃ n', n = n' + 1 := ⟨n - 1, by omega⟩
            obtain ⟨k', rfl⟩ : ∃ k', k = k' + 1 := ⟨k - 1, by omega⟩
            have h1 := C_le (n' + 1) (k' + 1)
            have h2 : 2 ^ (n' + 1) ≤ 2 ^ 31 := Nat.pow_le_pow_right (by omega) (by omega)
            have h3 : C (n' + 1) (k' + 1) = C n' k' + C n' (k' + 1) := C_step ..
            simp only [Nat.add_sub_cancel]
            rw [wrapI (by omega) (by omega), h3]
            omega
          rw [w4, w3]
          have e := setv (g := upTo (n * 31 + k + 1)) (j := n * 31 + k) (i := 0 + n * 31 + k * 1) (v := (C n k : Nat)) hcs (by omega) ((up_at (by omega)).trans (val_at (by omega))) fun l hl => up_step hl
          refine ⟨onlyE e, ?_⟩
          ((conv => whnf); repeat (first | (refine ChL.l ?_; (conv => whnf)) | (refine ChC.r ?_; (conv => whnf))))
          exact ⟨m' - 1, by omega, k + 1, _, by omega, by omega, by omega, e, rfl⟩
        · have hkn : k = n + 1 := by simp at h; omega
          subst hkn
          refine ⟨onlyE hcs, ?_⟩
          ((conv => whnf); repeat (first | (refine ChL.l ?_; (conv => whnf)) | (refine ChC.r ?_; (conv => whnf))))
          have w3 : IntKind.i64.wrap ((n : Int) + 1) = ((n + 1 : Nat) : Int) := by rw [wrapI (by omega) (by omega)]; rfl
          rw [w3]
          refine ⟨m - 1, by omega, n + 1, cs, by omega, hcs.trans ?_, rfl⟩
          congr 2
          funext i
          by_cases h1 : i < n * 31 + (n + 1)
          · rw [up_at h1, up_at (by omega)]
          · rw [up_ge h1]
            by_cases h2 : i < (n + 1) * 31
            · rw [up_at h2]
              have := val_at (n := n) (k := i - n * 31) (by omega)
              rw [show n * 31 + (i - n * 31) = i by omega] at this
              rw [this, C_zero n _ (by omega)]
              rfl
            · rw [up_ge h2]
    · have hn31 : n = 31 := by simp at h; omega
      subst hn31
      have hc : cs = tri.map A.d := by
        rw [hcs]
        unfold tri
        exact congrArg _ (cF_congr fun i hi => up_at (by omega))
      have hl : tri.length = 961 := by unfold tri; exact cF_len
      have hcl : cs.length = 961 := by rw [hc, List.length_map, hl]
      refine ⟨tri, ?_, hl, ?_⟩
      · show List.take 961 cs = _
        rw [List.take_of_length_le (by omega), hc]
      ((conv => whnf); repeat (first | (refine ChL.l ?_; (conv => whnf)) | (refine ChC.r ?_; (conv => whnf))))
      refine ⟨tri.map A.d, rfl, by rw [List.length_map]; exact hl, by rw [List.length_map, hl, hcl]; decide, ?_, ?_⟩
      · rw [List.all_eq_true]
        intro x hx
        obtain ⟨d, hd, rfl⟩ := List.mem_map.1 hx
        unfold tri cF at hd
        obtain ⟨i, _, rfl⟩ := List.mem_map.1 hd
        rfl
      ((conv => whnf); repeat (first | (refine ChL.l ?_; (conv => whnf)) | (refine ChC.r ?_; (conv => whnf))))
      refine ⟨tri, ?_, hl, rfl⟩
      show List.take 961 (List.drop 0 (cs.take 0 ++ List.map A.d tri ++ cs.drop (0 + (List.map A.d tri).length))) = _
      have h1 : cs.drop (0 + (List.map A.d tri).length) = [] := List.drop_of_length_le (by rw [List.length_map, hl, hcl]; decide)
      rw [h1]
      simp only [List.take_zero, List.nil_append, List.append_nil, List.drop_zero]
      exact List.take_of_length_le (by rw [List.length_map, hl]; decide)
end Go.Ev.Ythmandhpmkfopaa

set_option linter.unusedVariables false
set_option linter.unusedSimpArgs false
set_option maxRecDepth 100000
namespace Go.Ev.Ythmandhpmkfopaa
open Go.Proofs
attribute [local irreducible] Pure Bor Iter
theorem tri_one (d : D) (hd : d ∈ tri) : (A.d d).one = true := by
  unfold tri cF at hd
  obtain ⟨i, _, rfl⟩ := List.mem_map.1 hd
  rfl
theorem tri_len : tri.length = 961 := cF_len
attribute [local irreducible] tri
/-- the cells of a work -/
def wkC (lot : Int) (l : List S3) (bad : Int) (x : A) : List A := .d (dI lot) :: .d (.seq (l.map stD)) :: .d (dI bad) :: (tri.map A.d ++ [x])
theorem fillA_step {tb : TB} {fs : List (Nat × TypeId)} {cells : List A} {i off : Nat} {t : TypeId} {y : Ty} {x : A} {xs : List A} {r : List (Nat × A)} {K : List A → Prop} (h1 : fs[i]? = some (off, t)) (h2 : tb t = some y) (h3 : cellsOf x = some xs) (h4 : xs.length = y.size) (h5 : off + xs.length ≤ cells.length)
    (h : fillA tb fs (putAt cells off xs) r K) : fillA tb fs cells ((i, x) :: r) K := by
  simp only [fillA, h1, h2]
  rw [withCells_eq]
  refine ⟨xs, h3, ?_⟩
  have : (Nat.beq xs.length y.size && Nat.ble (off + xs.length) cells.length) = true := by
    rw [Bool.and_eq_true]
    exact ⟨by rw [h4]; simp, by rw [Nat.ble_eq]; exact h5⟩
  rw [this, cond_true, fL_eq]
  exact h
theorem fill_wk (lot : Int) (l : List S3) (bad : Int) (n : Nat) : fillA tb [(0, 31), (2, 3), (3, 104), (964, 106)]
        (List.map (fun v => A.d (D.v v)) ([Value.int IntKind.i64 0, Value.slice none 0 0] ++ List.replicate 962 (Value.int IntKind.i64 0) ++ [Value.map none]))
        [(0, .d (plD lot l)), (1, .d (dI bad)), (2, .d (.agg tri)), (3, .own n)] fun cs' => cs' = wkC lot l bad (.own n) := by
  obtain ⟨z, hz⟩ : ∃ z : List A, z = List.replicate 962 (A.d (D.v (.int .i64 0))) ++ [A.d (D.v (Value.map none))] := ⟨_, rfl⟩
  have hzl : z.length = 963 := by rw [hz, List.length_append, List.length_replicate]; rfl
  have e : List.map (fun v => A.d (D.v v)) ([Value.int IntKind.i64 0, Value.slice none 0 0] ++ List.replicate 962 (Value.int IntKind.i64 0) ++ [Value.map none]) = .d (D.v (.int .i64 0)) :: .d (D.v (.slice none 0 0)) :: z := by
    rw [hz, List.map_append, List.map_append, List.map_replicate]; rfl
  rw [e]
  have ht : (tri.map A.d).length = 961 := by rw [List.length_map]; exact tri_len
  refine fillA_step (off := 0) (t := 31) rfl rfl rfl rfl (by simp) ?_
  have e1 : putAt (A.d (D.v (.int .i64 0)) :: .d (D.v (.slice none 0 0)) :: z) 0 ([dI lot, D.seq (l.map stD)].map A.d) = .d (dI lot) :: .d (.seq (l.map stD)) :: z := by simp [putAt]
  rw [e1]
  refine fillA_step (off := 2) (t := 3) rfl rfl rfl rfl (by simp; omega) ?_
  obtain ⟨a, z', hz'⟩ : ∃ a z', z = a :: z' := by cases z with | nil => simp at hzl | cons a z' => exact ⟨a, z', rfl⟩
  have hzl' : z'.length = 962 := by rw [hz'] at hzl; simpa using hzl
  subst hz'
  have e2 : putAt (A.d (dI lot) :: .d (.seq (l.map stD)) :: a :: z') 2 [.d (dI bad)] = .d (dI lot) :: .d (.seq (l.map stD)) :: .d (dI bad) :: z' := by simp [putAt]
  rw [e2]
  refine fillA_step (off := 3) (t := 104) rfl rfl rfl ht (by rw [ht]; simp; omega) ?_
  have e3 : putAt (A.d (dI lot) :: .d (.seq (l.map stD)) :: .d (dI bad) :: z') 3 (tri.map A.d) = .d (dI lot) :: .d (.seq (l.map stD)) :: .d (dI bad) :: (tri.map A.d ++ z'.drop 961) := by
    unfold putAt
    rw [ht]
    simp
  rw [e3]
  refine fillA_step (off := 964) (t := 106) rfl rfl rfl rfl (by have := tri_len; simp; omega) ?_
  have e4 : putAt (A.d (dI lot) :: .d (.seq (l.map stD)) :: .d (dI bad) :: (tri.map A.d ++ z'.drop 961)) 964 [.own n] = wkC lot l bad (.own n) := by
    unfold putAt wkC
    simp only [List.length_singleton, List.take_succ_cons, List.drop_succ_cons, List.cons_append]
    have h1 : List.take 961 (tri.map A.d ++ z'.drop 961) = tri.map A.d := by
      rw [List.take_append_of_le_length (by rw [ht]; exact Nat.le_refl _), List.take_of_length_le (by rw [ht]; exact Nat.le_refl _)]
    have h2 : List.drop 962 (tri.map A.d ++ z'.drop 961) = [] := List.drop_of_length_le (by rw [List.length_append, List.length_drop, ht, hzl']; decide)
    rw [h1, h2]
    simp
  rw [e4]
  rfl
theorem wk_one (lot : Int) (l : List S3) (bad : Int) (x : A) (hx : x.one = true) : (wkC lot l bad x).all A.one = true := by
  unfold wkC
  simp only [List.all_cons, List.all_append, List.all_nil, hx, Bool.and_true]
  have h : ∀ d ∈ tri, (A.d d).one = true := by
    intro d hd
    exact tri_one d hd
  rw [show ((A.d (dI lot)).one && ((A.d (D.seq (List.map stD l))).one && ((A.d (dI bad)).one && (List.map A.d tri).all A.one))) = (List.map A.d tri).all A.one from rfl, List.all_eq_true]
  intro y hy
  obtain ⟨d, hd, rfl⟩ := List.mem_map.1 hy
  exact h d hd
theorem wk_inv (ρ : List Nat) (lot : Int) (l : List S3) (bad : Int) (x : A) : invAL ρ (wkC lot l bad x) = wkC lot l bad (invA ρ x) := by
  unfold wkC
  simp only [invAL, invA]
  congr 3
  generalize tri = t
  induction t with
  | nil => rfl
  | cons d t ih => rw [List.map_cons, List.cons_append, invAL, ih, invA]; rfl
theorem wk_only (os : List Nat) (lot : Int) (l : List S3) (bad : Int) (x : A) (h : x.onlyB os = true) : A.onlyL os (wkC lot l bad x) = true := by
  unfold wkC
  simp only [A.onlyL, A.onlyB, Bool.true_and]
  generalize tri = t
  induction t with
  | nil => simp [A.onlyL, h]
  | cons d t ih => rw [List.map_cons, List.cons_append, A.onlyL, ih, A.onlyB]; rfl
theorem on_bor0 (lot : Int) (l : List S3) (bad : Int) : Bor tb Try.prog 53 [.d (plD lot l), .d (dI bad)] [] 2 (.ref 21 0) [(13, .map 111 84 []), (21, .ro 108 (wkC lot l bad (.own 13)))] := by
  refine bor_of pg Try.func53 (by kernel_rfl) ?_
  ((conv => whnf); repeat (first | (refine ChL.l ?_; (conv => whnf)) | (refine ChC.r ?_; (conv => whnf))))
  refine .inl ⟨_, pascal_pure, ?_⟩
  ((conv => whnf); repeat (first | (refine ChL.l ?_; (conv => whnf)) | (refine ChC.r ?_; (conv => whnf))))
  refine ⟨wkC lot l bad (.own 13), fill_wk .., ?_⟩
  ((conv => whnf); repeat (first | (refine ChL.l ?_; (conv => whnf)) | (refine ChC.r ?_; (conv => whnf))))
  refine ⟨wk_one lot l bad _ rfl, ?_⟩
  ((conv => whnf); repeat (first | (refine ChL.l ?_; (conv => whnf)) | (refine ChC.r ?_; (conv => whnf))))
  refine ⟨[21], [13, 21], ?_⟩
  ((conv => whnf); repeat (first | (refine ChL.l ?_; (conv => whnf)) | (refine ChC.r ?_; (conv => whnf))))
  refine ⟨wk_only _ lot l bad _ rfl, ?_⟩
  ((conv => whnf); repeat (first | (refine ChL.l ?_; (conv => whnf)) | (refine ChC.r ?_; (conv => whnf))))
  exact ⟨rfl, rfl⟩
theorem on_bor (lot : Int) (l : List S3) (bad : Int) : Bor tb Try.prog 53 [.d (plD lot l), .d (dI bad)] [] 2 (.ref 1 0) [(0, .map 111 84 []), (1, .ro 108 (wkC lot l bad (.own 0)))] := by
  have h := (on_bor0 lot l bad).mv (N' := 2) [13, 21] rfl rfl rfl
  have e : renP [13, 21] (lookO [(13, .map 111 84 []), (21, .ro 108 (wkC lot l bad (.own 13)))]) 0 [13, 21] = [(0, .map 111 84 []), (1, .ro 108 (invAL [13, 21] (wkC lot l bad (.own 13))))] := rfl
  rw [e, wk_inv] at h
  exact h
end Go.Ev.Ythmandhpmkfopaa

set_option linter.unusedVariables false
set_option linter.unusedSimpArgs false
set_option maxRecDepth 100000
namespace Go.Ev.Ythmandhpmkfopaa
open Go.Proofs
theorem mul_eq {a b : Nat} (h : a * b < 2 ^ 63) (ha : a < 2 ^ 63) : mulI (mulI 1 a) b = ((a * b : Nat) : Int) := by
  have e1 : IntKind.i64.wrap (a : Int) = a := wrapI (by omega) (by omega)
  have e2 : ((a : Int) * b) = ((a * b : Nat) : Int) := (Int.natCast_mul a b).symm
  unfold mulI
  rw [Int.one_mul, e1, e2, wrapI (by omega) (by omega)]
theorem times2_pure (a b : Int) : Pure Try.prog 55 [.seq [[dI a], [dI b]]] (dI (mulI (mulI 1 a) b)) := times_pure [a, b] (by simp)
attribute [local irreducible] Pure Bor Iter tri C
/-- the stages fit into the lot -/
def Fit (lot : Nat) : Nat → List S3 → Prop
  | _, [] => True
  | taken, s :: r => ∃ t : Nat, s.1 = t ∧ 1 ≤ t ∧ taken + t ≤ lot ∧ Fit lot (taken + t) r
def restN (lot : Nat) : Nat → List S3 → Nat
  | _, [] => 1
  | taken, s :: r => C (lot - taken) s.1.toNat * restN lot (taken + s.1.toNat) r
theorem term_pair (m : Nat) : ∀ N k : Nat, C N k * m ^ (N - k) + C N (k + 1) * m ^ (N - (k + 1)) ≤ (m + 1) ^ N
  | 0, k => by
    cases k with
    | zero => rw [C_one, C_zero 0 1 (by omega)]; simp
    | succ k => rw [C_zero 0 (k + 1) (by omega), C_zero 0 (k + 2) (by omega)]; simp
  | N + 1, 0 => by
    have ih := term_pair m N 0
    rw [C_one, C_step, C_one]
    rw [C_one] at ih
    simp only [Nat.sub_zero, Nat.zero_add, Nat.one_mul, Nat.add_sub_cancel] at ih ⊢
    cases N with
    | zero => rw [C_zero 0 1 (by omega)]; simp
    | succ N =>
      have e1 : m ^ (N + 1 + 1) = m * m ^ (N + 1) := by rw [Nat.pow_succ, Nat.mul_comm]
      have e2 : (1 + C (N + 1) 1) * m ^ (N + 1) = m ^ (N + 1) + m * (C (N + 1) 1 * m ^ (N + 1 - 1)) := by
        rw [Nat.add_mul, Nat.one_mul, Nat.add_sub_cancel, Nat.pow_succ]
        simp only [Nat.mul_comm, Nat.mul_left_comm, Nat.mul_assoc, Nat.mul_add]
      have e3 : (m + 1) ^ (N + 1 + 1) = m * (m + 1) ^ (N + 1) + (m + 1) ^ (N + 1) := by
        rw [Nat.pow_succ (m := N + 1), Nat.mul_add, Nat.mul_one, Nat.mul_comm]
      rw [e1, e2, e3]
      have h1 := Nat.mul_le_mul_left m ih
      rw [Nat.mul_add] at h1
      have h2 : m ^ (N + 1) ≤ (m + 1) ^ (N + 1) := Nat.pow_le_pow_left (by omega) _
      omega
  | N + 1, k + 1 => by
    have i1 := term_pair m N k
    have i2 := term_pair m N (k + 1)
    rw [C_step, C_step]
    have key : ∀ j, C N (j + 1) * m ^ (N + 1 - (j + 1)) = m * (C N (j + 1) * m ^ (N - (j + 1))) := by
      intro j
      by_cases hj : j + 1 ≤ N
      · rw [show N + 1 - (j + 1) = (N - (j + 1)) + 1 by omega, Nat.pow_succ]
        simp only [Nat.mul_comm, Nat.mul_left_comm, Nat.mul_assoc, Nat.mul_add]
      · rw [C_zero N (j + 1) (by omega)]; simp
    have e1 : (C N k + C N (k + 1)) * m ^ (N + 1 - (k + 1)) = C N k * m ^ (N - k) + m * (C N (k + 1) * m ^ (N - (k + 1))) := by
      rw [Nat.add_mul, key k, show N + 1 - (k + 1) = N - k by omega]
    have e2 : (C N (k + 1) + C N (k + 1 + 1)) * m ^ (N + 1 - (k + 1 + 1)) = C N (k + 1) * m ^ (N - (k + 1)) + m * (C N (k + 1 + 1) * m ^ (N - (k + 1 + 1))) := by
      rw [Nat.add_mul, key (k + 1), show N + 1 - (k + 1 + 1) = N - (k + 1) by omega]
    rw [e1, e2]
    have e3 : (m + 1) ^ (N + 1) = m * (m + 1) ^ N + (m + 1) ^ N := by
      rw [Nat.pow_succ, Nat.mul_add, Nat.mul_one, Nat.mul_comm]
    rw [e3]
    have h2 := Nat.mul_le_mul_left m i2
    rw [Nat.mul_add] at h2
    omega
/-- a term that is less by a piece -/
theorem term_le (m n t : Nat) (ht : 1 ≤ t) (hn : t < n) : C n t * (m + 1) ^ (n - t - 1) ≤ (m + 2) ^ (n - 1) := by
  obtain ⟨n, rfl⟩ : ∃ n', n = n' + 1 := ⟨n - 1, by omega⟩
  obtain ⟨t, rfl⟩ : ∃ t', t = t' + 1 := ⟨t - 1, by omega⟩
  have h := term_pair (m + 1) n t
  rw [C_step, Nat.add_mul]
  have e : n + 1 - (t + 1) - 1 = n - (t + 1) := by omega
  rw [e]
  have h3 : C n t * (m + 1) ^ (n - (t + 1)) ≤ C n t * (m + 1) ^ (n - t) := Nat.mul_le_mul_left _ (Nat.pow_le_pow_right (by omega) (by omega))
  simp only [Nat.add_sub_cancel]
  show _ ≤ (m + 1 + 1) ^ n
  omega
theorem C_self : ∀ n, C n n = 1
  | 0 => C_one 0
  | n + 1 => by rw [C_step, C_self n, C_zero n (n + 1) (by omega)]
theorem rest_le (lot : Nat) : ∀ (r : List S3) (taken : Nat), Fit lot taken r → restN lot taken r ≤ (r.length + 1) ^ (lot - taken - 1)
  | [], taken, _ => by simp [restN]
  | s :: r, taken, h => by
    obtain ⟨t, h1, h2, h3, h4⟩ := h
    have ih := rest_le lot r (taken + t) h4
    rw [restN, h1, Int.toNat_natCast]
    by_cases he : taken + t = lot
    · have : r = [] := by
        cases r with
        | nil => rfl
        | cons s' r => obtain ⟨t', _, h5, h6, _⟩ := h4; omega
      subst this
      rw [restN, show lot - taken = t by omega, C_self]
      exact Nat.one_le_pow _ _ (by omega)
    · refine Nat.le_trans (Nat.mul_le_mul_left _ ih) ?_
      have := term_le r.length (lot - taken) t h2 (by omega)
      rw [show lot - (taken + t) - 1 = lot - taken - t - 1 by omega]
      exact this
theorem rest_lt {lot taken : Nat} {r : List S3} (hlot : lot ≤ 30) (hr : r.length ≤ 3) (h : Fit lot taken r) : restN lot taken r ≤ 2 ^ 58 := by
  refine Nat.le_trans (rest_le lot r taken h) ?_
  refine Nat.le_trans (Nat.pow_le_pow_left (by omega : r.length + 1 ≤ 4) _) ?_
  exact Nat.le_trans (Nat.pow_le_pow_right (by omega) (by omega : lot - taken - 1 ≤ 29)) (by decide)
theorem rest_pos (lot : Nat) : ∀ (r : List S3) (taken : Nat), Fit lot taken r → 0 < restN lot taken r
  | [], _, _ => by simp [restN]
  | s :: r, taken, h => by
    obtain ⟨t, h1, h2, h3, h4⟩ := h
    rw [restN, h1, Int.toNat_natCast]
    refine Nat.mul_pos ?_ (rest_pos lot r _ h4)
    exact C_pos _ _ (by omega)
theorem wk_out (ρ : List Nat) (n : Nat) (lot : Int) (l : List S3) (bad : Int) (x : A) : outAL ρ n (wkC lot l bad x) = wkC lot l bad (outA ρ n x) := by
  unfold wkC
  simp only [outAL, outA]
  congr 3
  generalize tri = t
  induction t with
  | nil => rfl
  | cons d t ih => rw [List.map_cons, List.cons_append, outAL, ih, outA]; rfl
theorem wk_tri (lot : Int) (l : List S3) (bad : Int) (x : A) {i n k : Nat} (hi : i = 3 + n * 31 + k) (hn : n < 31) (hk : k < 31) : (wkC lot l bad x)[i]? = some (.d (dI (C n k : Nat))) := by
  subst hi
  unfold wkC
  rw [show 3 + n * 31 + k = (n * 31 + k) + 1 + 1 + 1 by omega, List.getElem?_cons_succ, List.getElem?_cons_succ, List.getElem?_cons_succ,
    List.getElem?_append_left (by rw [List.length_map, tri_len]; omega)]
  unfold tri
  rw [cF_getA (by omega), val_at hk]
abbrev wkO (lot : Int) (l : List S3) (bad : Int) : Ob := .ro 108 (wkC lot l bad .unk)
/-- a contract with a work, for a caller -/
theorem lendW {lot : Int} {l : List S3} {bad : Int} {f : FuncId} {args : List A} {N : Nat} {r : A} {post : List (Nat × Ob)} (ρ : List Nat) {x : A} (hx : invA ρ x = .unk) (h : Bor tb Try.prog f args [wkO lot l bad] N r post) :
    Bor tb Try.prog f args [.ro 108 (invAL ρ (wkC lot l bad x))] N r post := by
  rw [wk_inv, hx]; exact h
theorem rest_bor {lot : Nat} (hlot : lot ≤ 30) {l : List S3} (hl : l.length ≤ 3) (bad : Int) : ∀ (r : List S3) (k taken : Nat), l.drop k = r → k ≤ l.length → Fit lot taken r →
    Bor tb Try.prog 64 [.ref 0 0, .d (dI k), .d (dI taken)] [wkO lot l bad] 1 (.d (dI (restN lot taken r : Nat))) [(0, wkO lot l bad)] := by
  intro r
  induction r with
  | nil =>
    intro k taken hk hkl hf
    have hkl' : k = l.length := by
      have := congrArg List.length hk
      rw [List.length_drop, List.length_nil] at this
      omega
    refine bor_of pg Try.func64 (by kernel_rfl) ?_
    ((conv => whnf); repeat (first | (refine ChL.l ?_; (conv => whnf)) | (refine ChC.r ?_; (conv => whnf))))
    refine ⟨_, rfl, ?_⟩
    ((conv => whnf); repeat (first | (refine ChL.l ?_; (conv => whnf)) | (refine ChC.r ?_; (conv => whnf))))
    apply kB <;> intro h <;> ((conv => whnf); repeat (first | (refine ChL.l ?_; (conv => whnf)) | (refine ChC.r ?_; (conv => whnf))))
    · refine ⟨[], [0], ?_⟩
      ((conv => whnf); repeat (first | (refine ChL.l ?_; (conv => whnf)) | (refine ChC.r ?_; (conv => whnf))))
      refine ⟨wk_only _ lot l bad _ rfl, ?_⟩
      ((conv => whnf); repeat (first | (refine ChL.l ?_; (conv => whnf)) | (refine ChC.r ?_; (conv => whnf))))
      exact ⟨rfl, rfl⟩
    · simp [hkl'] at h
  | cons s r ih =>
    intro k taken hk hkl hf
    have hf0 := hf
    obtain ⟨t, h1, h2, h3, h4⟩ := hf
    have hlt : k < l.length := by
      rcases Nat.lt_or_ge k l.length with h | h
      · exact h
      · rw [List.drop_of_length_le h] at hk; cases hk
    have hq : (l.map stD)[k]? = some (stD s) := by
      have h5 : (l.drop k)[0]? = some s := by rw [hk]; rfl
      rw [List.getElem?_drop, Nat.add_zero] at h5
      rw [List.getElem?_map, h5]; rfl
    have hk' : l.drop (k + 1) = r := by
      rw [← List.drop_drop, hk]; rfl
    have hr : (s :: r).length ≤ 3 := by
      rw [← hk, List.length_drop]; omega
    refine bor_of pg Try.func64 (by kernel_rfl) ?_
    ((conv => whnf); repeat (first | (refine ChL.l ?_; (conv => whnf)) | (refine ChC.r ?_; (conv => whnf))))
    refine ⟨_, rfl, ?_⟩
    ((conv => whnf); repeat (first | (refine ChL.l ?_; (conv => whnf)) | (refine ChC.r ?_; (conv => whnf))))
    apply kB <;> intro h <;> ((conv => whnf); repeat (first | (refine ChL.l ?_; (conv => whnf)) | (refine ChC.r ?_; (conv => whnf))))
    · simp at h; omega
    refine ⟨_, rfl, ?_⟩
    ((conv => whnf); repeat (first | (refine ChL.l ?_; (conv => whnf)) | (refine ChC.r ?_; (conv => whnf))))
    refine ⟨k, stD s, rfl, hq, rfl, ?_⟩
    ((conv => whnf); repeat (first | (refine ChL.l ?_; (conv => whnf)) | (refine ChC.r ?_; (conv => whnf))))
    refine ⟨_, rfl, ?_⟩
    ((conv => whnf); repeat (first | (refine ChL.l ?_; (conv => whnf)) | (refine ChC.r ?_; (conv => whnf))))
    have w1 : IntKind.i64.wrap ((lot : Int) - taken) = ((lot - taken : Nat) : Int) := by rw [wrapI (by omega) (by omega)]; omega
    have w2 : IntKind.i64.wrap ((k : Int) + 1) = ((k + 1 : Nat) : Int) := by rw [wrapI (by omega) (by omega)]; rfl
    have w3 : IntKind.i64.wrap ((taken : Int) + s.1) = ((taken + t : Nat) : Int) := by rw [h1, wrapI (by omega) (by omega)]; rfl
    refine ⟨lot - taken, w1, by omega, ?_⟩
    ((conv => whnf); repeat (first | (refine ChL.l ?_; (conv => whnf)) | (refine ChC.r ?_; (conv => whnf))))
    refine ⟨t, h1, by omega, ?_⟩
    ((conv => whnf); repeat (first | (refine ChL.l ?_; (conv => whnf)) | (refine ChC.r ?_; (conv => whnf))))
    refine ⟨_, wk_tri lot l bad _ (n := lot - taken) (k := t) (by dsimp only; omega) (by omega) (by omega), ?_⟩
    ((conv => whnf); repeat (first | (refine ChL.l ?_; (conv => whnf)) | (refine ChC.r ?_; (conv => whnf))))
    have hb := ih (k + 1) (taken + t) hk' (by omega) h4
    rw [← w2, ← w3] at hb
    refine .inr ⟨[0], 1, _, _, lendW [0] rfl hb, ?_⟩
    ((conv => whnf); repeat (first | (refine ChL.l ?_; (conv => whnf)) | (refine ChC.r ?_; (conv => whnf))))
    refine .inl ⟨_, times2_pure _ _, ?_⟩
    ((conv => whnf); repeat (first | (refine ChL.l ?_; (conv => whnf)) | (refine ChC.r ?_; (conv => whnf))))
    refine ⟨[], [0], ?_⟩
    ((conv => whnf); repeat (first | (refine ChL.l ?_; (conv => whnf)) | (refine ChC.r ?_; (conv => whnf))))
    refine ⟨wk_only _ lot l bad _ rfl, ?_⟩
    ((conv => whnf); repeat (first | (refine ChL.l ?_; (conv => whnf)) | (refine ChC.r ?_; (conv => whnf))))
    refine ⟨?_, rfl⟩
    have e : restN lot taken (s :: r) = C (lot - taken) t * restN lot (taken + t) r := by rw [restN, h1, Int.toNat_natCast]
    have h5 := rest_lt hlot hr hf0
    have h6 := rest_pos lot r _ h4
    have h7 : C (lot - taken) t ≤ C (lot - taken) t * restN lot (taken + t) r := Nat.le_mul_of_pos_right _ h6
    show A.d (dI (mulI (mulI 1 _) _)) = _
    rw [mul_eq (by omega) (by omega), e]
end Go.Ev.Ythmandhpmkfopaa

set_option linter.unusedVariables false
set_option linter.unusedSimpArgs false
set_option maxRecDepth 100000
namespace Go.Ev.Ythmandhpmkfopaa
open Go.Proofs
attribute [local irreducible] Pure Bor Iter tri C
abbrev roI (n : Int) : Ob := .ro 3 [.d (dI n)]
abbrev snD (a b c : Int) : D := .agg [dI a, dI b, dI c]
theorem drawn_bor0 {lot : Nat} (hlot : lot ≤ 30) {l : List S3} (hl : l.length ≤ 3) {bad k taken found t left b : Nat} {s : S3} (hk : l[k]? = some s) (ht : s.1 = t) (h1 : taken + left = lot) (h2 : found + b = bad) (h3 : bad ≤ 30) :
    Bor tb Try.prog 63 [.ref 0 0, .d (snD k taken found)] [wkO lot l bad] 1 (.fn (.func 66) [] [.ref 111 0, .ref 103 0, .ref 107 0, .ref 1 0])
      [(0, wkO lot l bad), (111, roI t), (103, roI left), (107, roI b), (1, .ro 94 [.ref 0 0])] := by
  have hq : (l.map stD)[k]? = some (stD s) := by rw [List.getElem?_map, hk]; rfl
  have hkl : k < l.length := (List.getElem?_eq_some_iff.1 hk).1
  refine bor_of pg Try.func63 (by kernel_rfl) ?_
  ((conv => whnf); repeat (first | (refine ChL.l ?_; (conv => whnf)) | (refine ChC.r ?_; (conv => whnf))))
  refine ⟨_, rfl, ?_⟩
  ((conv => whnf); repeat (first | (refine ChL.l ?_; (conv => whnf)) | (refine ChC.r ?_; (conv => whnf))))
  refine ⟨_, rfl, ?_⟩
  ((conv => whnf); repeat (first | (refine ChL.l ?_; (conv => whnf)) | (refine ChC.r ?_; (conv => whnf))))
  refine ⟨_, rfl, ?_⟩
  ((conv => whnf); repeat (first | (refine ChL.l ?_; (conv => whnf)) | (refine ChC.r ?_; (conv => whnf))))
  refine ⟨k, stD s, rfl, hq, rfl, ?_⟩
  ((conv => whnf); repeat (first | (refine ChL.l ?_; (conv => whnf)) | (refine ChC.r ?_; (conv => whnf))))
  refine ⟨[111, 103, 107, 1], [0, 111, 103, 107, 1], ?_⟩
  ((conv => whnf); repeat (first | (refine ChL.l ?_; (conv => whnf)) | (refine ChC.r ?_; (conv => whnf))))
  refine ⟨wk_only _ lot l bad _ rfl, ?_⟩
  ((conv => whnf); repeat (first | (refine ChL.l ?_; (conv => whnf)) | (refine ChC.r ?_; (conv => whnf))))
  refine ⟨rfl, ?_⟩
  ((conv => whnf); repeat (first | (refine ChL.l ?_; (conv => whnf)) | (refine ChC.r ?_; (conv => whnf))))
  refine ⟨rfl, ?_⟩
  ((conv => whnf); repeat (first | (refine ChL.l ?_; (conv => whnf)) | (refine ChC.r ?_; (conv => whnf))))
  refine ⟨rfl, ?_⟩
  ((conv => whnf); repeat (first | (refine ChL.l ?_; (conv => whnf)) | (refine ChC.r ?_; (conv => whnf))))
  refine ⟨rfl, ?_⟩
  ((conv => whnf); repeat (first | (refine ChL.l ?_; (conv => whnf)) | (refine ChC.r ?_; (conv => whnf))))
  have w1 : IntKind.i64.wrap ((lot : Int) - taken) = (left : Int) := by rw [wrapI (by omega) (by omega)]; omega
  have w2 : IntKind.i64.wrap ((bad : Int) - found) = (b : Int) := by rw [wrapI (by omega) (by omega)]; omega
  rw [w1, w2, ht]
  exact ⟨rfl, rfl⟩
theorem drawn_bor {lot : Nat} (hlot : lot ≤ 30) {l : List S3} (hl : l.length ≤ 3) {bad k taken found t left b : Nat} {s : S3} (hk : l[k]? = some s) (ht : s.1 = t) (h1 : taken + left = lot) (h2 : found + b = bad) (h3 : bad ≤ 30) :
    Bor tb Try.prog 63 [.ref 0 0, .d (snD k taken found)] [wkO lot l bad] 5 (.fn (.func 66) [] [.ref 1 0, .ref 2 0, .ref 3 0, .ref 4 0])
      [(0, wkO lot l bad), (1, roI t), (2, roI left), (3, roI b), (4, .ro 94 [.ref 0 0])] := by
  have h := (drawn_bor0 hlot hl hk ht h1 h2 h3).mv (N' := 5) [0, 111, 103, 107, 1] rfl rfl rfl
  have e : renP [0, 111, 103, 107, 1] (lookO [(0, wkO lot l bad), (111, roI t), (103, roI left), (107, roI b), (1, .ro 94 [.ref 0 0])]) 0 [0, 111, 103, 107, 1] = [(0, .ro 108 (invAL [0, 111, 103, 107, 1] (wkC lot l bad .unk))), (1, roI t), (2, roI left), (3, roI b), (4, .ro 94 [.ref 0 0])] := rfl
  rw [e, wk_inv] at h
  exact h
/-- what is handed over -/
def elemsN (left b t : Nat) : List (List D) := (List.range' (t - (left - b)) (min t b + 1 - (t - (left - b)))).map fun (n : Nat) => [dI n, dI ((C b n * C (left - b) (t - n) : Nat) : Int)]
theorem drawn1_iter {lot : Nat} {l : List S3} {bad left b t : Nat} (h1 : left ≤ 30) (h2 : b ≤ left) (h3 : t ≤ left) (tt : Nat) :
    Iter tb Try.prog 66 [.own 0, .ref 1 0, .ref 2 0, .ref 3 0, .ref 4 0] [roI t, roI left, roI b, .ro 94 [.ref 5 0], wkO lot l bad] (elemsN left b t) tt [(1, roI t), (2, roI left), (3, roI b), (4, .ro 94 [.ref 5 0]), (5, wkO lot l bad)] := by
  refine iter_of pg Try.func66 (by kernel_rfl) ?_
  ((conv => whnf); repeat (first | (refine ChL.l ?_; (conv => whnf)) | (refine ChC.r ?_; (conv => whnf))))
  (refine ⟨_, rfl, ?_⟩; ((conv => whnf); repeat (first | (refine ChL.l ?_; (conv => whnf)) | (refine ChC.r ?_; (conv => whnf))))); (refine ⟨_, rfl, ?_⟩; ((conv => whnf); repeat (first | (refine ChL.l ?_; (conv => whnf)) | (refine ChC.r ?_; (conv => whnf))))); (refine ⟨_, rfl, ?_⟩; ((conv => whnf); repeat (first | (refine ChL.l ?_; (conv => whnf)) | (refine ChC.r ?_; (conv => whnf)))))
  have w1 : IntKind.i64.wrap ((left : Int) - b) = ((left - b : Nat) : Int) := by rw [wrapI (by omega) (by omega)]; omega
  have w2 : max 0 (IntKind.i64.wrap ((t : Int) - IntKind.i64.wrap ((left : Int) - b))) = ((t - (left - b) : Nat) : Int) := by
    rw [w1, wrapI (by omega) (by omega)]; omega
  rw [w2]
  obtain ⟨lo, hlo⟩ : ∃ lo, lo = t - (left - b) := ⟨_, rfl⟩
  rw [← hlo]
  have hlen : (elemsN left b t).length = min t b + 1 - lo := by simp [elemsN, hlo]
  have hel : ∀ k, k < min t b + 1 - lo → (elemsN left b t)[k]? = some [dI ((lo + k : Nat) : Int), dI ((C b (lo + k) * C (left - b) (t - (lo + k)) : Nat) : Int)] := by
    intro k hk
    simp [elemsN, ← hlo, hk]
  refine ⟨[], [0, 1, 2, 3, 4, 6], [0, 1, 2, 3, 4, 5], 6, fun m s => ∃ k : Nat, k + m = min t b + 1 - lo ∧ k ≤ tt ∧
    s = ⟨[(0, .own 0), (1, .ref 1 0), (2, .ref 2 0), (3, .ref 3 0), (4, .ref 4 0), (6, .d (dI ((lo + k : Nat) : Int)))], [(0, .env k), (1, roI t), (2, roI left), (3, roI b), (4, .ro 94 [.ref 5 0]), (5, wkO lot l bad)], 6⟩, ?_, ?_⟩
  · ((conv => whnf); repeat (first | (refine ChL.l ?_; (conv => whnf)) | (refine ChC.r ?_; (conv => whnf))))
    (refine ⟨rfl, ?_⟩; ((conv => whnf); repeat (first | (refine ChL.l ?_; (conv => whnf)) | (refine ChC.r ?_; (conv => whnf))))); (refine ⟨rfl, ?_⟩; ((conv => whnf); repeat (first | (refine ChL.l ?_; (conv => whnf)) | (refine ChC.r ?_; (conv => whnf))))); (refine ⟨rfl, ?_⟩; ((conv => whnf); repeat (first | (refine ChL.l ?_; (conv => whnf)) | (refine ChC.r ?_; (conv => whnf))))); (refine ⟨rfl, ?_⟩; ((conv => whnf); repeat (first | (refine ChL.l ?_; (conv => whnf)) | (refine ChC.r ?_; (conv => whnf)))))
    refine ⟨wk_only _ lot l bad _ rfl, ?_⟩
    ((conv => whnf); repeat (first | (refine ChL.l ?_; (conv => whnf)) | (refine ChC.r ?_; (conv => whnf))))
    exact ⟨_, 0, Nat.zero_add _, Nat.zero_le _, rfl⟩
  · rintro m _ ⟨k, hk, hkt, rfl⟩
    ((conv => whnf); repeat (first | (refine ChL.l ?_; (conv => whnf)) | (refine ChC.r ?_; (conv => whnf))))
    (refine ⟨_, rfl, ?_⟩; ((conv => whnf); repeat (first | (refine ChL.l ?_; (conv => whnf)) | (refine ChC.r ?_; (conv => whnf))))); (refine ⟨_, rfl, ?_⟩; ((conv => whnf); repeat (first | (refine ChL.l ?_; (conv => whnf)) | (refine ChC.r ?_; (conv => whnf)))))
    apply kB <;> intro h <;> ((conv => whnf); repeat (first | (refine ChL.l ?_; (conv => whnf)) | (refine ChC.r ?_; (conv => whnf))))
    · have hle : lo + k ≤ min t b := by simp at h; omega
      have w3 : IntKind.i64.wrap ((t : Int) - ((lo + k : Nat) : Int)) = ((t - (lo + k) : Nat) : Int) := by rw [wrapI (by omega) (by omega)]; omega
      have w4 : IntKind.i64.wrap (((lo + k : Nat) : Int) + 1) = ((lo + (k + 1) : Nat) : Int) := by rw [wrapI (by omega) (by omega)]; omega
      (refine ⟨_, rfl, ?_⟩; ((conv => whnf); repeat (first | (refine ChL.l ?_; (conv => whnf)) | (refine ChC.r ?_; (conv => whnf))))); (refine ⟨_, rfl, ?_⟩; ((conv => whnf); repeat (first | (refine ChL.l ?_; (conv => whnf)) | (refine ChC.r ?_; (conv => whnf)))))
      refine ⟨b, rfl, by omega, ?_⟩
      ((conv => whnf); repeat (first | (refine ChL.l ?_; (conv => whnf)) | (refine ChC.r ?_; (conv => whnf))))
      refine ⟨lo + k, rfl, by omega, ?_⟩
      ((conv => whnf); repeat (first | (refine ChL.l ?_; (conv => whnf)) | (refine ChC.r ?_; (conv => whnf))))
      refine ⟨_, wk_tri lot l bad _ (n := b) (k := lo + k) (by dsimp only; omega) (by omega) (by omega), ?_⟩
      ((conv => whnf); repeat (first | (refine ChL.l ?_; (conv => whnf)) | (refine ChC.r ?_; (conv => whnf))))
      (refine ⟨_, rfl, ?_⟩; ((conv => whnf); repeat (first | (refine ChL.l ?_; (conv => whnf)) | (refine ChC.r ?_; (conv => whnf))))); (refine ⟨_, rfl, ?_⟩; ((conv => whnf); repeat (first | (refine ChL.l ?_; (conv => whnf)) | (refine ChC.r ?_; (conv => whnf))))); (refine ⟨_, rfl, ?_⟩; ((conv => whnf); repeat (first | (refine ChL.l ?_; (conv => whnf)) | (refine ChC.r ?_; (conv => whnf))))); (refine ⟨_, rfl, ?_⟩; ((conv => whnf); repeat (first | (refine ChL.l ?_; (conv => whnf)) | (refine ChC.r ?_; (conv => whnf)))))
      refine ⟨left - b, w1, by omega, ?_⟩
      ((conv => whnf); repeat (first | (refine ChL.l ?_; (conv => whnf)) | (refine ChC.r ?_; (conv => whnf))))
      refine ⟨t - (lo + k), w3, by omega, ?_⟩
      ((conv => whnf); repeat (first | (refine ChL.l ?_; (conv => whnf)) | (refine ChC.r ?_; (conv => whnf))))
      refine ⟨_, wk_tri lot l bad _ (n := left - b) (k := t - (lo + k)) (by dsimp only; omega) (by omega) (by omega), ?_⟩
      ((conv => whnf); repeat (first | (refine ChL.l ?_; (conv => whnf)) | (refine ChC.r ?_; (conv => whnf))))
      have hm : mulI (mulI 1 ((C b (lo + k) : Nat) : Int)) ((C (left - b) (t - (lo + k)) : Nat) : Int) = ((C b (lo + k) * C (left - b) (t - (lo + k)) : Nat) : Int) := by
        have c1 := C_le b (lo + k)
        have c2 := C_le (left - b) (t - (lo + k))
        have c3 : 2 ^ b ≤ 2 ^ 30 := Nat.pow_le_pow_right (by omega) (by omega)
        have c4 : 2 ^ (left - b) ≤ 2 ^ 30 := Nat.pow_le_pow_right (by omega) (by omega)
        refine mul_eq ?_ (by omega)
        exact Nat.lt_of_le_of_lt (Nat.mul_le_mul (Nat.le_trans c1 c3) (Nat.le_trans c2 c4)) (by decide)
      have hp := times2_pure ((C b (lo + k) : Nat) : Int) ((C (left - b) (t - (lo + k)) : Nat) : Int)
      rw [hm] at hp
      refine .inl ⟨_, hp, ?_⟩
      ((conv => whnf); repeat (first | (refine ChL.l ?_; (conv => whnf)) | (refine ChC.r ?_; (conv => whnf))))
      refine ⟨decide (k < tt), ⟨hkt, hel k (by omega), rfl⟩, ?_⟩
      ((conv => whnf); repeat (first | (refine ChL.l ?_; (conv => whnf)) | (refine ChC.r ?_; (conv => whnf))))
      apply kB <;> intro h' <;> ((conv => whnf); repeat (first | (refine ChL.l ?_; (conv => whnf)) | (refine ChC.r ?_; (conv => whnf))))
      · have hkt' : k = tt := by simp at h'; omega
        refine ⟨[0, 1, 2, 3, 4, 5], ?_⟩
        ((conv => whnf); repeat (first | (refine ChL.l ?_; (conv => whnf)) | (refine ChC.r ?_; (conv => whnf))))
        (refine ⟨rfl, ?_⟩; ((conv => whnf); repeat (first | (refine ChL.l ?_; (conv => whnf)) | (refine ChC.r ?_; (conv => whnf))))); (refine ⟨rfl, ?_⟩; ((conv => whnf); repeat (first | (refine ChL.l ?_; (conv => whnf)) | (refine ChC.r ?_; (conv => whnf))))); (refine ⟨rfl, ?_⟩; ((conv => whnf); repeat (first | (refine ChL.l ?_; (conv => whnf)) | (refine ChC.r ?_; (conv => whnf))))); (refine ⟨rfl, ?_⟩; ((conv => whnf); repeat (first | (refine ChL.l ?_; (conv => whnf)) | (refine ChC.r ?_; (conv => whnf)))))
        refine ⟨wk_only _ lot l bad _ rfl, ?_⟩
        ((conv => whnf); repeat (first | (refine ChL.l ?_; (conv => whnf)) | (refine ChC.r ?_; (conv => whnf))))
        have e : k + 1 = min (tt + 1) (elemsN left b t).length := by rw [hlen]; omega
        rw [← e]
      · have hkt' : k < tt := by simpa using h'
        (refine ⟨rfl, ?_⟩; ((conv => whnf); repeat (first | (refine ChL.l ?_; (conv => whnf)) | (refine ChC.r ?_; (conv => whnf))))); (refine ⟨rfl, ?_⟩; ((conv => whnf); repeat (first | (refine ChL.l ?_; (conv => whnf)) | (refine ChC.r ?_; (conv => whnf))))); (refine ⟨rfl, ?_⟩; ((conv => whnf); repeat (first | (refine ChL.l ?_; (conv => whnf)) | (refine ChC.r ?_; (conv => whnf))))); (refine ⟨rfl, ?_⟩; ((conv => whnf); repeat (first | (refine ChL.l ?_; (conv => whnf)) | (refine ChC.r ?_; (conv => whnf)))))
        refine ⟨wk_only _ lot l bad _ rfl, ?_⟩
        ((conv => whnf); repeat (first | (refine ChL.l ?_; (conv => whnf)) | (refine ChC.r ?_; (conv => whnf))))
        exact ⟨m - 1, by omega, k + 1, by omega, by omega, by rw [w4]⟩
    · have hgt : k = min t b + 1 - lo := by simp at h; omega
      refine ⟨[0, 1, 2, 3, 4, 5], ?_⟩
      ((conv => whnf); repeat (first | (refine ChL.l ?_; (conv => whnf)) | (refine ChC.r ?_; (conv => whnf))))
      (refine ⟨rfl, ?_⟩; ((conv => whnf); repeat (first | (refine ChL.l ?_; (conv => whnf)) | (refine ChC.r ?_; (conv => whnf))))); (refine ⟨rfl, ?_⟩; ((conv => whnf); repeat (first | (refine ChL.l ?_; (conv => whnf)) | (refine ChC.r ?_; (conv => whnf))))); (refine ⟨rfl, ?_⟩; ((conv => whnf); repeat (first | (refine ChL.l ?_; (conv => whnf)) | (refine ChC.r ?_; (conv => whnf))))); (refine ⟨rfl, ?_⟩; ((conv => whnf); repeat (first | (refine ChL.l ?_; (conv => whnf)) | (refine ChC.r ?_; (conv => whnf)))))
      refine ⟨wk_only _ lot l bad _ rfl, ?_⟩
      ((conv => whnf); repeat (first | (refine ChL.l ?_; (conv => whnf)) | (refine ChC.r ?_; (conv => whnf))))
      have e : k = min (tt + 1) (elemsN left b t).length := by rw [hlen]; omega
      rw [← e]
end Go.Ev.Ythmandhpmkfopaa

set_option linter.unusedVariables false
set_option linter.unusedSimpArgs false
set_option maxRecDepth 100000
namespace Go.Ev.Ythmandhpmkfopaa
open Go.Proofs
theorem wI_add (a b : Int) : wI (wI a + wI b) = wI (a + b) := by
  simp only [wI, wrap_bmod, Int.bmod_add_bmod, Int.add_bmod_bmod]
theorem mul_w (a b : Int) : mulI (mulI 1 a) (wI b) = wI (a * b) := by
  simp only [wI, mulI, wrap_bmod, Int.one_mul, Int.bmod_mul_bmod, Int.mul_bmod_bmod]
theorem wI_nat {n : Nat} (h : n < 2 ^ 63) : wI (n : Int) = n := wrapI (by omega) (by omega)
abbrev N3 := Nat × Nat × Nat
def addN (a b : N3) : N3 := (a.1 + b.1, a.2.1 + b.2.1, a.2.2 + b.2.2)
def mulN (m : Nat) (a : N3) : N3 := (m * a.1, m * a.2.1, m * a.2.2)
abbrev cD (x : N3) : D := .agg [dI (wI x.1), dI (wI x.2.1), dI (wI x.2.2)]
def lowN (left b t : Nat) : Nat := t - (left - b)
def cntN (left b t : Nat) : Nat := min t b + 1 - lowN left b t
def manyN (left b t n : Nat) : Nat := C b n * C (left - b) (t - n)
/-- all draws from a stage on -/
def goN (lot bad : Nat) : List S3 → Nat → Nat → N3
  | [], _, _ => (0, 0, 0)
  | s :: r, taken, found =>
    let t := s.1.toNat
    let R := restN lot (taken + t) r
    (List.range' (lowN (lot - taken) (bad - found) t) (cntN (lot - taken) (bad - found) t)).foldl (fun acc n =>
      addN acc (mulN (manyN (lot - taken) (bad - found) t n)
        (if ((found + n : Nat) : Int) ≤ s.2.1 then (R, (taken + t) * R, R) else if s.2.2 ≤ ((found + n : Nat) : Int) then (0, (taken + t) * R, R) else goN lot bad r (taken + t) (found + n)))) (0, 0, 0)
/-- the map behind it -/
def memo (lot bad : Nat) : List S3 → Nat → Nat → Nat → List (D × D) → List (D × D)
  | [], _, _, _, es => es
  | s :: r, k, taken, found, es =>
    match mapGet es (snD k taken found) with
    | some _ => es
    | none =>
      let t := s.1.toNat
      mapSet ((List.range' (lowN (lot - taken) (bad - found) t) (cntN (lot - taken) (bad - found) t)).foldl (fun es n =>
        if ((found + n : Nat) : Int) ≤ s.2.1 then es else if s.2.2 ≤ ((found + n : Nat) : Int) then es else memo lot bad r (k + 1) (taken + t) (found + n) es) es) (snD k taken found) (cD (goN lot bad (s :: r) taken found))
def OkM (lot bad : Nat) (l : List S3) (es : List (D × D)) : Prop := ∀ (k taken found : Nat) v, mapGet es (snD k taken found) = some v → v = cD (goN lot bad (l.drop k) taken found)
theorem eqC_ints : ∀ (l : List Int) (ys : List D), eqC (l.map dI) ys = some true → ys = l.map dI
  | [], ys, h => by
    cases ys with
    | nil => rfl
    | cons y ys => simp [eqC] at h
  | a :: l, ys, h => by
    cases ys with
    | nil => simp [eqC] at h
    | cons y ys =>
      rw [List.map_cons] at h
      unfold eqC at h
      split at h
      · rename_i h1 h2; cases h1
      · rename_i k x r k' b s h1 h2
        cases h1; cases h2
        by_cases hk : IntKind.i64 = k'
        · subst hk
          simp only [decide_true, cond_true] at h
          split at h
          · rename_i q hq
            simp only [Option.some.injEq, Bool.and_eq_true, beq_iff_eq] at h
            obtain ⟨rfl, rfl⟩ := h
            rw [eqC_ints l _ hq]
            rfl
          · cases h
        · simp [hk] at h
      · rename_i h1 h2; cases h1
      · cases h
theorem eqC_self : ∀ (l : List Int), eqC (l.map dI) (l.map dI) = some true
  | [] => rfl
  | a :: l => by
    rw [List.map_cons]
    unfold eqC
    simp [eqC_self l]
theorem keyEq_sn {a b c : Int} {x : D} : keyEq (snD a b c) x = true ↔ x = snD a b c := by
  constructor
  · intro h
    unfold keyEq at h
    split at h
    · rename_i h1; cases h1
    · rename_i xs ys h1
      cases h1
      split at h
      · rename_i q hq
        subst h
        rw [eqC_ints [a, b, c] _ hq]
        rfl
      · cases h
    · cases h
  · rintro rfl
    show (match eqC ([a, b, c].map dI) ([a, b, c].map dI) with | some q => q | none => false) = true
    rw [eqC_self]
theorem get_set {a b c a' b' c' : Int} {v u : D} : ∀ (es : List (D × D)), mapGet (mapSet es (snD a b c) v) (snD a' b' c') = some u → (a' = a ∧ b' = b ∧ c' = c ∧ u = v) ∨ mapGet es (snD a' b' c') = some u
  | [], h => by
    simp only [mapSet, mapGet] at h
    cases e : keyEq (snD a' b' c') (snD a b c) with
    | false => rw [e] at h; cases h
    | true =>
      rw [e] at h
      have := keyEq_sn.1 e
      simp only [cond_true, Option.some.injEq] at h
      simp only [snD, D.agg.injEq, List.cons.injEq, dI, D.v.injEq, Value.int.injEq, true_and, and_true] at this
      exact .inl ⟨this.1.symm, this.2.1.symm, this.2.2.symm, h.symm⟩
  | p :: r, h => by
    rw [mapSet] at h
    cases e : keyEq (snD a b c) p.1 with
    | true =>
      rw [e, cond_true, mapGet] at h
      cases e2 : keyEq (snD a' b' c') (snD a b c) with
      | true =>
        rw [e2, cond_true, Option.some.injEq] at h
        have := keyEq_sn.1 e2
        simp only [snD, D.agg.injEq, List.cons.injEq, dI, D.v.injEq, Value.int.injEq, true_and, and_true] at this
        exact .inl ⟨this.1.symm, this.2.1.symm, this.2.2.symm, h.symm⟩
      | false =>
        rw [e2, cond_false] at h
        right
        rw [mapGet]
        cases e3 : keyEq (snD a' b' c') p.1 with
        | true =>
          have h1 := keyEq_sn.1 e
          have h2 := keyEq_sn.1 e3
          rw [h1] at h2
          rw [h2, keyEq_sn.2 rfl] at e2
          cases e2
        | false => exact h
    | false =>
      rw [e, cond_false, mapGet] at h
      rw [mapGet]
      cases e3 : keyEq (snD a' b' c') p.1 with
      | true => rw [e3] at h; exact .inr h
      | false => rw [e3] at h; exact get_set r h
theorem memo_ok (lot bad : Nat) (l : List S3) : ∀ (r : List S3) (k taken found : Nat) (es : List (D × D)), l.drop k = r → OkM lot bad l es → OkM lot bad l (memo lot bad r k taken found es)
  | [], _, _, _, es, _, h => h
  | s :: r, k, taken, found, es, hk, h => by
    rw [memo]
    split
    · exact h
    · have hk' : l.drop (k + 1) = r := by rw [← List.drop_drop, hk]; rfl
      have hf : ∀ (ns : List Nat) (es : List (D × D)), OkM lot bad l es → OkM lot bad l (ns.foldl (fun es n =>
        if ((found + n : Nat) : Int) ≤ s.2.1 then es else if s.2.2 ≤ ((found + n : Nat) : Int) then es else memo lot bad r (k + 1) (taken + s.1.toNat) (found + n) es) es) := by
        intro ns
        induction ns with
        | nil => intro es h; exact h
        | cons n ns ih =>
          intro es h
          rw [List.foldl_cons]
          refine ih _ ?_
          split
          · exact h
          · split
            · exact h
            · exact memo_ok lot bad l r (k + 1) _ _ es hk' h
      intro k' taken' found' v hv
      rcases get_set _ hv with ⟨h1, h2, h3, rfl⟩ | hv
      · have h1 : k' = k := by omega
        have h2 : taken' = taken := by omega
        have h3 : found' = found := by omega
        subst h1; subst h2; subst h3
        rw [hk]
      · exact hf _ _ h k' taken' found' v hv
end Go.Ev.Ythmandhpmkfopaa

set_option linter.unusedVariables false
set_option linter.unusedSimpArgs false
set_option maxRecDepth 100000
namespace Go.Ev.Ythmandhpmkfopaa
open Go.Proofs
theorem wk_last (lot : Int) (l : List S3) (bad : Int) (x : A) : (wkC lot l bad x)[964]? = some x := by
  unfold wkC
  rw [show 964 = 961 + 1 + 1 + 1 by omega, List.getElem?_cons_succ, List.getElem?_cons_succ, List.getElem?_cons_succ,
    List.getElem?_append_right (by rw [List.length_map, tri_len]; exact Nat.le_refl _), List.length_map, tri_len]
  rfl
def Ends : List S3 → Prop
  | [] => False
  | [s] => s.2.2 = s.2.1 + 1
  | _ :: s :: r => Ends (s :: r)
theorem mul_wn (a b : Nat) : mulI (mulI 1 (a : Int)) (wI (b : Int)) = wI ((a * b : Nat) : Int) := by
  rw [mul_w, Int.natCast_mul]
theorem wI_addn (a b : Nat) : IntKind.i64.wrap (wI (a : Int) + wI (b : Int)) = wI ((a + b : Nat) : Int) := by
  have := wI_add a b
  rw [Int.natCast_add]; exact this
theorem elemsN_len (left b t : Nat) : (elemsN left b t).length = cntN left b t := by simp [elemsN, cntN, lowN]
theorem fold_ok {lot bad : Nat} {l r : List S3} {s : S3} {k taken found : Nat} (hk' : l.drop (k + 1) = r) : ∀ (ns : List Nat) (es : List (D × D)), OkM lot bad l es → OkM lot bad l (ns.foldl (fun es n =>
        if ((found + n : Nat) : Int) ≤ s.2.1 then es else if s.2.2 ≤ ((found + n : Nat) : Int) then es else memo lot bad r (k + 1) taken (found + n) es) es)
  | [], es, h => h
  | n :: ns, es, h => by
    rw [List.foldl_cons]
    refine fold_ok hk' ns _ ?_
    split
    · exact h
    · split
      · exact h
      · exact memo_ok lot bad l r (k + 1) _ _ es hk' h
theorem elemsN_get {left b t i : Nat} {ds : List D} (h : (elemsN left b t)[i]? = some ds) : i < cntN left b t ∧ ds = [dI ((lowN left b t + i : Nat) : Int), dI ((manyN left b t (lowN left b t + i) : Nat) : Int)] := by
  unfold elemsN at h
  rw [List.getElem?_map] at h
  obtain ⟨n, hn, rfl⟩ := Option.map_eq_some_iff.1 h
  have hi : i < cntN left b t := by
    have := (List.getElem?_eq_some_iff.1 hn).1
    simpa [cntN, lowN] using this
  refine ⟨hi, ?_⟩
  rw [List.getElem?_range' (by simpa [cntN, lowN] using hi)] at hn
  cases hn
  simp [manyN, lowN]
attribute [local irreducible] Pure Bor Iter tri C
theorem memo_some {lot bad : Nat} {s : S3} {r : List S3} {k taken found : Nat} {es : List (D × D)} {v : D} (h : mapGet es (snD k taken found) = some v) : memo lot bad (s :: r) k taken found es = es := by
  rw [memo, h]
theorem memo_none {lot bad : Nat} {s : S3} {r : List S3} {k taken found : Nat} {es : List (D × D)} (h : mapGet es (snD k taken found) = none) : memo lot bad (s :: r) k taken found es =
    mapSet ((List.range' (lowN (lot - taken) (bad - found) s.1.toNat) (cntN (lot - taken) (bad - found) s.1.toNat)).foldl (fun es n =>
        if ((found + n : Nat) : Int) ≤ s.2.1 then es else if s.2.2 ≤ ((found + n : Nat) : Int) then es else memo lot bad r (k + 1) (taken + s.1.toNat) (found + n) es) es) (snD k taken found) (cD (goN lot bad (s :: r) taken found)) := by
  rw [memo, h]
theorem goN_cons (lot bad : Nat) (s : S3) (r : List S3) (taken found : Nat) : goN lot bad (s :: r) taken found =
    (List.range' (lowN (lot - taken) (bad - found) s.1.toNat) (cntN (lot - taken) (bad - found) s.1.toNat)).foldl (fun acc n =>
      addN acc (mulN (manyN (lot - taken) (bad - found) s.1.toNat n)
        (if ((found + n : Nat) : Int) ≤ s.2.1 then (restN lot (taken + s.1.toNat) r, (taken + s.1.toNat) * restN lot (taken + s.1.toNat) r, restN lot (taken + s.1.toNat) r) else if s.2.2 ≤ ((found + n : Nat) : Int) then (0, (taken + s.1.toNat) * restN lot (taken + s.1.toNat) r, restN lot (taken + s.1.toNat) r) else goN lot bad r (taken + s.1.toNat) (found + n)))) (0, 0, 0) := by
  rw [goN]
attribute [local irreducible] memo goN
abbrev preC (lot : Int) (l : List S3) (bad : Int) (es : List (D × D)) : List Ob := [.var false 94 [.ref 2 0], .var false 109 [.fn (.func 62) [] [.ref 0 0, .ref 1 0]], .ro 108 (wkC lot l bad (.own 3)), .map 111 84 es]
abbrev postC (lot : Int) (l : List S3) (bad : Int) (es : List (D × D)) : List (Nat × Ob) := [(0, .var false 94 [.ref 2 0]), (1, .var false 109 [.fn (.func 62) [] [.ref 0 0, .ref 1 0]]), (2, .ro 108 (wkC lot l bad (.own 3))), (3, .map 111 84 es)]
theorem lendC {lot : Int} {l : List S3} {bad : Int} {f : FuncId} {args : List A} {a b d : Ob} {N : Nat} {r : A} {post : List (Nat × Ob)} (ρ : List Nat) {x y : A} (hx : invA ρ x = y) (h : Bor tb Try.prog f args [a, b, .ro 108 (wkC lot l bad y), d] N r post) :
    Bor tb Try.prog f args [a, b, .ro 108 (invAL ρ (wkC lot l bad x)), d] N r post := by
  rw [wk_inv, hx]; exact h
theorem lendWI {lot : Int} {l : List S3} {bad : Int} {f : FuncId} {args : List A} {a b c d : Ob} {elems : List (List D)} {t : Nat} {post : List (Nat × Ob)} (ρ : List Nat) {x : A} (hx : invA ρ x = .unk) (h : Iter tb Try.prog f args [a, b, c, d, wkO lot l bad] elems t post) :
    Iter tb Try.prog f args [a, b, c, d, .ro 108 (invAL ρ (wkC lot l bad x))] elems t post := by
  rw [wk_inv, hx]; exact h
theorem count1_bor {lot bad : Nat} (hlot : lot ≤ 30) {l : List S3} (hl : l.length ≤ 3) (hbad : bad ≤ 30) : ∀ (r : List S3) (k taken found : Nat) (es : List (D × D)), l.drop k = r → Fit lot taken r → Ends r → taken ≤ lot → found ≤ bad → bad - found ≤ lot - taken → OkM lot bad l es →
    Bor tb Try.prog 62 [.d (snD k taken found), .ref 0 0, .ref 1 0] (preC lot l bad es) 4 (.d (cD (goN lot bad r taken found))) (postC lot l bad (memo lot bad r k taken found es)) := by
  intro r
  induction r with
  | nil => intro k taken found es _ _ h; exact h.elim
  | cons s r ih =>
    intro k taken found es hk hf he htl hfb hbl hok
    obtain ⟨t, ht, ht1, ht2, hf'⟩ := hf
    refine bor_of pg Try.func62 (by kernel_rfl) ?_
    ((conv => whnf); repeat (first | (refine ChL.l ?_; (conv => whnf)) | (refine ChC.r ?_; (conv => whnf))))
    refine ⟨_, wk_last .., ?_⟩
    ((conv => whnf); repeat (first | (refine ChL.l ?_; (conv => whnf)) | (refine ChC.r ?_; (conv => whnf))))
    cases hg : mapGet es (snD k taken found) with
    | some v =>
      have hv := hok k taken found v hg
      rw [hk] at hv
      subst hv
      refine ⟨_, rfl, ?_⟩
      ((conv => whnf); repeat (first | (refine ChL.l ?_; (conv => whnf)) | (refine ChC.r ?_; (conv => whnf))))
      apply kT rfl
      ((conv => whnf); repeat (first | (refine ChL.l ?_; (conv => whnf)) | (refine ChC.r ?_; (conv => whnf))))
      refine ⟨[], [0, 1, 2, 3], ?_⟩
      ((conv => whnf); repeat (first | (refine ChL.l ?_; (conv => whnf)) | (refine ChC.r ?_; (conv => whnf))))
      refine ⟨wk_only _ lot l bad _ rfl, ?_⟩
      ((conv => whnf); repeat (first | (refine ChL.l ?_; (conv => whnf)) | (refine ChC.r ?_; (conv => whnf))))
      rw [memo_some hg]
      exact ⟨rfl, rfl⟩
    | none =>
      refine ⟨_, rfl, ?_⟩
      ((conv => whnf); repeat (first | (refine ChL.l ?_; (conv => whnf)) | (refine ChC.r ?_; (conv => whnf))))
      apply kF rfl
      ((conv => whnf); repeat (first | (refine ChL.l ?_; (conv => whnf)) | (refine ChC.r ?_; (conv => whnf))))
      (refine ⟨_, rfl, ?_⟩; ((conv => whnf); repeat (first | (refine ChL.l ?_; (conv => whnf)) | (refine ChC.r ?_; (conv => whnf)))))
      have hlt : k < l.length := by
        rcases Nat.lt_or_ge k l.length with h | h
        · exact h
        · rw [List.drop_of_length_le h] at hk; cases hk
      have hs : l[k]? = some s := by
        have h5 : (l.drop k)[0]? = some s := by rw [hk]; rfl
        rwa [List.getElem?_drop, Nat.add_zero] at h5
      have hq : (l.map stD)[k]? = some (stD s) := by rw [List.getElem?_map, hs]; rfl
      have hk' : l.drop (k + 1) = r := by rw [← List.drop_drop, hk]; rfl
      refine ⟨k, stD s, rfl, hq, rfl, ?_⟩
      ((conv => whnf); repeat (first | (refine ChL.l ?_; (conv => whnf)) | (refine ChC.r ?_; (conv => whnf))))
      obtain ⟨left, hleft⟩ : ∃ left, taken + left = lot := ⟨lot - taken, by omega⟩
      obtain ⟨b, hb⟩ : ∃ b, found + b = bad := ⟨bad - found, by omega⟩
      have hd := drawn_bor hlot hl hs ht hleft hb hbad
      refine .inr ⟨[2], 5, _, _, lendW [2] rfl hd, ?_⟩
      ((conv => whnf); repeat (first | (refine ChL.l ?_; (conv => whnf)) | (refine ChC.r ?_; (conv => whnf))))
      have hit := lendWI (103 :: [99, 100, 101, 102, 2]) (x := .own 3) rfl (drawn1_iter (lot := lot) (l := l) (bad := bad) (left := left) (b := b) (t := t) (by omega) (by omega) (by omega) (elemsN left b t).length)
      obtain ⟨esI, hesI⟩ : ∃ esI : Nat → List (D × D), esI = fun i => (List.range' (lowN left b t) i).foldl (fun es n =>
        if ((found + n : Nat) : Int) ≤ s.2.1 then es else if s.2.2 ≤ ((found + n : Nat) : Int) then es else memo lot bad r (k + 1) (taken + t) (found + n) es) es := ⟨_, rfl⟩
      obtain ⟨ac, hac⟩ : ∃ ac : Nat → N3, ac = fun i => (List.range' (lowN left b t) i).foldl (fun acc n =>
        addN acc (mulN (manyN left b t n)
        (if ((found + n : Nat) : Int) ≤ s.2.1 then (restN lot (taken + t) r, (taken + t) * restN lot (taken + t) r, restN lot (taken + t) r) else if s.2.2 ≤ ((found + n : Nat) : Int) then (0, (taken + t) * restN lot (taken + t) r, restN lot (taken + t) r) else goN lot bad r (taken + t) (found + n)))) (0, 0, 0) := ⟨_, rfl⟩
      refine ⟨[99, 100, 101, 102, 2], [1, 2, 3, 4, 7, 8], [0, 1, 2, 3, 4, 5, 54, 91], elemsN left b t, (elemsN left b t).length, _,
        fun i ob n => n = 104 ∧ ob = [(0, .var false 94 [.ref 2 0]), (1, .var false 109 [.fn (.func 62) [] [.ref 0 0, .ref 1 0]]), (2, .ro 108 (wkC lot l bad (.own 3))), (3, .map 111 84 (esI i)),
          (4, .var false 111 [.d (dI k), .d (dI taken), .d (dI found)]), (5, .var false 84 [.d (dI 0), .d (dI 0), .d (dI 0)]), (54, .var false 84 [.d (dI (wI (ac i).1)), .d (dI (wI (ac i).2.1)), .d (dI (wI (ac i).2.2))]),
          (91, .var false 61 [.d (dI s.1), .d (dI s.2.1), .d (dI s.2.2)])], hit, ?_⟩
      ((conv => whnf); repeat (first | (refine ChL.l ?_; (conv => whnf)) | (refine ChC.r ?_; (conv => whnf))))
      refine ⟨wk_only _ lot l bad _ rfl, ?_⟩
      ((conv => whnf); repeat (first | (refine ChL.l ?_; (conv => whnf)) | (refine ChC.r ?_; (conv => whnf))))
      have hes0 : esI 0 = es := by rw [hesI]; rfl
      have hac0 : ac 0 = (0, 0, 0) := by rw [hac]; rfl
      refine ⟨⟨rfl, by rw [hes0, hac0]; rfl⟩, ?_, ?_⟩
      · rintro i ds _ _ hi hile ⟨rfl, rfl⟩
        obtain ⟨hic, rfl⟩ := elemsN_get hi
        refine ⟨rfl, ?_⟩
        ((conv => whnf); repeat (first | (refine ChL.l ?_; (conv => whnf)) | (refine ChC.r ?_; (conv => whnf))))
        have hn : lowN left b t + i ≤ min t b := by unfold cntN at hic; omega
        obtain ⟨n, hnn⟩ : ∃ n, n = lowN left b t + i := ⟨_, rfl⟩
        rw [← hnn] at hn
        have w1 : IntKind.i64.wrap ((k : Int) + 1) = ((k + 1 : Nat) : Int) := by rw [wrapI (by omega) (by omega)]; rfl
        have w2 : IntKind.i64.wrap ((taken : Int) + s.1) = ((taken + t : Nat) : Int) := by rw [ht, wrapI (by omega) (by omega)]; rfl
        have w3 : IntKind.i64.wrap ((found : Int) + ((lowN left b t + i : Nat) : Int)) = ((found + n : Nat) : Int) := by rw [hnn, wrapI (by omega) (by omega)]; rfl
        obtain ⟨R, hR⟩ : ∃ R, R = restN lot (taken + t) r := ⟨_, rfl⟩
        have hRb : R < 2 ^ 63 := by
          have := rest_lt hlot (r := r) (by rw [← hk', List.length_drop]; omega) hf'
          omega
        obtain ⟨M, hM⟩ : ∃ M, M = manyN left b t (lowN left b t + i) := ⟨_, rfl⟩
        have hr := rest_bor hlot hl bad r (k + 1) (taken + t) hk' (by omega) hf'
        rw [← w1, ← w2, ← hR, ← wI_nat hRb] at hr
        refine .inr ⟨[2], 1, _, _, lendW [2] rfl hr, ?_⟩
        ((conv => whnf); repeat (first | (refine ChL.l ?_; (conv => whnf)) | (refine ChC.r ?_; (conv => whnf))))
        refine .inl ⟨_, says_pure _ _ _ _, ?_⟩
        ((conv => whnf); repeat (first | (refine ChL.l ?_; (conv => whnf)) | (refine ChC.r ?_; (conv => whnf))))
        have hq1 := times2_pure (IntKind.i64.wrap ((taken : Int) + s.1)) (wI (R : Nat))
        rw [w2, mul_wn, ← w2] at hq1
        have hw : ∀ c : Nat, Pure Try.prog 55 [.seq [[dI (M : Nat)], [dI (wI (c : Nat))]]] (dI (wI ((M * c : Nat) : Int))) := fun c => by
          have := times2_pure (M : Nat) (wI (c : Nat))
          rwa [mul_wn] at this
        rw [hM] at hw
        have es1 : esI (i + 1) = if ((found + n : Nat) : Int) ≤ s.2.1 then esI i else if s.2.2 ≤ ((found + n : Nat) : Int) then esI i else memo lot bad r (k + 1) (taken + t) (found + n) (esI i) := by
          rw [hesI]
          simp only [List.range'_1_concat, List.foldl_append, List.foldl_cons, List.foldl_nil, ← hnn]
        have ac1 : ac (i + 1) = addN (ac i) (mulN M (if ((found + n : Nat) : Int) ≤ s.2.1 then (R, (taken + t) * R, R) else if s.2.2 ≤ ((found + n : Nat) : Int) then (0, (taken + t) * R, R) else goN lot bad r (taken + t) (found + n))) := by
          rw [hac, hR, hM]
          simp only [List.range'_1_concat, List.foldl_append, List.foldl_cons, List.foldl_nil, ← hnn]
        apply kB <;> intro h1 <;> ((conv => whnf); repeat (first | (refine ChL.l ?_; (conv => whnf)) | (refine ChC.r ?_; (conv => whnf))))
        · have c1 : ((found + n : Nat) : Int) ≤ s.2.1 := by
            rw [← w3]; unfold says at h1
            split at h1
            · assumption
            · split at h1 <;> simp at h1
          refine .inl ⟨_, hq1, ?_⟩
          ((conv => whnf); repeat (first | (refine ChL.l ?_; (conv => whnf)) | (refine ChC.r ?_; (conv => whnf))))
          refine .inl ⟨_, hw _, ?_⟩
          ((conv => whnf); repeat (first | (refine ChL.l ?_; (conv => whnf)) | (refine ChC.r ?_; (conv => whnf))))
          refine .inl ⟨_, hw _, ?_⟩
          ((conv => whnf); repeat (first | (refine ChL.l ?_; (conv => whnf)) | (refine ChC.r ?_; (conv => whnf))))
          refine .inl ⟨_, hw _, ?_⟩
          ((conv => whnf); repeat (first | (refine ChL.l ?_; (conv => whnf)) | (refine ChC.r ?_; (conv => whnf))))
          refine ⟨[0, 1, 2, 3, 4, 5, 54, 91], 104, rfl, ?_⟩
          ((conv => whnf); repeat (first | (refine ChL.l ?_; (conv => whnf)) | (refine ChC.r ?_; (conv => whnf))))
          refine ⟨wk_only _ lot l bad _ rfl, ?_⟩
          ((conv => whnf); repeat (first | (refine ChL.l ?_; (conv => whnf)) | (refine ChC.r ?_; (conv => whnf))))
          refine ⟨by rw [elemsN_len]; exact hic, rfl, ?_⟩
          rw [es1, if_pos c1, ac1, if_pos c1, hM]
          simp only [addN, mulN, wI_addn, dI]
        · have c1 : ¬ ((found + n : Nat) : Int) ≤ s.2.1 := by
            rw [← w3]; unfold says at h1
            split at h1
            · simp at h1
            · assumption
          apply kB <;> intro h2 <;> ((conv => whnf); repeat (first | (refine ChL.l ?_; (conv => whnf)) | (refine ChC.r ?_; (conv => whnf))))
          · have c2 : s.2.2 ≤ ((found + n : Nat) : Int) := by
              rw [← w3]; unfold says at h2
              split at h2
              · simp at h2
              · split at h2
                · assumption
                · simp at h2
            refine .inl ⟨_, hq1, ?_⟩
            ((conv => whnf); repeat (first | (refine ChL.l ?_; (conv => whnf)) | (refine ChC.r ?_; (conv => whnf))))
            refine .inl ⟨_, hw 0, ?_⟩
            ((conv => whnf); repeat (first | (refine ChL.l ?_; (conv => whnf)) | (refine ChC.r ?_; (conv => whnf))))
            refine .inl ⟨_, hw _, ?_⟩
            ((conv => whnf); repeat (first | (refine ChL.l ?_; (conv => whnf)) | (refine ChC.r ?_; (conv => whnf))))
            refine .inl ⟨_, hw _, ?_⟩
            ((conv => whnf); repeat (first | (refine ChL.l ?_; (conv => whnf)) | (refine ChC.r ?_; (conv => whnf))))
            refine ⟨[0, 1, 2, 3, 4, 5, 54, 91], 104, rfl, ?_⟩
            ((conv => whnf); repeat (first | (refine ChL.l ?_; (conv => whnf)) | (refine ChC.r ?_; (conv => whnf))))
            refine ⟨wk_only _ lot l bad _ rfl, ?_⟩
            ((conv => whnf); repeat (first | (refine ChL.l ?_; (conv => whnf)) | (refine ChC.r ?_; (conv => whnf))))
            refine ⟨by rw [elemsN_len]; exact hic, rfl, ?_⟩
            rw [es1, if_neg c1, if_pos c2, ac1, if_neg c1, if_pos c2, hM]
            simp only [addN, mulN, wI_addn, dI]
          · have c2 : ¬ s.2.2 ≤ ((found + n : Nat) : Int) := by
              rw [← w3]; unfold says at h1 h2
              split at h1
              · simp at h1
              · split at h1
                · rename_i h3 h4; rw [if_neg h3, if_pos h4] at h2; simp at h2
                · assumption
            have her : Ends r := by
              cases r with
              | nil => exfalso; have : s.2.2 = s.2.1 + 1 := he; omega
              | cons s' r' => exact he
            have hcall := ih (k + 1) (taken + t) (found + n) (esI i) hk' hf' her (by omega) (by omega) (by unfold lowN at hnn; omega) (by
              rw [hesI]
              exact fold_ok hk' _ _ hok)
            rw [← w1, ← w2, ← w3] at hcall
            refine .inr ⟨[0, 1, 2, 3], 4, _, _, lendC [0, 1, 2, 3] rfl hcall, ?_⟩
            ((conv => whnf); repeat (first | (refine ChL.l ?_; (conv => whnf)) | (refine ChC.r ?_; (conv => whnf))))
            refine .inl ⟨_, hw _, ?_⟩
            ((conv => whnf); repeat (first | (refine ChL.l ?_; (conv => whnf)) | (refine ChC.r ?_; (conv => whnf))))
            refine .inl ⟨_, hw _, ?_⟩
            ((conv => whnf); repeat (first | (refine ChL.l ?_; (conv => whnf)) | (refine ChC.r ?_; (conv => whnf))))
            refine .inl ⟨_, hw _, ?_⟩
            ((conv => whnf); repeat (first | (refine ChL.l ?_; (conv => whnf)) | (refine ChC.r ?_; (conv => whnf))))
            refine ⟨[0, 1, 2, 3, 4, 5, 54, 91], 104, rfl, ?_⟩
            ((conv => whnf); repeat (first | (refine ChL.l ?_; (conv => whnf)) | (refine ChC.r ?_; (conv => whnf))))
            refine ⟨wk_only _ lot l bad _ rfl, ?_⟩
            ((conv => whnf); repeat (first | (refine ChL.l ?_; (conv => whnf)) | (refine ChC.r ?_; (conv => whnf))))
            refine ⟨by rw [elemsN_len]; exact hic, rfl, ?_⟩
            rw [es1, if_neg c1, if_neg c2, ac1, if_neg c1, if_neg c2, hM]
            simp only [addN, mulN, wI_addn, dI]
            rfl
      · rintro _ _ _ ⟨rfl, rfl⟩
        ((conv => whnf); repeat (first | (refine ChL.l ?_; (conv => whnf)) | (refine ChC.r ?_; (conv => whnf))))
        refine ⟨_, wk_last .., ?_⟩
        ((conv => whnf); repeat (first | (refine ChL.l ?_; (conv => whnf)) | (refine ChC.r ?_; (conv => whnf))))
        refine ⟨_, rfl, ?_⟩
        ((conv => whnf); repeat (first | (refine ChL.l ?_; (conv => whnf)) | (refine ChC.r ?_; (conv => whnf))))
        refine ⟨[], [0, 1, 2, 3], ?_⟩
        ((conv => whnf); repeat (first | (refine ChL.l ?_; (conv => whnf)) | (refine ChC.r ?_; (conv => whnf))))
        refine ⟨wk_only _ lot l bad _ rfl, ?_⟩
        ((conv => whnf); repeat (first | (refine ChL.l ?_; (conv => whnf)) | (refine ChC.r ?_; (conv => whnf))))
        have e1 : lot - taken = left := by omega
        have e2 : bad - found = b := by omega
        have e3 : s.1.toNat = t := by rw [ht, Int.toNat_natCast]
        have hgo : goN lot bad (s :: r) taken found = ac (elemsN left b t).length := by
          rw [goN_cons, hac, elemsN_len, e1, e2, e3]
        have hmo : memo lot bad (s :: r) k taken found es = mapSet (esI (elemsN left b t).length) (snD k taken found) (cD (goN lot bad (s :: r) taken found)) := by
          rw [memo_none hg, hesI, elemsN_len, e1, e2, e3]
        rw [hmo, hgo]
        exact ⟨rfl, rfl⟩
end Go.Ev.Ythmandhpmkfopaa

set_option linter.unusedVariables false
set_option linter.unusedSimpArgs false
set_option maxRecDepth 100000
namespace Go.Ev.Ythmandhpmkfopaa
open Go.Proofs
attribute [local irreducible] Pure Bor Iter tri C memo goN
theorem lendB {lot : Int} {l : List S3} {bad : Int} {f : FuncId} {args : List A} {a : Ob} {N : Nat} {r : A} {post : List (Nat × Ob)} (ρ : List Nat) {x y : A} (hx : invA ρ x = y) (h : Bor tb Try.prog f args [a, .ro 108 (wkC lot l bad y)] N r post) :
    Bor tb Try.prog f args [a, .ro 108 (invAL ρ (wkC lot l bad x))] N r post := by
  rw [wk_inv, hx]; exact h
theorem count_bor {lot bad : Nat} (hlot : lot ≤ 30) {l : List S3} (hl : l.length ≤ 3) (hbad : bad ≤ lot) (hf : Fit lot 0 l) (he : Ends l) :
    Bor tb Try.prog 54 [.ref 1 0] [.map 111 84 [], .ro 108 (wkC lot l bad (.own 0))] 2 (.d (cD (goN lot bad l 0 0))) [(0, .map 111 84 (memo lot bad l 0 0 0 [])), (1, .ro 108 (wkC lot l bad (.own 0)))] := by
  have hc := count1_bor hlot hl (by omega : bad ≤ 30) l 0 0 0 [] rfl hf he (by omega) (by omega) (by omega) (fun k t f v h => by cases h)
  refine bor_of pg Try.func54 (by kernel_rfl) ?_
  ((conv => whnf); repeat (first | (refine ChL.l ?_; (conv => whnf)) | (refine ChC.r ?_; (conv => whnf))))
  refine .inr ⟨[2, 4, 1, 0], 4, _, _, lendC [2, 4, 1, 0] rfl hc, ?_⟩
  ((conv => whnf); repeat (first | (refine ChL.l ?_; (conv => whnf)) | (refine ChC.r ?_; (conv => whnf))))
  refine ⟨[], [0, 1], ?_⟩
  ((conv => whnf); repeat (first | (refine ChL.l ?_; (conv => whnf)) | (refine ChC.r ?_; (conv => whnf))))
  refine ⟨wk_only _ lot l bad _ rfl, ?_⟩
  ((conv => whnf); repeat (first | (refine ChL.l ?_; (conv => whnf)) | (refine ChC.r ?_; (conv => whnf))))
  exact ⟨rfl, rfl⟩
/-- the greatest common divisor, as the machine reckons it -/
def gcdI : Nat → Int → Int → Int
  | 0, a, _ => a
  | f + 1, a, b => if b = 0 then a else gcdI f b (a.tmod b)
theorem over_pure (num den : Nat) (hd : 0 < den) (h1 : num < 2 ^ 63) (h2 : den < 2 ^ 63) : Pure Try.prog 59 [dI num, dI den] (.agg [dI ((num / Nat.gcd num den : Nat) : Int), dI ((den / Nat.gcd num den : Nat) : Int)]) := by
  refine pure_of pg Try.func59 (by kernel_rfl) ?_
  ((conv => whnf); repeat (first | (refine ChL.l ?_; (conv => whnf)) | (refine ChC.r ?_; (conv => whnf))))
  refine ⟨[], [0, 1, 4, 5, 6], [0], 1, fun m s => ∃ a b : Nat, m = b ∧ Nat.gcd a b = Nat.gcd num den ∧ a < 2 ^ 63 ∧ b < 2 ^ 63 ∧ s = ⟨[(0, .d (dI num)), (1, .d (dI den)), (4, .ref 0 0), (5, .d (dI a)), (6, .d (dI b))], [(0, .var false 34 [.d (dI 0), .d (dI 0)])], 1⟩, ?_, ?_⟩
  · ((conv => whnf); repeat (first | (refine ChL.l ?_; (conv => whnf)) | (refine ChC.r ?_; (conv => whnf))))
    exact ⟨den, num, den, rfl, rfl, h1, h2, rfl⟩
  · rintro m _ ⟨a, b, rfl, hg, ha, hb, rfl⟩
    ((conv => whnf); repeat (first | (refine ChL.l ?_; (conv => whnf)) | (refine ChC.r ?_; (conv => whnf))))
    apply kB <;> intro h <;> ((conv => whnf); repeat (first | (refine ChL.l ?_; (conv => whnf)) | (refine ChC.r ?_; (conv => whnf))))
    · have hm : m ≠ 0 := by simpa using h
      refine ⟨by omega, ?_⟩
      ((conv => whnf); repeat (first | (refine ChL.l ?_; (conv => whnf)) | (refine ChC.r ?_; (conv => whnf))))
      refine ⟨a % m, Nat.mod_lt _ (by omega), m, a % m, rfl, ?_, hb, Nat.lt_trans (Nat.mod_lt _ (by omega)) hb, ?_⟩
      · rw [← hg, Nat.gcd_comm a m, Nat.gcd_rec m a, Nat.gcd_comm]
      · have e : Int.tmod (a : Int) (m : Int) = ((a % m : Nat) : Int) := by rw [Int.tmod_eq_emod_of_nonneg (by omega)]; rfl
        rw [e]
    · have hm : m = 0 := by simpa using h
      subst hm
      rw [Nat.gcd_zero_right] at hg
      have hap : 0 < a := by rw [hg]; exact Nat.gcd_pos_of_pos_right _ hd
      have q : ∀ n : Nat, n < 2 ^ 63 → IntKind.i64.wrap (Int.tdiv (n : Int) (a : Int)) = ((n / Nat.gcd num den : Nat) : Int) := by
        intro n hn
        have e : Int.tdiv (n : Int) (a : Int) = ((n / a : Nat) : Int) := by rw [Int.tdiv_eq_ediv_of_nonneg (by omega)]; rfl
        have : n / a ≤ n := Nat.div_le_self _ _
        rw [e]
        exact (wI_nat (Nat.lt_of_le_of_lt this hn)).trans (by rw [hg])
      refine ⟨by omega, ?_⟩
      ((conv => whnf); repeat (first | (refine ChL.l ?_; (conv => whnf)) | (refine ChC.r ?_; (conv => whnf))))
      refine ⟨by omega, ?_⟩
      ((conv => whnf); repeat (first | (refine ChL.l ?_; (conv => whnf)) | (refine ChC.r ?_; (conv => whnf))))
      rw [q num h1, q den h2]
      rfl
end Go.Ev.Ythmandhpmkfopaa

set_option linter.unusedVariables false
set_option linter.unusedSimpArgs false
namespace Go.Ev.Ythmandhpmkfopaa
/-- a sum -/
def sm (f : Nat → Nat) : Nat → Nat
  | 0 => 0
  | n + 1 => sm f n + f n
theorem sm_congr {f g : Nat → Nat} : ∀ {n : Nat}, (∀ i, i < n → f i = g i) → sm f n = sm g n
  | 0, _ => rfl
  | n + 1, h => by rw [sm, sm, sm_congr fun i hi => h i (by omega), h n (by omega)]
theorem sm_add (f g : Nat → Nat) : ∀ n, sm (fun i => f i + g i) n = sm f n + sm g n
  | 0 => rfl
  | n + 1 => by rw [sm, sm, sm, sm_add f g n]; omega
theorem sm_mul (f : Nat → Nat) (c : Nat) : ∀ n, sm (fun i => f i * c) n = sm f n * c
  | 0 => by simp [sm]
  | n + 1 => by rw [sm, sm, sm_mul f c n, Nat.add_mul]
theorem sm_le {f g : Nat → Nat} : ∀ {n : Nat}, (∀ i, i < n → f i ≤ g i) → sm f n ≤ sm g n
  | 0, _ => Nat.le_refl _
  | n + 1, h => by
    have := sm_le (n := n) fun i hi => h i (by omega)
    have := h n (by omega)
    rw [sm, sm]; omega
theorem sm_head (f : Nat → Nat) : ∀ n, sm f (n + 1) = f 0 + sm (fun i => f (i + 1)) n
  | 0 => by simp [sm]
  | n + 1 => by rw [sm, sm_head f n, sm]; omega
theorem sm_split (f : Nat → Nat) (a : Nat) : ∀ n, sm f (a + n) = sm f a + sm (fun i => f (a + i)) n
  | 0 => by simp [sm]
  | n + 1 => by rw [← Nat.add_assoc, sm, sm_split f a n, sm]; omega
theorem sm_zero {f : Nat → Nat} : ∀ {n : Nat}, (∀ i, i < n → f i = 0) → sm f n = 0
  | 0, _ => rfl
  | n + 1, h => by rw [sm, sm_zero fun i hi => h i (by omega), h n (by omega)]
/-- Vandermonde's sum -/
theorem vander (m : Nat) : ∀ b t : Nat, sm (fun n => C b n * C m (t - n)) (t + 1) = C (b + m) t
  | 0, t => by
    rw [sm_head, C_one, Nat.zero_add, Nat.sub_zero, sm_zero fun i hi => by rw [C_zero 0 (i + 1) (by omega)]; simp]
    simp
  | b + 1, 0 => by simp [sm, C_one]
  | b + 1, t + 1 => by
    have i1 := vander m b t
    have i2 := vander m b (t + 1)
    rw [sm_head, C_one] at i2 ⊢
    have e : sm (fun i => C (b + 1) (i + 1) * C m (t + 1 - (i + 1))) (t + 1) = sm (fun n => C b n * C m (t - n)) (t + 1) + sm (fun i => C b (i + 1) * C m (t + 1 - (i + 1))) (t + 1) := by
      rw [← sm_add]
      refine sm_congr fun i hi => ?_
      rw [C_step, Nat.add_mul, show t + 1 - (i + 1) = t - i by omega]
    rw [e, i1, show b + 1 + m = (b + m) + 1 by omega, C_step]
    omega
theorem many_sum {left b t : Nat} (hb : b ≤ left) (ht : t ≤ left) : sm (fun i => manyN left b t (lowN left b t + i)) (cntN left b t) = C left t := by
  have hv := vander (left - b) b t
  rw [show b + (left - b) = left by omega] at hv
  have h1 : t + 1 = lowN left b t + (cntN left b t + (t - min t b)) := by unfold cntN lowN; omega
  rw [h1, sm_split, sm_split] at hv
  have z1 : sm (fun n => C b n * C (left - b) (t - n)) (lowN left b t) = 0 := sm_zero fun i hi => by
    rw [C_zero (left - b) (t - i) (by unfold lowN at hi; omega)]; simp
  have z2 : sm (fun i => C b (lowN left b t + (cntN left b t + i)) * C (left - b) (t - (lowN left b t + (cntN left b t + i)))) (t - min t b) = 0 := sm_zero fun i hi => by
    rw [C_zero b _ (by unfold cntN lowN; omega)]; simp
  rw [z1, z2] at hv
  simpa [manyN] using hv
end Go.Ev.Ythmandhpmkfopaa

set_option linter.unusedVariables false
set_option linter.unusedSimpArgs false
namespace Go.Ev.Ythmandhpmkfopaa
theorem fold_sm (m : Nat → Nat) (c : Nat → N3) (lo : Nat) : ∀ k, (List.range' lo k).foldl (fun acc n => addN acc (mulN (m n) (c n))) (0, 0, 0) =
    (sm (fun i => m (lo + i) * (c (lo + i)).1) k, sm (fun i => m (lo + i) * (c (lo + i)).2.1) k, sm (fun i => m (lo + i) * (c (lo + i)).2.2) k)
  | 0 => rfl
  | k + 1 => by
    rw [List.range'_1_concat, List.foldl_append, List.foldl_cons, List.foldl_nil, fold_sm m c lo k]
    rfl
/-- what becomes of so many bad ones -/
def nextN (lot bad : Nat) (s : S3) (r : List S3) (taken found n : Nat) : N3 :=
  if ((found + n : Nat) : Int) ≤ s.2.1 then (restN lot (taken + s.1.toNat) r, (taken + s.1.toNat) * restN lot (taken + s.1.toNat) r, restN lot (taken + s.1.toNat) r)
  else if s.2.2 ≤ ((found + n : Nat) : Int) then (0, (taken + s.1.toNat) * restN lot (taken + s.1.toNat) r, restN lot (taken + s.1.toNat) r) else goN lot bad r (taken + s.1.toNat) (found + n)
theorem goN_sm (lot bad : Nat) (s : S3) (r : List S3) (taken found : Nat) : goN lot bad (s :: r) taken found =
    let left := lot - taken
    let b := bad - found
    let t := s.1.toNat
    (sm (fun i => manyN left b t (lowN left b t + i) * (nextN lot bad s r taken found (lowN left b t + i)).1) (cntN left b t),
     sm (fun i => manyN left b t (lowN left b t + i) * (nextN lot bad s r taken found (lowN left b t + i)).2.1) (cntN left b t),
     sm (fun i => manyN left b t (lowN left b t + i) * (nextN lot bad s r taken found (lowN left b t + i)).2.2) (cntN left b t)) := by
  rw [goN_cons]
  exact fold_sm (manyN (lot - taken) (bad - found) s.1.toNat) (nextN lot bad s r taken found) _ _
/-- what the counts are, at least -/
theorem go_facts (lot bad : Nat) : ∀ (r : List S3) (taken found : Nat), Fit lot taken r → Ends r → taken ≤ lot → found ≤ bad → bad - found ≤ lot - taken →
    (goN lot bad r taken found).2.2 = restN lot taken r ∧ (goN lot bad r taken found).1 ≤ restN lot taken r ∧ (goN lot bad r taken found).2.1 ≤ lot * restN lot taken r
  | [], _, _, _, h, _, _, _ => h.elim
  | s :: r, taken, found, hf, he, htl, hfb, hbl => by
    obtain ⟨t, ht, ht1, ht2, hf'⟩ := hf
    have e3 : s.1.toNat = t := by rw [ht, Int.toNat_natCast]
    have key : ∀ i, i < cntN (lot - taken) (bad - found) t → (nextN lot bad s r taken found (lowN (lot - taken) (bad - found) t + i)).2.2 = restN lot (taken + t) r ∧
        (nextN lot bad s r taken found (lowN (lot - taken) (bad - found) t + i)).1 ≤ restN lot (taken + t) r ∧ (nextN lot bad s r taken found (lowN (lot - taken) (bad - found) t + i)).2.1 ≤ lot * restN lot (taken + t) r := by
      intro i hi
      unfold nextN
      rw [e3]
      split
      · exact ⟨rfl, Nat.le_refl _, Nat.mul_le_mul_right _ ht2⟩
      · split
        · exact ⟨rfl, Nat.zero_le _, Nat.mul_le_mul_right _ ht2⟩
        · rename_i h1 h2
          have her : Ends r := by
            cases r with
            | nil => exfalso; have : s.2.2 = s.2.1 + 1 := he; omega
            | cons s' r' => exact he
          exact go_facts lot bad r (taken + t) _ hf' her ht2 (by unfold cntN lowN at *; omega) (by unfold cntN lowN at *; omega)
    have hm := many_sum (left := lot - taken) (b := bad - found) (t := t) hbl (by omega)
    have hR : restN lot taken (s :: r) = C (lot - taken) t * restN lot (taken + t) r := by rw [restN, e3]
    rw [goN_sm, hR, ← hm]
    simp only [e3]
    refine ⟨?_, ?_, ?_⟩
    · rw [← sm_mul]
      exact sm_congr fun i hi => by rw [(key i hi).1]
    · rw [← sm_mul]
      exact sm_le fun i hi => Nat.mul_le_mul_left _ (key i hi).2.1
    · rw [Nat.mul_left_comm, ← sm_mul]
      exact sm_le fun i hi => Nat.mul_le_mul_left _ (key i hi).2.2
end Go.Ev.Ythmandhpmkfopaa

set_option linter.unusedVariables false
set_option linter.unusedSimpArgs false
namespace Go.Ev.Ythmandhpmkfopaa
def InR (n : Int) : Prop := -9223372036854775808 ≤ n ∧ n < 9223372036854775808
def InS (s : S3) : Prop := InR s.1 ∧ InR s.2.1 ∧ InR s.2.2
theorem wI_max {n : Int} (h : InR n) : wI (n + 1) = n + 1 ∨ (wI (n + 1) = -9223372036854775808 ∧ n = 9223372036854775807) := by
  by_cases h1 : n = 9223372036854775807
  · right; subst h1; exact ⟨by decide, rfl⟩
  · left
    obtain ⟨h2, h3⟩ := h
    exact wrapI (by omega) (by omega)
theorem chk_fit (lot : Nat) (hlot : lot ≤ 30) : ∀ (r : List S3) (taken : Nat) (last : S3), taken ≤ lot → (∀ x ∈ r, 1 ≤ x.1) → (∀ x ∈ r, InS x) → 0 ≤ last.2.2 → InR last.2.1 → chk lot r taken last = 0 → Fit lot taken r ∧ Ends (last :: r)
  | [], taken, last, _, _, _, h0, hi, h => by
    refine ⟨trivial, ?_⟩
    show last.2.2 = last.2.1 + 1
    unfold chk at h
    split at h
    · cases h
    · rename_i h1
      have h1 : last.2.2 = wI (last.2.1 + 1) := Classical.not_not.1 h1
      rcases wI_max hi with h2 | ⟨h2, _⟩
      · rw [h1, h2]
      · omega
  | s :: r, taken, last, ht, h1, h2, h0, hi, h => by
    unfold chk at h
    split at h
    · cases h
    · rename_i h3
      split at h
      · cases h
      · rename_i h4
        have hs := h1 s (by simp)
        have hw : wI ((lot : Int) - taken) = (lot : Int) - taken := wrapI (by omega) (by omega)
        rw [hw] at h3
        have hw2 : wI ((taken : Int) + s.1) = (taken : Int) + s.1 := wrapI (by omega) (by omega)
        rw [hw2] at h
        obtain ⟨t, hst⟩ : ∃ t : Nat, s.1 = t := ⟨s.1.toNat, by omega⟩
        rw [hst, show (taken : Int) + (t : Int) = ((taken + t : Nat) : Int) by omega] at h
        have h5 : 0 ≤ s.2.2 := by omega
        obtain ⟨q1, q2⟩ := chk_fit lot hlot r (taken + t) s (by omega) (fun x hx => h1 x (by simp [hx])) (fun x hx => h2 x (by simp [hx])) h5 (h2 s (by simp)).2.1 h
        exact ⟨⟨t, hst, by omega, by omega, q1⟩, q2⟩
theorem check_good {lot : Int} {l : List S3} (hr : ∀ x ∈ l, InS x) (h : check lot l = 0) : ∃ n : Nat, lot = n ∧ 1 ≤ n ∧ n ≤ 30 ∧ l.length ≤ 3 ∧ Fit n 0 l ∧ Ends l := by
  unfold check at h
  split at h
  · cases h
  · rename_i h1
    split at h
    · cases h
    · rename_i h2
      have h3 : 1 ≤ lot ∧ lot ≤ 30 := Classical.not_not.1 fun hn => h2 (.inl hn)
      have h4 : l.length ≠ 0 := fun hn => h2 (.inr (.inl hn))
      have h5 : ∀ x ∈ l, 1 ≤ x.1 := Classical.not_not.1 fun hn => h2 (.inr (.inr hn))
      obtain ⟨n, rfl⟩ : ∃ n : Nat, lot = n := ⟨lot.toNat, by omega⟩
      obtain ⟨q1, q2⟩ := chk_fit n (by omega) l 0 (0, -1, 0) (Nat.zero_le _) h5 hr (by simp) (by simp [InR]) h
      refine ⟨n, rfl, by omega, by omega, by omega, q1, ?_⟩
      cases l with
      | nil => simp at h4
      | cons s r => exact q2
end Go.Ev.Ythmandhpmkfopaa

set_option linter.unusedVariables false
set_option linter.unusedSimpArgs false
set_option maxRecDepth 100000
namespace Go.Ev.Ythmandhpmkfopaa
open Go.Proofs
attribute [local irreducible] Pure Bor Iter tri C memo goN check
theorem accepted_pure (x : N3) : Pure Try.prog 43 [cD x] (dI (wI x.1)) := by
  refine pure_of pg Try.func43 (by kernel_rfl) ?_
  ((conv => whnf); repeat (first | (refine ChL.l ?_; (conv => whnf)) | (refine ChC.r ?_; (conv => whnf))))
  rfl
theorem taken_pure (x : N3) : Pure Try.prog 46 [cD x] (dI (wI x.2.1)) := by
  refine pure_of pg Try.func46 (by kernel_rfl) ?_
  ((conv => whnf); repeat (first | (refine ChL.l ?_; (conv => whnf)) | (refine ChC.r ?_; (conv => whnf))))
  rfl
abbrev frD (a b : Nat) : D := .agg [dI (a : Int), dI (b : Int)]
abbrev frac (num den : Nat) : D := frD (num / Nat.gcd num den) (den / Nat.gcd num den)
def shareD (f : N3 → Nat) (lot : Int) (l : List S3) (bad : Int) : D :=
  if check lot l ≠ 0 then .tup [frD 0 0, dI (check lot l)] else if ¬ (0 ≤ bad ∧ bad ≤ lot) then .tup [frD 0 0, dI 2] else
    .tup [frac (f (goN lot.toNat bad.toNat l 0 0)) (goN lot.toNat bad.toNat l 0 0).2.2, dI 0]
theorem lendBO {lot : Int} {l : List S3} {bad : Int} {f : FuncId} {args : List A} {a : Ob} {N : Nat} {r : A} {post : List (Nat × Ob)} (ρ σ : List Nat) (n : Nat) {x y : A} (hx : invA ρ (outA σ n x) = y) (h : Bor tb Try.prog f args [a, .ro 108 (wkC lot l bad y)] N r post) :
    Bor tb Try.prog f args [a, .ro 108 (invAL ρ (outAL σ n (wkC lot l bad x)))] N r post := by
  rw [wk_out, wk_inv, hx]; exact h
theorem share_pure {fid : FuncId} {f : N3 → Nat} (hp : ∀ x, Pure Try.prog fid [cD x] (dI (wI (f x)))) (hfb : ∀ x : N3, f x = x.1 ∨ f x = x.2.1) (lot : Int) (l : List S3) (hl : l.length < 2 ^ 63) (hr : ∀ x ∈ l, InS x) (bad : Int) :
    Pure Try.prog 42 [plD lot l, dI bad, .agg [.fn (.func fid) [] []]] (shareD f lot l bad) := by
  refine pure_of pg Try.func42 (by kernel_rfl) ?_
  ((conv => whnf); repeat (first | (refine ChL.l ?_; (conv => whnf)) | (refine ChC.r ?_; (conv => whnf))))
  refine .inl ⟨_, check_pure lot l hl, ?_⟩
  ((conv => whnf); repeat (first | (refine ChL.l ?_; (conv => whnf)) | (refine ChC.r ?_; (conv => whnf))))
  apply kB <;> intro h <;> ((conv => whnf); repeat (first | (refine ChL.l ?_; (conv => whnf)) | (refine ChC.r ?_; (conv => whnf))))
  · have hc : check lot l ≠ 0 := by simpa using h
    unfold shareD
    rw [if_pos hc]
    rfl
  · have hc : check lot l = 0 := by simpa using h
    refine .inl ⟨_, within_pure .., ?_⟩
    ((conv => whnf); repeat (first | (refine ChL.l ?_; (conv => whnf)) | (refine ChC.r ?_; (conv => whnf))))
    apply kB <;> intro h2 <;> ((conv => whnf); repeat (first | (refine ChL.l ?_; (conv => whnf)) | (refine ChC.r ?_; (conv => whnf))))
    · have hb : ¬ (0 ≤ bad ∧ bad ≤ lot) := by
        rintro ⟨h3, h4⟩
        simp [h3, h4] at h2
      unfold shareD
      rw [if_neg (by simp [hc]), if_pos hb]
      rfl
    · have hb : 0 ≤ bad ∧ bad ≤ lot := by simpa using h2
      obtain ⟨n, rfl, hn1, hn2, hl3, hf, he⟩ := check_good hr hc
      obtain ⟨b, rfl⟩ : ∃ b : Nat, bad = b := ⟨bad.toNat, by omega⟩
      have hbn : b ≤ n := by omega
      obtain ⟨g1, g2, g3⟩ := go_facts n b l 0 0 hf he (by omega) (by omega) (by omega)
      have gp := rest_pos n l 0 hf
      have gl := rest_lt hn2 hl3 hf
      have hx := count_bor hn2 hl3 hbn hf he
      obtain ⟨x, hxx⟩ : ∃ x, x = goN n b l 0 0 := ⟨_, rfl⟩
      rw [← hxx] at hx g1 g2 g3
      have b1 : n * restN n 0 l ≤ 30 * 2 ^ 58 := Nat.mul_le_mul hn2 gl
      have b2 : f x < 2 ^ 63 := by
        rcases hfb x with h | h <;> rw [h] <;> omega
      have b3 : x.2.2 < 2 ^ 63 := by omega
      have ho := over_pure (f x) x.2.2 (by omega) b2 b3
      rw [← wI_nat b2, ← wI_nat b3] at ho
      refine .inr ⟨[], 2, _, _, on_bor .., ?_⟩
      ((conv => whnf); repeat (first | (refine ChL.l ?_; (conv => whnf)) | (refine ChC.r ?_; (conv => whnf))))
      refine .inr ⟨[3, 4], 2, _, _, lendBO [3, 4] [] 3 (x := .own 0) rfl hx, ?_⟩
      ((conv => whnf); repeat (first | (refine ChL.l ?_; (conv => whnf)) | (refine ChC.r ?_; (conv => whnf))))
      refine .inl ⟨_, hp x, ?_⟩
      ((conv => whnf); repeat (first | (refine ChL.l ?_; (conv => whnf)) | (refine ChC.r ?_; (conv => whnf))))
      refine .inl ⟨_, ho, ?_⟩
      ((conv => whnf); repeat (first | (refine ChL.l ?_; (conv => whnf)) | (refine ChC.r ?_; (conv => whnf))))
      have e : shareD f (n : Int) l (b : Int) = .tup [frac (f x) x.2.2, dI 0] := by
        unfold shareD
        rw [if_neg (by simp [hc]), if_neg (by simp [hb]), Int.toNat_natCast, Int.toNat_natCast, ← hxx]
      rw [e]
      rfl
/-- the same by its parts -/
def sh (f : N3 → Nat) (lot : Int) (l : List S3) (bad : Int) : Int × Int × Int :=
  if check lot l ≠ 0 then (0, 0, check lot l) else if ¬ (0 ≤ bad ∧ bad ≤ lot) then (0, 0, 2) else
    (((f (goN lot.toNat bad.toNat l 0 0) / Nat.gcd (f (goN lot.toNat bad.toNat l 0 0)) (goN lot.toNat bad.toNat l 0 0).2.2 : Nat) : Int),
     (((goN lot.toNat bad.toNat l 0 0).2.2 / Nat.gcd (f (goN lot.toNat bad.toNat l 0 0)) (goN lot.toNat bad.toNat l 0 0).2.2 : Nat) : Int), 0)
abbrev shD (x : Int × Int × Int) : D := .tup [.agg [dI x.1, dI x.2.1], dI x.2.2]
theorem shareD_eq (f : N3 → Nat) (lot : Int) (l : List S3) (bad : Int) : shareD f lot l bad = shD (sh f lot l bad) := by
  unfold shareD sh
  split
  · rfl
  · split <;> rfl
theorem chance_pure (lot : Int) (l : List S3) (hl : l.length < 2 ^ 63) (hr : ∀ x ∈ l, InS x) (bad : Int) : Pure Try.prog 18 [plD lot l, dI bad] (shD (sh (·.1) lot l bad)) := by
  have h := share_pure (fid := 43) (f := (·.1)) accepted_pure (fun x => .inl rfl) lot l hl hr bad
  rw [shareD_eq] at h
  generalize sh (·.1) lot l bad = x at h
  refine pure_of pg Try.func18 (by kernel_rfl) ?_
  ((conv => whnf); repeat (first | (refine ChL.l ?_; (conv => whnf)) | (refine ChC.r ?_; (conv => whnf))))
  refine .inl ⟨_, h, ?_⟩
  ((conv => whnf); repeat (first | (refine ChL.l ?_; (conv => whnf)) | (refine ChC.r ?_; (conv => whnf))))
  rfl
theorem mean_pure (lot : Int) (l : List S3) (hl : l.length < 2 ^ 63) (hr : ∀ x ∈ l, InS x) (bad : Int) : Pure Try.prog 23 [plD lot l, dI bad] (shD (sh (·.2.1) lot l bad)) := by
  have h := share_pure (fid := 46) (f := (·.2.1)) taken_pure (fun x => .inr rfl) lot l hl hr bad
  rw [shareD_eq] at h
  generalize sh (·.2.1) lot l bad = x at h
  refine pure_of pg Try.func23 (by kernel_rfl) ?_
  ((conv => whnf); repeat (first | (refine ChL.l ?_; (conv => whnf)) | (refine ChC.r ?_; (conv => whnf))))
  refine .inl ⟨_, h, ?_⟩
  ((conv => whnf); repeat (first | (refine ChL.l ?_; (conv => whnf)) | (refine ChC.r ?_; (conv => whnf))))
  rfl
end Go.Ev.Ythmandhpmkfopaa

set_option linter.unusedVariables false
set_option linter.unusedSimpArgs false
set_option maxRecDepth 100000
namespace Go.Ev.Ythmandhpmkfopaa
open Go.Proofs
attribute [local irreducible] Pure Bor Iter tri C memo goN check
abbrev bsD (l : List Bool) : D := .seq (l.map fun b => [dB b])
/-- how many are bad -/
def badN (l : List Bool) : Nat := l.countP id
/-- what results say, from a stage on -/
def playN (res : List Bool) : List S3 → Nat → Nat → Int → Int × Int × Int
  | [], taken, bad, v => if taken < res.length then (0, 0, 2) else (v, 0, 0)
  | s :: r, taken, bad, v =>
    if res.length < taken + s.1.toNat then (3, ((taken + s.1.toNat - res.length : Nat) : Int), 0)
    else if says s.2.1 s.2.2 ((bad + badN ((res.take (taken + s.1.toNat)).drop taken) : Nat) : Int) ≠ 3 then
      (if taken + s.1.toNat < res.length then (0, 0, 2) else (says s.2.1 s.2.2 ((bad + badN ((res.take (taken + s.1.toNat)).drop taken) : Nat) : Int), 0, 0))
    else playN res r (taken + s.1.toNat) (bad + badN ((res.take (taken + s.1.toNat)).drop taken)) 3
def playI (lot : Int) (l : List S3) (res : List Bool) : Int × Int × Int := if check lot l ≠ 0 then (0, 0, check lot l) else playN res l 0 0 0
theorem play_pure (lot : Int) (l : List S3) (hl : l.length < 2 ^ 63) (hr : ∀ x ∈ l, InS x) (res : List Bool) (hres : res.length < 2 ^ 62) :
    Pure Try.prog 24 [plD lot l, bsD res] (.tup [dU (playI lot l res).1, dI (playI lot l res).2.1, dI (playI lot l res).2.2]) := by
  refine pure_of pg Try.func24 (by kernel_rfl) ?_
  ((conv => whnf); repeat (first | (refine ChL.l ?_; (conv => whnf)) | (refine ChC.r ?_; (conv => whnf))))
  refine .inl ⟨_, check_pure lot l hl, ?_⟩
  ((conv => whnf); repeat (first | (refine ChL.l ?_; (conv => whnf)) | (refine ChC.r ?_; (conv => whnf))))
  apply kB <;> intro h <;> ((conv => whnf); repeat (first | (refine ChL.l ?_; (conv => whnf)) | (refine ChC.r ?_; (conv => whnf))))
  · have hc : check lot l ≠ 0 := by simpa using h
    unfold playI
    rw [if_pos hc]
    rfl
  · have hc : check lot l = 0 := by simpa using h
    have hp : playI lot l res = playN res l 0 0 0 := by unfold playI; rw [if_neg (by simp [hc])]
    rw [hp]
    obtain ⟨n, rfl, hn1, hn2, hl3, hf, he⟩ := check_good hr hc
    refine ⟨[], [1, 4, 8, 9, 20, 21, 22], [], 1, fun m s => ∃ (k taken bad : Nat) (v : Int), k + m = l.length ∧ taken ≤ n ∧ bad ≤ taken ∧ Fit n taken (l.drop k) ∧ playN res (l.drop k) taken bad v = playN res l 0 0 0 ∧
      s = ⟨[(1, .d (bsD res)), (4, .d (dU v)), (8, .d (dI taken)), (9, .d (dI bad)), (20, .d (.seq (l.map stD))), (21, .d (dI l.length)), (22, .d (dI k))], [], 1⟩, ?_, ?_⟩
    · ((conv => whnf); repeat (first | (refine ChL.l ?_; (conv => whnf)) | (refine ChC.r ?_; (conv => whnf))))
      exact ⟨l.length, 0, 0, 0, 0, by simp, by omega, by omega, hf, rfl, by simp⟩
    · rintro m _ ⟨k, taken, bad, v, hk, ht, hb, hf', hpl, rfl⟩
      ((conv => whnf); repeat (first | (refine ChL.l ?_; (conv => whnf)) | (refine ChC.r ?_; (conv => whnf))))
      apply kB <;> intro h <;> ((conv => whnf); repeat (first | (refine ChL.l ?_; (conv => whnf)) | (refine ChC.r ?_; (conv => whnf))))
      · have hlt : k < l.length := by simpa using h
        have hd : l.drop k = l[k] :: l.drop (k + 1) := (List.getElem_cons_drop ..).symm
        have hq := getD? l k hlt
        rw [hd] at hf' hpl
        generalize l[k] = q at hf' hpl hq
        obtain ⟨t, ht0, ht1, ht2, hf2⟩ := hf'
        have e1 : IntKind.i64.wrap ((k : Int) + 1) = ((k + 1 : Nat) : Int) := by rw [wrapI (by omega) (by omega)]; rfl
        have e2 : IntKind.i64.wrap ((taken : Int) + q.1) = ((taken + t : Nat) : Int) := by rw [ht0, wrapI (by omega) (by omega)]; rfl
        refine ⟨k, stD q, rfl, hq, rfl, ?_⟩
        ((conv => whnf); repeat (first | (refine ChL.l ?_; (conv => whnf)) | (refine ChC.r ?_; (conv => whnf))))
        apply kB <;> intro h <;> ((conv => whnf); repeat (first | (refine ChL.l ?_; (conv => whnf)) | (refine ChC.r ?_; (conv => whnf))))
        · have hlen : res.length < taken + t := by
            rw [decide_eq_true_eq, e2, List.length_map] at h; omega
          rw [e2] at h
          rw [← hpl, playN, ht0, Int.toNat_natCast, if_pos hlen]
          have e3 : IntKind.i64.wrap (IntKind.i64.wrap ((taken : Int) + (t : Int)) - ((List.map (fun b => [dB b]) res).length : Int)) = ((taken + t - res.length : Nat) : Int) := by
            rw [← ht0, e2, List.length_map, wrapI (by omega) (by omega)]; omega
          rw [e3]
          rfl
        · have hlen : taken + t ≤ res.length := by
            rw [decide_eq_false_iff_not, e2, List.length_map] at h; omega
          refine ⟨taken, rfl, ?_⟩
          ((conv => whnf); repeat (first | (refine ChL.l ?_; (conv => whnf)) | (refine ChC.r ?_; (conv => whnf))))
          refine ⟨taken + t, e2, by omega, by rw [List.length_map]; exact hlen, by intro el he; obtain ⟨b, _, rfl⟩ := List.mem_map.1 he; rfl, ?_⟩
          ((conv => whnf); repeat (first | (refine ChL.l ?_; (conv => whnf)) | (refine ChC.r ?_; (conv => whnf))))
          obtain ⟨seg, hseg⟩ : ∃ seg, seg = (res.take (taken + t)).drop taken := ⟨_, rfl⟩
          have hsm : ((res.map fun b => [dB b]).take (taken + t)).drop taken = seg.map fun b => [dB b] := by rw [hseg, List.map_drop, List.map_take]
          have hsl : seg.length = t := by rw [hseg, List.length_drop, List.length_take]; omega
          rw [hsm]
          refine ⟨[], [1, 4, 8, 9, 11, 20, 21, 22, 46, 47, 48], [1], 2, fun m s => ∃ j : Nat, j + m = t ∧
            s = ⟨[(1, .d (bsD res)), (4, .d (dU v)), (8, .d (dI taken)), (9, .d (dI ((bad + badN (seg.take j) : Nat) : Int))), (11, .ref 1 0), (20, .d (.seq (l.map stD))), (21, .d (dI l.length)), (22, .d (dI k)), (46, .d (bsD seg)), (47, .d (dI t)), (48, .d (dI j))], [(1, .var false 61 [.d (dI q.1), .d (dI q.2.1), .d (dI q.2.2)])], 2⟩, ?_, ?_⟩
          · ((conv => whnf); repeat (first | (refine ChL.l ?_; (conv => whnf)) | (refine ChC.r ?_; (conv => whnf))))
            exact ⟨t, 0, by omega, by simp [badN, hsl]⟩
          · rintro m' _ ⟨j, hj, rfl⟩
            ((conv => whnf); repeat (first | (refine ChL.l ?_; (conv => whnf)) | (refine ChC.r ?_; (conv => whnf))))
            (apply kB <;> intro h <;> ((conv => whnf); repeat (first | (refine ChL.l ?_; (conv => whnf)) | (refine ChC.r ?_; (conv => whnf)))))
            · have hjt : j < seg.length := by rw [decide_eq_true_eq] at h; omega
              have hw : IntKind.i64.wrap ((j : Int) + 1) = ((j + 1 : Nat) : Int) := by rw [wrapI (by omega) (by omega)]; rfl
              have hbl : badN (seg.take j) ≤ j := by
                unfold badN; exact Nat.le_trans List.countP_le_length (by simp; omega)
              have hbs : badN (seg.take (j + 1)) = badN (seg.take j) + if seg[j] then 1 else 0 := by
                unfold badN; rw [List.take_succ_eq_append_getElem hjt, List.countP_append, List.countP_singleton]; rfl
              (refine ⟨j, [dB seg[j]], rfl, by simp [hjt], rfl, ?_⟩; ((conv => whnf); repeat (first | (refine ChL.l ?_; (conv => whnf)) | (refine ChC.r ?_; (conv => whnf)))))
              (apply kB <;> intro h' <;> ((conv => whnf); repeat (first | (refine ChL.l ?_; (conv => whnf)) | (refine ChC.r ?_; (conv => whnf)))))
              · rw [h', if_pos rfl] at hbs
                have hv : IntKind.i64.wrap (((bad + badN (seg.take j) : Nat) : Int) + 1) = ((bad + badN (seg.take (j + 1)) : Nat) : Int) := by
                  rw [hbs, wrapI (by omega) (by omega)]; omega
                refine ⟨m' - 1, by omega, j + 1, by omega, ?_⟩
                rw [hv, hw]
              · rw [h', if_neg (by simp)] at hbs
                refine ⟨m' - 1, by omega, j + 1, by omega, ?_⟩
                rw [hbs, hw]; rfl
            · have hjt : j = t := by rw [decide_eq_false_iff_not] at h; omega
              have hst : seg.take j = seg := List.take_of_length_le (by omega)
              rw [hst, e2]
              refine .inl ⟨_, says_pure .., ?_⟩
              ((conv => whnf); repeat (first | (refine ChL.l ?_; (conv => whnf)) | (refine ChC.r ?_; (conv => whnf))))
              have hpl' := hpl
              rw [playN, ht0, Int.toNat_natCast, if_neg (by omega), ← hseg] at hpl'
              (apply kB <;> intro h' <;> ((conv => whnf); repeat (first | (refine ChL.l ?_; (conv => whnf)) | (refine ChC.r ?_; (conv => whnf)))))
              · rw [if_pos (by simpa using h')] at hpl'
                (apply kB <;> intro h2 <;> ((conv => whnf); repeat (first | (refine ChL.l ?_; (conv => whnf)) | (refine ChC.r ?_; (conv => whnf)))))
                · rw [decide_eq_true_eq, List.length_map] at h2
                  rw [if_pos (by omega)] at hpl'
                  rw [← hpl']
                  rfl
                · rw [decide_eq_false_iff_not, List.length_map] at h2
                  rw [if_neg (by omega)] at hpl'
                  rw [← hpl']
                  rfl
              · have h3 : says q.2.1 q.2.2 ((bad + badN seg : Nat) : Int) = 3 := by simpa using h'
                rw [if_neg (fun hh => hh h3)] at hpl'
                refine ⟨m - 1, by omega, k + 1, taken + t, bad + badN seg, 3, by omega, by omega, ?_, hf2, hpl', ?_⟩
                · have : badN seg ≤ seg.length := List.countP_le_length
                  omega
                · rw [h3, e1]
      · have hkl : k = l.length := by rw [decide_eq_false_iff_not] at h; omega
        rw [hkl, List.drop_length, playN] at hpl
        (apply kB <;> intro h2 <;> ((conv => whnf); repeat (first | (refine ChL.l ?_; (conv => whnf)) | (refine ChC.r ?_; (conv => whnf)))))
        · rw [decide_eq_true_eq, List.length_map] at h2
          rw [if_pos (by omega)] at hpl
          rw [← hpl]
          rfl
        · rw [decide_eq_false_iff_not, List.length_map] at h2
          rw [if_neg (by omega)] at hpl
          rw [← hpl]
          rfl
end Go.Ev.Ythmandhpmkfopaa

set_option linter.unusedVariables false
set_option linter.unusedSimpArgs false
set_option maxRecDepth 100000
namespace Go.Ev.Ythmandhpmkfopaa
open Go.Proofs
attribute [local irreducible] Pure Bor Iter tri C memo goN check
abbrev inB (n lo hi : Int) : Bool := decide (lo ≤ n) && decide (n ≤ hi)
theorem in_pure (n lo hi : Int) : Pure Try.prog 20 [dI n, dI lo, dI hi] (dB (inB n lo hi)) := by
  refine pure_of pg Try.func20 (by kernel_rfl) ?_
  ((conv => whnf); repeat (first | (refine ChL.l ?_; (conv => whnf)) | (refine ChC.r ?_; (conv => whnf))))
  (repeat' (first | (apply kT (by with_reducible first | rfl | assumption); ((conv => whnf); repeat (first | (refine ChL.l ?_; (conv => whnf)) | (refine ChC.r ?_; (conv => whnf))))) | (apply kF (by with_reducible first | rfl | assumption); ((conv => whnf); repeat (first | (refine ChL.l ?_; (conv => whnf)) | (refine ChC.r ?_; (conv => whnf))))) | (apply kB <;> intro _ <;> ((conv => whnf); repeat (first | (refine ChL.l ?_; (conv => whnf)) | (refine ChC.r ?_; (conv => whnf))))) | (refine .inl ⟨_, within_pure .., ?_⟩; ((conv => whnf); repeat (first | (refine ChL.l ?_; (conv => whnf)) | (refine ChC.r ?_; (conv => whnf)))))))
  all_goals (rename_i h; unfold inB; simp only [ge_iff_le] at h; rw [h]; rfl)
abbrev deD (d : Int × Int × Int × Int) : D := .agg [dI d.1, dI d.2.1, dI d.2.2.1, dI d.2.2.2]
abbrev S4 := Int × Int × Int × Int
def validB (d : S4) : Bool := inB d.1 0 (wI (d.2.1 - 1)) && decide (d.2.1 ≤ 30) && inB d.2.2.1 0 1000 && inB d.2.2.2 0 1000
theorem valid_pure (d : S4) : Pure Try.prog 48 [deD d] (dB (validB d)) := by
  refine pure_of pg Try.func48 (by kernel_rfl) ?_
  ((conv => whnf); repeat (first | (refine ChL.l ?_; (conv => whnf)) | (refine ChC.r ?_; (conv => whnf))))
  (repeat' (first | (apply kT (by with_reducible first | rfl | assumption); ((conv => whnf); repeat (first | (refine ChL.l ?_; (conv => whnf)) | (refine ChC.r ?_; (conv => whnf))))) | (apply kF (by with_reducible first | rfl | assumption); ((conv => whnf); repeat (first | (refine ChL.l ?_; (conv => whnf)) | (refine ChC.r ?_; (conv => whnf))))) | (apply kB <;> intro _ <;> ((conv => whnf); repeat (first | (refine ChL.l ?_; (conv => whnf)) | (refine ChC.r ?_; (conv => whnf))))) | (refine .inl ⟨_, within_pure .., ?_⟩; ((conv => whnf); repeat (first | (refine ChL.l ?_; (conv => whnf)) | (refine ChC.r ?_; (conv => whnf)))))))
  all_goals (simp only [oneD, validB, inB, wI, *, Bool.true_and, Bool.and_true, Bool.false_and, Bool.and_false])
theorem twice_pure : Pure Try.prog 34 [] (plD 6 [(2, 0, 2), (2, 1, 2)]) := by
  refine pure_of pg Try.func34 (by kernel_rfl) ?_
  ((conv => whnf); repeat (first | (refine ChL.l ?_; (conv => whnf)) | (refine ChC.r ?_; (conv => whnf))))
  rfl
theorem asked_pure (d : S4) (lot most : Int) : Pure Try.prog 50 [deD d, dI lot, dI most] (dI (if validB d = false then 1 else if inB lot 1 most = false ∨ lot < d.2.1 then 2 else 0)) := by
  refine pure_of pg Try.func50 (by kernel_rfl) ?_
  ((conv => whnf); repeat (first | (refine ChL.l ?_; (conv => whnf)) | (refine ChC.r ?_; (conv => whnf))))
  (refine .inl ⟨_, valid_pure d, ?_⟩; ((conv => whnf); repeat (first | (refine ChL.l ?_; (conv => whnf)) | (refine ChC.r ?_; (conv => whnf)))))
  (repeat' (first | (apply kT (by with_reducible first | rfl | assumption); ((conv => whnf); repeat (first | (refine ChL.l ?_; (conv => whnf)) | (refine ChC.r ?_; (conv => whnf))))) | (apply kF (by with_reducible first | rfl | assumption); ((conv => whnf); repeat (first | (refine ChL.l ?_; (conv => whnf)) | (refine ChC.r ?_; (conv => whnf))))) | (apply kB <;> intro _ <;> ((conv => whnf); repeat (first | (refine ChL.l ?_; (conv => whnf)) | (refine ChC.r ?_; (conv => whnf))))) | (refine .inl ⟨_, within_pure .., ?_⟩; ((conv => whnf); repeat (first | (refine ChL.l ?_; (conv => whnf)) | (refine ChC.r ?_; (conv => whnf)))))))
  all_goals simp_all [oneD]
  all_goals omega
/-- does a plan keep a demand, by the counts -/
def keptB (g b : N3) (al be : Int) : Bool :=
  decide (mulI (mulI 1 (wI g.1)) 1000 ≥ mulI (mulI 1 (wI (1000 - al))) (wI g.2.2)) && decide (mulI (mulI 1 (wI b.1)) 1000 ≤ mulI (mulI 1 be) (wI b.2.2))
theorem kept_pure {n : Nat} (hn : n ≤ 30) {l : List S3} (hl : l.length ≤ 3) {good bad : Nat} (hg : good ≤ n) (hb : bad ≤ n) (hf : Fit n 0 l) (he : Ends l) (al be : Int) :
    Pure Try.prog 49 [deD (good, bad, al, be), plD n l] (dB (keptB (goN n good l 0 0) (goN n bad l 0 0) al be)) := by
  have c1 := count_bor hn hl hg hf he
  have c2 := count_bor hn hl hb hf he
  generalize goN n good l 0 0 = x at c1 ⊢
  generalize goN n bad l 0 0 = y at c2 ⊢
  refine pure_of pg Try.func49 (by kernel_rfl) ?_
  ((conv => whnf); repeat (first | (refine ChL.l ?_; (conv => whnf)) | (refine ChC.r ?_; (conv => whnf))))
  refine .inr ⟨[], 2, _, _, on_bor .., ?_⟩
  ((conv => whnf); repeat (first | (refine ChL.l ?_; (conv => whnf)) | (refine ChC.r ?_; (conv => whnf))))
  (refine .inr ⟨[14, 15], 2, _, _, lendBO [14, 15] [] 14 (x := .own 0) rfl c1, ?_⟩; ((conv => whnf); repeat (first | (refine ChL.l ?_; (conv => whnf)) | (refine ChC.r ?_; (conv => whnf)))))
  (refine .inr ⟨[], 2, _, _, on_bor .., ?_⟩; ((conv => whnf); repeat (first | (refine ChL.l ?_; (conv => whnf)) | (refine ChC.r ?_; (conv => whnf)))))
  (refine .inr ⟨[34, 35], 2, _, _, lendBO [34, 35] [] 34 (x := .own 0) rfl c2, ?_⟩; ((conv => whnf); repeat (first | (refine ChL.l ?_; (conv => whnf)) | (refine ChC.r ?_; (conv => whnf)))))
  (repeat' (first | (apply kT (by with_reducible first | rfl | assumption); ((conv => whnf); repeat (first | (refine ChL.l ?_; (conv => whnf)) | (refine ChC.r ?_; (conv => whnf))))) | (apply kF (by with_reducible first | rfl | assumption); ((conv => whnf); repeat (first | (refine ChL.l ?_; (conv => whnf)) | (refine ChC.r ?_; (conv => whnf))))) | (apply kT (by decide); ((conv => whnf); repeat (first | (refine ChL.l ?_; (conv => whnf)) | (refine ChC.r ?_; (conv => whnf))))) | (apply kF (by decide); ((conv => whnf); repeat (first | (refine ChL.l ?_; (conv => whnf)) | (refine ChC.r ?_; (conv => whnf))))) | (apply kB <;> intro _ <;> ((conv => whnf); repeat (first | (refine ChL.l ?_; (conv => whnf)) | (refine ChC.r ?_; (conv => whnf))))) | (refine .inl ⟨_, times2_pure .., ?_⟩; ((conv => whnf); repeat (first | (refine ChL.l ?_; (conv => whnf)) | (refine ChC.r ?_; (conv => whnf))))) | fail))
  all_goals (rename_i h; unfold keptB; simp only [wI] at h ⊢; rw [h]; rfl)
/-- the plan of one stage -/
abbrev oneP (take accept : Int) : List S3 := [(take, accept, accept + 1)]
theorem one_fit {n take : Nat} {accept : Int} (h1 : 1 ≤ take) (h2 : take ≤ n) : Fit n 0 (oneP take accept) ∧ Ends (oneP take accept) := by
  refine ⟨⟨take, rfl, h1, by omega, trivial⟩, rfl⟩
/-- does the plan of one stage keep a demand -/
def keptS (n : Nat) (d : S4) (take : Nat) (acc : Int) : Bool := keptB (goN n d.1.toNat (oneP take acc) 0 0) (goN n d.2.1.toNat (oneP take acc) 0 0) d.2.2.1 d.2.2.2
attribute [local irreducible] keptS
/-- the first plan of one stage that keeps a demand: from a take and an accept on -/
def singleA (n : Nat) (d : S4) (take : Nat) : Nat → Int → Option Int
  | 0, _ => none
  | j + 1, acc => if keptS n d take acc then some acc else singleA n d take j (acc + 1)
theorem singleA_zero (n : Nat) (d : S4) (take : Nat) (acc : Int) : singleA n d take 0 acc = none := by rw [singleA]
theorem singleA_succ (n : Nat) (d : S4) (take j : Nat) (acc : Int) : singleA n d take (j + 1) acc = if keptS n d take acc then some acc else singleA n d take j (acc + 1) := by rw [singleA]
attribute [local irreducible] singleA
def singleN (n : Nat) (d : S4) : Nat → Nat → Nat × Int
  | 0, _ => (n, n)
  | k + 1, take => match singleA n d take (take + 2) (-1) with
    | some a => (take, a)
    | none => singleN n d k (take + 1)
theorem singleN_zero (n : Nat) (d : S4) (take : Nat) : singleN n d 0 take = (n, (n : Int)) := by rw [singleN]
theorem singleN_succ (n : Nat) (d : S4) (take k : Nat) : singleN n d (k + 1) take = match singleA n d take (take + 2) (-1) with
    | some a => (take, a)
    | none => singleN n d k (take + 1) := by rw [singleN]
attribute [local irreducible] singleN
/-- demands as described -/
def Dem (d : S4) : Prop := 0 ≤ d.1 ∧ d.1 < d.2.1 ∧ d.2.1 ≤ 30 ∧ 0 ≤ d.2.2.1 ∧ d.2.2.1 ≤ 1000 ∧ 0 ≤ d.2.2.2 ∧ d.2.2.2 ≤ 1000
theorem Dem.valid {d : S4} (h : Dem d) : validB d = true := by
  obtain ⟨h1, h2, h3, h4, h5, h6, h7⟩ := h
  have e : wI (d.2.1 - 1) = d.2.1 - 1 := wrapI (by omega) (by omega)
  simp only [validB, inB, Bool.and_eq_true, decide_eq_true_eq, e]
  omega
def singleI (lot : Int) (d : S4) : Int × List S3 × Int :=
  if inB lot 1 30 = false ∨ lot < d.2.1 then (0, [], 2) else
    (lot, oneP (singleN lot.toNat d lot.toNat 1).1 (singleN lot.toNat d lot.toNat 1).2, 0)
set_option maxHeartbeats 2000000 in
theorem single_pure (lot : Int) (d : S4) (hd : Dem d) : Pure Try.prog 33 [dI lot, deD d] (.tup [plD (singleI lot d).1 (singleI lot d).2.1, dI (singleI lot d).2.2]) := by
  obtain ⟨good, bad, al, be⟩ := d
  refine pure_of_n pg Try.func33 (by kernel_rfl) ?_
  ((conv => whnf); repeat (first | (refine ChL.l ?_; (conv => whnf)) | (refine ChC.r ?_; (conv => whnf))))
  have ha := asked_pure (good, bad, al, be) lot 30
  rw [if_neg (by simp [hd.valid])] at ha
  by_cases h2 : inB lot 1 30 = false ∨ lot < bad
  · rw [if_pos h2] at ha
    (refine .inl ⟨_, ha, ?_⟩; ((conv => whnf); repeat (first | (refine ChL.l ?_; (conv => whnf)) | (refine ChC.r ?_; (conv => whnf)))))
    (apply kT (rfl); ((conv => whnf); repeat (first | (refine ChL.l ?_; (conv => whnf)) | (refine ChC.r ?_; (conv => whnf)))))
    have e : singleI lot (good, bad, al, be) = (0, [], 2) := by unfold singleI; rw [if_pos h2]
    rw [e]
    rfl
  · rw [if_neg h2] at ha
    (refine .inl ⟨_, ha, ?_⟩; ((conv => whnf); repeat (first | (refine ChL.l ?_; (conv => whnf)) | (refine ChC.r ?_; (conv => whnf)))))
    (apply kF (rfl); ((conv => whnf); repeat (first | (refine ChL.l ?_; (conv => whnf)) | (refine ChC.r ?_; (conv => whnf)))))
    have e : singleI lot (good, bad, al, be) = (lot, oneP (singleN lot.toNat (good, bad, al, be) lot.toNat 1).1 (singleN lot.toNat (good, bad, al, be) lot.toNat 1).2, 0) := by unfold singleI; rw [if_neg h2]
    rw [e]
    obtain ⟨hg1, hg2, hb2, ha1, ha2, hb3, hb4⟩ := hd
    have h2' : 1 ≤ lot ∧ lot ≤ 30 ∧ bad ≤ lot := by
      simp only [inB, not_or, Bool.not_eq_false, Bool.and_eq_true, decide_eq_true_eq, Int.not_lt] at h2
      exact ⟨h2.1.1, h2.1.2, h2.2⟩
    dsimp only at hg1 hg2 hb2
    obtain ⟨n, rfl⟩ : ∃ n : Nat, lot = n := ⟨lot.toNat, by omega⟩
    obtain ⟨g, rfl⟩ : ∃ g : Nat, good = g := ⟨good.toNat, by omega⟩
    obtain ⟨b, rfl⟩ : ∃ b : Nat, bad = b := ⟨bad.toNat, by omega⟩
    rw [Int.toNat_natCast]
    obtain ⟨d, hd⟩ : ∃ d : S4, d = (↑g, ↑b, al, be) := ⟨_, rfl⟩
    refine ⟨[.cseq 1 1, .cseq 2 1], [0, 4, 7, 8, 9], [1, 2], 3, fun k s => ∃ (take : Nat) (x : Int) (y : List (List D)), take + k = n + 1 ∧ 1 ≤ take ∧ singleN n d k take = singleN n d n 1 ∧ (k = 0 → x = n ∧ y = [stD (n, n, n + 1)]) ∧
      s = ⟨[(0, .d (dI n)), (4, .ref 1 0), (7, .d (.fn (.func 49) [deD (g, b, al, be)] [])), (8, .ref 2 0), (9, .d (dI (take : Int)))],
        [(1, .var false 31 [.d (dI 0), .d (.seq [])]), (2, .var false 31 [.d (dI x), .d (.seq y)])], 3⟩, ?_, ?_⟩
    · ((conv => whnf); repeat (first | (refine ChL.l ?_; (conv => whnf)) | (refine ChC.r ?_; (conv => whnf))))
      exact ⟨n, 1, 0, [], by omega, Nat.le_refl _, rfl, fun h => by omega, rfl⟩
    · rintro k _ ⟨take, x, y, hk, h1t, hs, hxy, rfl⟩
      ((conv => whnf); repeat (first | (refine ChL.l ?_; (conv => whnf)) | (refine ChC.r ?_; (conv => whnf))))
      (apply kB <;> intro h <;> ((conv => whnf); repeat (first | (refine ChL.l ?_; (conv => whnf)) | (refine ChC.r ?_; (conv => whnf)))))
      · rw [decide_eq_true_eq] at h
        obtain ⟨k', hk'⟩ : ∃ j, k = j + 1 := ⟨k - 1, by omega⟩
        rw [hk', singleN_succ] at hs
        refine ⟨[], [0, 4, 7, 8, 9, 10], [1, 2], 3, fun j s => ∃ (acc : Int) (x : Int) (y : List (List D)), acc + j = take + 1 ∧ -1 ≤ acc ∧ singleA n d take j acc = singleA n d take (take + 2) (-1) ∧ (j = 0 → x = n ∧ y = [stD (take, take, take + 1)]) ∧
          s = ⟨[(0, .d (dI n)), (4, .ref 1 0), (7, .d (.fn (.func 49) [deD (g, b, al, be)] [])), (8, .ref 2 0), (9, .d (dI (take : Int))), (10, .d (dI acc))],
            [(1, .var false 31 [.d (dI 0), .d (.seq [])]), (2, .var false 31 [.d (dI x), .d (.seq y)])], 3⟩, ?_, ?_⟩
        · ((conv => whnf); repeat (first | (refine ChL.l ?_; (conv => whnf)) | (refine ChC.r ?_; (conv => whnf))))
          exact ⟨take + 2, -1, x, y, by omega, by omega, rfl, fun h => by omega, rfl⟩
        · rintro j _ ⟨acc, x, y, hj, hac, hjs, hxy, rfl⟩
          ((conv => whnf); repeat (first | (refine ChL.l ?_; (conv => whnf)) | (refine ChC.r ?_; (conv => whnf))))
          (apply kB <;> intro h' <;> ((conv => whnf); repeat (first | (refine ChL.l ?_; (conv => whnf)) | (refine ChC.r ?_; (conv => whnf)))))
          · rw [decide_eq_true_eq] at h'
            obtain ⟨j', hj'⟩ : ∃ i, j = i + 1 := ⟨j - 1, by omega⟩
            rw [hj', singleA_succ] at hjs
            have e1 : IntKind.i64.wrap (acc + 1) = acc + 1 := wrapI (by omega) (by omega)
            have hfe := one_fit (n := n) (take := take) (accept := acc) h1t (by omega)
            have hkp := kept_pure (n := n) (by omega) (l := oneP take acc) (by simp) (good := g) (bad := b) (by omega) (by omega) hfe.1 hfe.2 al be
            have hkq : keptB (goN n g (oneP take acc) 0 0) (goN n b (oneP take acc) 0 0) al be = keptS n d take acc := by rw [hd]; unfold keptS; rfl
            rw [hkq] at hkp
            have hpl : plD n (oneP take acc) = .agg [dI n, .seq [[dI take, dI acc, dI (IntKind.i64.wrap (acc + 1))]]] := by rw [e1]; rfl
            rw [hpl] at hkp
            (refine .inl ⟨_, hkp, ?_⟩; ((conv => whnf); repeat (first | (refine ChL.l ?_; (conv => whnf)) | (refine ChC.r ?_; (conv => whnf)))))
            (apply kB <;> intro h2 <;> ((conv => whnf); repeat (first | (refine ChL.l ?_; (conv => whnf)) | (refine ChC.r ?_; (conv => whnf)))))
            · rw [if_pos h2] at hjs
              rw [← hjs] at hs
              rw [← hd, ← hs, e1]
              rfl
            · rw [if_neg (by simp [h2])] at hjs
              refine ⟨j - 1, by omega, acc + 1, n, [stD (take, acc, acc + 1)], by omega, by omega, by rw [hj']; exact hjs, fun h0 => ⟨rfl, ?_⟩, ?_⟩
              · have : acc = take := by omega
                rw [this]
              · rw [e1]; rfl
          · rw [decide_eq_false_iff_not] at h'
            have hj0 : j = 0 := by omega
            rw [hj0, singleA_zero] at hjs
            rw [← hjs] at hs
            have e1 : IntKind.i64.wrap ((take : Int) + 1) = ((take + 1 : Nat) : Int) := by rw [wrapI (by omega) (by omega)]; rfl
            refine ⟨k - 1, by omega, take + 1, x, y, by omega, by omega, by rw [hk']; exact hs, fun h0 => ?_, ?_⟩
            · obtain ⟨p, q⟩ := hxy hj0
              have : take = n := by omega
              rw [← this]
              exact ⟨by rw [p, this], q⟩
            · rw [e1]
      · have hk0 : k = 0 := by rw [decide_eq_false_iff_not] at h; omega
        obtain ⟨rfl, rfl⟩ := hxy hk0
        rw [hk0, singleN_zero] at hs
        rw [← hd, ← hs]
        rfl
end Go.Ev.Ythmandhpmkfopaa

set_option linter.unusedVariables false
set_option linter.unusedSimpArgs false
set_option maxRecDepth 100000
namespace Go.Ev.Ythmandhpmkfopaa
open Go.Proofs
theorem sh_two : sh (·.1) 6 [(2, 0, 2), (2, 1, 2)] 2 = (2, 3, 0) := by kernel_rfl
theorem sh_mean : sh (·.2.1) 6 [(2, 0, 2), (2, 1, 2)] 2 = (46, 15, 0) := by kernel_rfl
theorem play_two : playI 6 [(2, 0, 2), (2, 1, 2)] [false, true, false, false] = (1, 0, 0) := by kernel_rfl
theorem single_six : singleI 6 (0, 3, 0, 200) = (6, [(2, 0, 1)], 0) := by kernel_rfl
attribute [local irreducible] Pure Bor Iter tri C memo goN check
theorem wakes_pure : Pure Try.prog 15 [] (dB true) := by
  have c1 := chance_pure 6 [(2, 0, 2), (2, 1, 2)] (by decide) (by intro x hx; simp at hx; rcases hx with rfl | rfl <;> simp [InS, InR]) 2
  have c2 := mean_pure 6 [(2, 0, 2), (2, 1, 2)] (by decide) (by intro x hx; simp at hx; rcases hx with rfl | rfl <;> simp [InS, InR]) 2
  have c3 := play_pure 6 [(2, 0, 2), (2, 1, 2)] (by decide) (by intro x hx; simp at hx; rcases hx with rfl | rfl <;> simp [InS, InR]) [false, true, false, false] (by decide)
  have c4 := single_pure 6 (0, 3, 0, 200) (by unfold Dem; decide)
  rw [sh_two] at c1
  rw [sh_mean] at c2
  rw [play_two] at c3
  rw [single_six] at c4
  refine pure_of pg Try.func15 (by kernel_rfl) ?_
  ((conv => whnf); repeat (first | (refine ChL.l ?_; (conv => whnf)) | (refine ChC.r ?_; (conv => whnf))))
  (refine .inl ⟨_, twice_pure, ?_⟩; ((conv => whnf); repeat (first | (refine ChL.l ?_; (conv => whnf)) | (refine ChC.r ?_; (conv => whnf)))))
  (refine .inl ⟨_, c1, ?_⟩; ((conv => whnf); repeat (first | (refine ChL.l ?_; (conv => whnf)) | (refine ChC.r ?_; (conv => whnf)))))
  (refine .inl ⟨_, twice_pure, ?_⟩; ((conv => whnf); repeat (first | (refine ChL.l ?_; (conv => whnf)) | (refine ChC.r ?_; (conv => whnf)))))
  (refine .inl ⟨_, c2, ?_⟩; ((conv => whnf); repeat (first | (refine ChL.l ?_; (conv => whnf)) | (refine ChC.r ?_; (conv => whnf)))))
  (refine .inl ⟨_, twice_pure, ?_⟩; ((conv => whnf); repeat (first | (refine ChL.l ?_; (conv => whnf)) | (refine ChC.r ?_; (conv => whnf)))))
  (refine .inl ⟨_, c3, ?_⟩; ((conv => whnf); repeat (first | (refine ChL.l ?_; (conv => whnf)) | (refine ChC.r ?_; (conv => whnf)))))
  (refine .inl ⟨_, c4, ?_⟩; ((conv => whnf); repeat (first | (refine ChL.l ?_; (conv => whnf)) | (refine ChC.r ?_; (conv => whnf)))))
  repeat' (first | (apply kT (by decide); ((conv => whnf); repeat (first | (refine ChL.l ?_; (conv => whnf)) | (refine ChC.r ?_; (conv => whnf))))) | (refine ⟨0, _, rfl, rfl, rfl, ?_⟩; ((conv => whnf); repeat (first | (refine ChL.l ?_; (conv => whnf)) | (refine ChC.r ?_; (conv => whnf))))))
  rfl
theorem thin_pure (lot : Int) (l : List S3) : Pure Try.prog 14 [plD lot l] (dB (decide ((l.length : Int) ≤ 5))) := by
  refine pure_of pg Try.func14 (by kernel_rfl) ?_
  ((conv => whnf); repeat (first | (refine ChL.l ?_; (conv => whnf)) | (refine ChC.r ?_; (conv => whnf))))
  rw [List.length_map]
  rfl
theorem plan_pure (lot : Int) (l : List S3) (hl : l.length ≤ 1000) : Pure Try.prog 17 [plD lot l] (plD lot l) := by
  refine pure_of pg Try.func17 (by kernel_rfl) ?_
  ((conv => whnf); repeat (first | (refine ChL.l ?_; (conv => whnf)) | (refine ChC.r ?_; (conv => whnf))))
  refine ⟨[.cown 2 1 61], [1, 2, 3, 4], [0, 1, 2, 3], 4, fun m s => ∃ k : Nat, k + m = l.length ∧
    s = ⟨[(1, .ref 0 0), (2, .ref 1 0), (3, .ref 2 0), (4, .d (dI k))], [(0, .var false 24 [.d (dI lot), .d (.seq (l.map stD))]), (1, .var false 31 [.d (dI 0), .d (.v (.slice none 0 0))]), (2, .var false 31 [.d (dI lot), .own 3]), (3, .arr 61 ((l.take k).map stD))], 4⟩, ?_, ?_⟩
  · ((conv => whnf); repeat (first | (refine ChL.l ?_; (conv => whnf)) | (refine ChC.r ?_; (conv => whnf))))
    exact ⟨l.length, 0, by simp, rfl⟩
  · rintro m _ ⟨k, hk, rfl⟩
    ((conv => whnf); repeat (first | (refine ChL.l ?_; (conv => whnf)) | (refine ChC.r ?_; (conv => whnf))))
    (apply kB <;> intro h <;> ((conv => whnf); repeat (first | (refine ChL.l ?_; (conv => whnf)) | (refine ChC.r ?_; (conv => whnf)))))
    · have hlt : k < l.length := by simpa using h
      have e1 : IntKind.i64.wrap ((k : Int) + 1) = ((k + 1 : Nat) : Int) := by rw [wrapI (by omega) (by omega)]; rfl
      have htk : (l.take k).length ≤ k := List.length_take_le _ _
      (refine ⟨k, stD l[k], rfl, getD? l k hlt, rfl, ?_⟩; ((conv => whnf); repeat (first | (refine ChL.l ?_; (conv => whnf)) | (refine ChC.r ?_; (conv => whnf)))))
      (refine ⟨by simp, ?_⟩; ((conv => whnf); repeat (first | (refine ChL.l ?_; (conv => whnf)) | (refine ChC.r ?_; (conv => whnf)))))
      (refine ⟨by rw [List.length_map]; simp only [List.length_singleton]; omega, ?_⟩; ((conv => whnf); repeat (first | (refine ChL.l ?_; (conv => whnf)) | (refine ChC.r ?_; (conv => whnf)))))
      refine ⟨m - 1, by omega, k + 1, by omega, ?_⟩
      rw [e1, List.take_succ_eq_append_getElem hlt, List.map_append]
      rfl
    · have hge : l.length ≤ k := by simpa using h
      have e : l.take k = l := List.take_of_length_le hge
      rw [e]
      rfl
end Go.Ev.Ythmandhpmkfopaa

set_option linter.unusedVariables false
set_option linter.unusedSimpArgs false
set_option maxRecDepth 100000
namespace Go.Ev.Ythmandhpmkfopaa
open Go.Proofs
attribute [local irreducible] Pure Bor Iter tri C memo goN check
def fR (lot : Int) : List S3 → Int → Option S3 → Int
  | [], _, _ => 0
  | s :: r, taken, prev =>
    bif !inB s.1 1 30 || decide (wI (taken + s.1) > lot) then 1 else
    bif !inB s.2.1 (-1) 30 || decide (s.2.2 ≤ s.2.1) || decide (s.2.2 > wI (wI (taken + s.1) + 1)) then 1 else
    bif (match prev with | none => false | some q => decide (s.2.1 < q.2.1) || decide (s.2.2 < q.2.2)) then 1 else
    bif r.isEmpty && (s.2.2 != wI (s.2.1 + 1)) then 1 else fR lot r (wI (taken + s.1)) (some s)
def ltP (q : S3) : Option S3 → Bool
  | none => false
  | some p => decide (q.2.1 < p.2.1) || decide (q.2.2 < p.2.2)
theorem fR_cons (lot : Int) (q : S3) (r : List S3) (taken : Int) (prev : Option S3) : fR lot (q :: r) taken prev = bif !inB q.1 1 30 || decide (wI (taken + q.1) > lot) then 1 else
            bif !inB q.2.1 (-1) 30 || decide (q.2.2 ≤ q.2.1) || decide (q.2.2 > wI (wI (taken + q.1) + 1)) then 1 else
            bif ltP q prev then 1 else
            bif r.isEmpty && (q.2.2 != wI (q.2.1 + 1)) then 1 else fR lot r (wI (taken + q.1)) (some q) := by
  cases prev <;> rfl
def faultR (lot : Int) (l : List S3) : Int := bif decide ((l.length : Int) > 3) then 3 else bif !inB lot 1 30 || l.isEmpty then 1 else fR lot l 0 none
theorem fault0_pure (lot : Int) (l : List S3) : Pure Try.prog 37 [plD lot l] (dI (faultR lot l)) := by
  refine pure_of pg Try.func37 (by kernel_rfl) ?_
  ((conv => whnf); repeat (first | (refine ChL.l ?_; (conv => whnf)) | (refine ChC.r ?_; (conv => whnf))))
  have hm : ((List.map stD l).length : Int) = (l.length : Int) := by rw [List.length_map]
  (apply kB <;> intro h3 <;> ((conv => whnf); repeat (first | (refine ChL.l ?_; (conv => whnf)) | (refine ChC.r ?_; (conv => whnf)))))
  · rw [hm] at h3
    simp only [faultR, h3, cond_true]
    rfl
  · rw [hm] at h3
    (refine .inl ⟨_, in_pure .., ?_⟩; ((conv => whnf); repeat (first | (refine ChL.l ?_; (conv => whnf)) | (refine ChC.r ?_; (conv => whnf)))))
    (repeat' (first | (apply kT (by with_reducible first | rfl | assumption); ((conv => whnf); repeat (first | (refine ChL.l ?_; (conv => whnf)) | (refine ChC.r ?_; (conv => whnf))))) | (apply kF (by with_reducible first | rfl | assumption); ((conv => whnf); repeat (first | (refine ChL.l ?_; (conv => whnf)) | (refine ChC.r ?_; (conv => whnf))))) | (apply kT (by decide); ((conv => whnf); repeat (first | (refine ChL.l ?_; (conv => whnf)) | (refine ChC.r ?_; (conv => whnf))))) | (apply kF (by decide); ((conv => whnf); repeat (first | (refine ChL.l ?_; (conv => whnf)) | (refine ChC.r ?_; (conv => whnf))))) | (apply kB <;> intro _ <;> ((conv => whnf); repeat (first | (refine ChL.l ?_; (conv => whnf)) | (refine ChC.r ?_; (conv => whnf))))) | fail))
    · rename_i h
      simp only [faultR, h3, h, cond_false, Bool.true_or, cond_true]
      rfl
    · rename_i h h'
      have hl : l = [] := by
        rw [hm] at h'
        have : (l.length : Int) = 0 := by simpa using h'
        exact List.length_eq_zero_iff.1 (by omega)
      simp only [faultR, h3, h, hl, cond_false, List.isEmpty_nil, Bool.or_true, cond_true]
      rfl
    · rename_i h h'
      have hl : l.isEmpty = false := by
        rw [hm] at h'
        cases l with
        | nil => simp at h'
        | cons a l => rfl
      have hlen : l.length ≤ 3 := by
        have : ¬ ((l.length : Int) > 3) := by simpa using h3
        omega
      have hf : faultR lot l = fR lot l 0 none := by simp only [faultR, h3, h, hl, cond_false, Bool.or_false]
      rw [hf]
      clear hf h' h h3
      refine ⟨[], [1, 3, 4], [0], 1, fun m s => ∃ (k : Nat) (taken : Int) (prev : Option S3), k + m = l.length ∧ fR lot (l.drop k) taken prev = fR lot l 0 none ∧
        ((k = 0 ∧ prev = none) ∨ ∃ j q, k = j + 1 ∧ (l.map stD)[j]? = some (stD q) ∧ prev = some q) ∧
        s = ⟨[(1, .ref 0 0), (3, .d (dI taken)), (4, .d (dI k))], [(0, .var false 24 [.d (dI lot), .d (.seq (l.map stD))])], 1⟩, ?_, ?_⟩
      · ((conv => whnf); repeat (first | (refine ChL.l ?_; (conv => whnf)) | (refine ChC.r ?_; (conv => whnf))))
        exact ⟨l.length, 0, 0, none, by omega, rfl, .inl ⟨rfl, rfl⟩, rfl⟩
      · rintro m _ ⟨k, taken, prev, hk, hc, hprev, rfl⟩
        ((conv => whnf); repeat (first | (refine ChL.l ?_; (conv => whnf)) | (refine ChC.r ?_; (conv => whnf))))
        (apply kB <;> intro h <;> ((conv => whnf); repeat (first | (refine ChL.l ?_; (conv => whnf)) | (refine ChC.r ?_; (conv => whnf)))))
        · have hlt : k < l.length := by rw [decide_eq_true_eq, hm] at h; omega
          have hd : l.drop k = l[k] :: l.drop (k + 1) := (List.getElem_cons_drop ..).symm
          rw [hd] at hc
          have hq := getD? l k hlt
          generalize l[k] = q at hc hq
          clear hd
          have e1 : IntKind.i64.wrap ((k : Int) + 1) = ((k + 1 : Nat) : Int) := by rw [wrapI (by omega) (by omega)]; rfl
          have hlast : (((k : Nat) : Int) == IntKind.i64.wrap (((List.map stD l).length : Int) - 1)) = (l.drop (k + 1)).isEmpty := by
            rw [hm, wrapI (by omega) (by omega), Bool.eq_iff_iff, beq_iff_eq, List.isEmpty_iff, List.drop_eq_nil_iff]
            omega
          generalize hrd : l.drop (k + 1) = r at hc hlast
          (refine ⟨k, stD q, rfl, hq, rfl, ?_⟩; ((conv => whnf); repeat (first | (refine ChL.l ?_; (conv => whnf)) | (refine ChC.r ?_; (conv => whnf)))))
          rw [fR_cons] at hc
          rcases Bool.eq_false_or_eq_true r.isEmpty with hr | hr <;> rw [hr] at hlast hc <;> rcases hprev with ⟨hk0, hp⟩ | ⟨j, p, hj, hp, hpp⟩
          case inl.inl | inr.inl =>
            have hk0' : decide ((k : Int) > 0) = false := by simp; omega
            rw [hp, ltP] at hc
            (repeat' (first | (apply kT (by with_reducible first | rfl | assumption); ((conv => whnf); repeat (first | (refine ChL.l ?_; (conv => whnf)) | (refine ChC.r ?_; (conv => whnf))))) | (apply kF (by with_reducible first | rfl | assumption); ((conv => whnf); repeat (first | (refine ChL.l ?_; (conv => whnf)) | (refine ChC.r ?_; (conv => whnf))))) | (apply kT (by decide); ((conv => whnf); repeat (first | (refine ChL.l ?_; (conv => whnf)) | (refine ChC.r ?_; (conv => whnf))))) | (apply kF (by decide); ((conv => whnf); repeat (first | (refine ChL.l ?_; (conv => whnf)) | (refine ChC.r ?_; (conv => whnf))))) | (apply kB <;> intro _ <;> ((conv => whnf); repeat (first | (refine ChL.l ?_; (conv => whnf)) | (refine ChC.r ?_; (conv => whnf))))) | (refine .inl ⟨_, in_pure .., ?_⟩; ((conv => whnf); repeat (first | (refine ChL.l ?_; (conv => whnf)) | (refine ChC.r ?_; (conv => whnf))))) | fail))
            all_goals simp only [*, cond_true, cond_false, Bool.or_true, Bool.true_or, Bool.or_false, Bool.false_or, Bool.and_true, Bool.true_and, Bool.and_false, Bool.false_and] at hc
            all_goals first
              | (rw [← hc]; rfl)
              | (refine ⟨m - 1, by omega, k + 1, _, some q, by omega, by rw [hrd]; exact hc, .inr ⟨k, q, rfl, hq, rfl⟩, ?_⟩; rw [e1])
          case inl.inr | inr.inr =>
            have hk0' : decide ((k : Int) > 0) = true := by simp; omega
            have e2 : IntKind.i64.wrap ((k : Int) - 1) = (j : Int) := by rw [wrapI (by omega) (by omega)]; omega
            rw [hpp, ltP] at hc
            (repeat' (first | (apply kT (by with_reducible first | rfl | assumption); ((conv => whnf); repeat (first | (refine ChL.l ?_; (conv => whnf)) | (refine ChC.r ?_; (conv => whnf))))) | (apply kF (by with_reducible first | rfl | assumption); ((conv => whnf); repeat (first | (refine ChL.l ?_; (conv => whnf)) | (refine ChC.r ?_; (conv => whnf))))) | (apply kT (by decide); ((conv => whnf); repeat (first | (refine ChL.l ?_; (conv => whnf)) | (refine ChC.r ?_; (conv => whnf))))) | (apply kF (by decide); ((conv => whnf); repeat (first | (refine ChL.l ?_; (conv => whnf)) | (refine ChC.r ?_; (conv => whnf))))) | (apply kB <;> intro _ <;> ((conv => whnf); repeat (first | (refine ChL.l ?_; (conv => whnf)) | (refine ChC.r ?_; (conv => whnf))))) | (refine .inl ⟨_, in_pure .., ?_⟩; ((conv => whnf); repeat (first | (refine ChL.l ?_; (conv => whnf)) | (refine ChC.r ?_; (conv => whnf))))) | (refine ⟨j, stD p, e2, hp, rfl, ?_⟩; ((conv => whnf); repeat (first | (refine ChL.l ?_; (conv => whnf)) | (refine ChC.r ?_; (conv => whnf))))) | fail))
            all_goals simp only [*, cond_true, cond_false, Bool.or_true, Bool.true_or, Bool.or_false, Bool.false_or, Bool.and_true, Bool.true_and, Bool.and_false, Bool.false_and] at hc
            all_goals first
              | (rw [← hc]; rfl)
              | (refine ⟨m - 1, by omega, k + 1, _, some q, by omega, by rw [hrd]; exact hc, .inr ⟨k, q, rfl, hq, rfl⟩, ?_⟩; rw [e1])
        · have hkl : l.length ≤ k := by rw [decide_eq_false_iff_not, hm] at h; omega
          rw [List.drop_of_length_le hkl, fR] at hc
          rw [← hc]
          rfl
end Go.Ev.Ythmandhpmkfopaa

set_option linter.unusedVariables false
set_option linter.unusedSimpArgs false
namespace Go.Ev.Ythmandhpmkfopaa
theorem bif_iff {p : Bool} {q : Prop} [Decidable q] {α : Type} {a b : α} (h : p = true ↔ q) : (bif p then a else b) = if q then a else b := by
  by_cases hq : q
  · rw [if_pos hq, h.2 hq]; rfl
  · rw [if_neg hq]
    have : p = false := by
      cases p with
      | false => rfl
      | true => exact absurd (h.1 rfl) hq
    rw [this]; rfl
theorem fR_low {lot : Int} : ∀ {r : List S3} {taken : Int} {prev : Option S3}, (∃ x ∈ r, x.1 < 1) → fR lot r taken prev = 1
  | [], _, _, h => by obtain ⟨x, hx, _⟩ := h; cases hx
  | s :: r, taken, prev, h => by
    rw [fR_cons]
    by_cases h1 : s.1 < 1
    · have : inB s.1 1 30 = false := by
        simp only [inB, Bool.and_eq_false_iff, decide_eq_false_iff_not]; left; omega
      rw [this]; rfl
    · have h' : ∃ x ∈ r, x.1 < 1 := by
        obtain ⟨x, hx, hx1⟩ := h
        rcases List.mem_cons.1 hx with rfl | hx
        · exact absurd hx1 h1
        · exact ⟨x, hx, hx1⟩
      have hr : r.isEmpty = false := by
        obtain ⟨x, hx, _⟩ := h'
        cases r with
        | nil => cases hx
        | cons a r => rfl
      rw [fR_low h', hr]
      simp only [Bool.false_and, cond_false]
      generalize (!inB s.1 1 30 || decide (wI (taken + s.1) > lot)) = a
      generalize (!inB s.2.1 (-1) 30 || decide (s.2.2 ≤ s.2.1) || decide (s.2.2 > wI (wI (taken + s.1) + 1))) = b
      generalize ltP s prev = c
      cases a <;> cases b <;> cases c <;> rfl
theorem chk_max {lot : Int} : ∀ {r : List S3} {taken : Int} {last : S3}, (∀ x ∈ r, InS x) → last.2.1 = 9223372036854775807 → 0 ≤ last.2.2 → chk lot r taken last = 1
  | [], taken, last, _, h1, h2 => by
    unfold chk
    rw [if_pos]
    rw [h1]
    have : wI (9223372036854775807 + 1) = -9223372036854775808 := by decide
    rw [this]; omega
  | s :: r, taken, last, hi, h1, h2 => by
    unfold chk
    split
    · rfl
    · split
      · rfl
      · rename_i h3
        have hs := (hi s (by simp)).2.1
        have h4 : s.2.1 = 9223372036854775807 := by
          unfold InR at hs
          omega
        exact chk_max (fun x hx => hi x (by simp [hx])) h4 (by omega)
theorem chk_fR {lot : Nat} (hlot : lot ≤ 30) : ∀ (r : List S3) (taken : Nat) (last : S3) (prev : Option S3), r ≠ [] → taken ≤ lot → (∀ x ∈ r, 1 ≤ x.1) → (∀ x ∈ r, InS x) → ((prev = none ∧ last = (0, -1, 0)) ∨ (prev = some last ∧ -1 ≤ last.2.1 ∧ 0 ≤ last.2.2)) →
    chk lot r taken last = fR lot r taken prev
  | [], _, _, _, h, _, _, _, _ => absurd rfl h
  | s :: r, taken, last, prev, _, ht, h1, hi, hp => by
    have hs1 := h1 s (by simp)
    obtain ⟨i1, i2, i3⟩ := hi s (by simp)
    have hw : wI ((lot : Int) - taken) = (lot : Int) - taken := wrapI (by omega) (by omega)
    rw [fR_cons, chk, hw]
    by_cases c1 : s.1 > (lot : Int) - taken
    · rw [if_pos c1]
      have : (!inB s.1 1 30 || decide (wI ((taken : Int) + s.1) > lot)) = true := by
        by_cases c2 : s.1 ≤ 30
        · have e : wI ((taken : Int) + s.1) = (taken : Int) + s.1 := wrapI (by omega) (by omega)
          rw [e]
          simp only [Bool.or_eq_true, decide_eq_true_eq]
          right; omega
        · have : inB s.1 1 30 = false := by
            simp only [inB, Bool.and_eq_false_iff, decide_eq_false_iff_not]; right; exact c2
          rw [this]; rfl
      rw [this]; rfl
    · rw [if_neg c1]
      obtain ⟨t, hst⟩ : ∃ t : Nat, s.1 = t := ⟨s.1.toNat, by omega⟩
      have e : wI ((taken : Int) + s.1) = ((taken + t : Nat) : Int) := by rw [hst]; exact (wrapI (by omega) (by omega)).trans (by omega)
      have e' : wI (((taken + t : Nat) : Int) + 1) = ((taken + t + 1 : Nat) : Int) := (wrapI (by omega) (by omega)).trans (by omega)
      rw [e, e']
      have hin : inB s.1 1 30 = true := by simp only [inB, Bool.and_eq_true, decide_eq_true_eq]; omega
      have hgt : decide (((taken + t : Nat) : Int) > lot) = false := by simp only [decide_eq_false_iff_not]; omega
      rw [hin, hgt]
      simp only [Bool.not_true, Bool.or_false, cond_false]
      by_cases hmax : s.2.1 = 9223372036854775807
      · have : inB s.2.1 (-1) 30 = false := by
          simp only [inB, Bool.and_eq_false_iff, decide_eq_false_iff_not]; right; omega
        rw [this]
        simp only [Bool.not_false, Bool.true_or, cond_true]
        split
        · rfl
        · rename_i c2
          refine chk_max (fun x hx => hi x (by simp [hx])) hmax ?_
          rcases hp with ⟨_, rfl⟩ | ⟨_, _, h3⟩
          · simp only at c2; omega
          · omega
      · have e2 : wI (s.2.1 + 1) = s.2.1 + 1 := wrapI (by have := i2.1; omega) (by have := i2.2; omega)
        rw [e2]
        have key : (!inB s.2.1 (-1) 30 || decide (s.2.2 ≤ s.2.1) || decide (s.2.2 > ((taken + t + 1 : Nat) : Int)) || ltP s prev) = true ↔
            (s.2.1 < last.2.1 ∨ s.2.2 < last.2.2 ∨ ¬ (s.2.1 + 1 ≤ s.2.2 ∧ s.2.2 ≤ ((taken + t + 1 : Nat) : Int))) := by
          simp only [Bool.or_eq_true, Bool.not_eq_true', inB, Bool.and_eq_false_iff, decide_eq_false_iff_not, decide_eq_true_eq]
          rcases hp with ⟨rfl, rfl⟩ | ⟨rfl, h2, h3⟩
          · simp only [ltP, Bool.false_eq_true, or_false]
            omega
          · simp only [ltP, Bool.or_eq_true, decide_eq_true_eq]
            omega
        have split2 : ∀ (a b : Bool) (x y : Int), (bif a then x else bif b then x else y) = bif a || b then x else y := by
          intro a b x y; cases a <;> cases b <;> rfl
        rw [split2, bif_iff key]
        split
        · rfl
        · rename_i c2
          have her : (r.isEmpty = true) ∨ r.isEmpty = false := by cases r <;> simp
          rcases her with her | her
          · have : r = [] := List.isEmpty_iff.1 her
            subst this
            rw [her, chk, fR, e2]
            simp only [Bool.true_and]
            exact (bif_iff (by simp)).symm
          · rw [her]
            simp only [Bool.false_and, cond_false]
            refine chk_fR hlot r (taken + t) s (some s) (by intro h; rw [h] at her; cases her) (by omega) (fun x hx => h1 x (by simp [hx])) (fun x hx => hi x (by simp [hx])) (.inr ⟨rfl, ?_, ?_⟩)
            · rcases hp with ⟨_, rfl⟩ | ⟨_, h2, _⟩
              · simp only at c2; omega
              · omega
            · rcases hp with ⟨_, rfl⟩ | ⟨_, _, h3⟩
              · simp only at c2; omega
              · omega
theorem fault_check {lot : Int} {l : List S3} (hi : ∀ x ∈ l, InS x) : faultR lot l = check lot l := by
  unfold faultR check
  rw [bif_iff (q := (l.length : Int) > 3) (by simp)]
  split
  · rfl
  · have key : (!inB lot 1 30 || l.isEmpty) = true ↔ (¬ (1 ≤ lot ∧ lot ≤ 30) ∨ l.length = 0) := by
      have he : l.isEmpty = true ↔ l.length = 0 := by rw [List.isEmpty_iff, List.length_eq_zero_iff]
      rw [Bool.or_eq_true, Bool.not_eq_true', he]
      simp only [inB, Bool.and_eq_false_iff, decide_eq_false_iff_not]
      omega
    rw [bif_iff key]
    by_cases h1 : ¬ (1 ≤ lot ∧ lot ≤ 30) ∨ l.length = 0
    · rw [if_pos h1, if_pos (h1.elim .inl fun h => .inr (.inl h))]
    · rw [if_neg h1]
      by_cases h2 : ∀ x ∈ l, 1 ≤ x.1
      · rw [if_neg (fun h => h.elim (fun h => h1 (.inl h)) fun h => h.elim (fun h => h1 (.inr h)) fun h => h h2)]
        obtain ⟨n, rfl⟩ : ∃ n : Nat, lot = n := ⟨lot.toNat, by omega⟩
        exact (chk_fR (by omega) l 0 (0, -1, 0) none (by intro h; subst h; exact h1 (.inr rfl)) (Nat.zero_le _) h2 hi (.inl ⟨rfl, rfl⟩)).symm
      · rw [if_pos (.inr (.inr h2))]
        refine fR_low ?_
        rw [Classical.not_forall] at h2
        obtain ⟨x, hx⟩ := h2
        rw [Classical.not_imp] at hx
        exact ⟨x, hx.1, by omega⟩
open Go.Proofs
theorem fault_pure (lot : Int) (l : List S3) (hi : ∀ x ∈ l, InS x) : Pure Try.prog 19 [plD lot l] (dI (check lot l)) := by
  have h := fault0_pure lot l
  rw [fault_check hi] at h
  refine pure_of pg Try.func19 (by kernel_rfl) ?_
  ((conv => whnf); repeat (first | (refine ChL.l ?_; (conv => whnf)) | (refine ChC.r ?_; (conv => whnf))))
  (refine .inl ⟨_, h, ?_⟩; ((conv => whnf); repeat (first | (refine ChL.l ?_; (conv => whnf)) | (refine ChC.r ?_; (conv => whnf)))))
  rfl
end Go.Ev.Ythmandhpmkfopaa

set_option linter.unusedVariables false
set_option linter.unusedSimpArgs false
set_option maxRecDepth 100000
namespace Go.Ev.Ythmandhpmkfopaa
open Go.Proofs
theorem C_mul : ∀ m i, C (m + 1) (i + 1) * (i + 1) = C m i * (m + 1)
  | 0, 0 => rfl
  | 0, i + 1 => by rw [C_zero 1 (i + 1 + 1) (by omega), C_zero 0 (i + 1) (by omega)]; simp
  | m + 1, 0 => by
    have := C_mul m 0
    rw [C_one] at this ⊢
    rw [C_step, C_one]
    omega
  | m + 1, j + 1 => by
    have i1 := C_mul m j
    have i2 := C_mul m (j + 1)
    have e : C (m + 1) (j + 1) = C m j + C m (j + 1) := C_step m j
    have e2 : C (m + 1 + 1) (j + 1 + 1) = C (m + 1) (j + 1) + C (m + 1) (j + 1 + 1) := C_step (m + 1) (j + 1)
    rw [e2, Nat.add_mul, i2, Nat.mul_succ (C (m + 1) (j + 1)) (j + 1), i1, Nat.mul_succ (C (m + 1) (j + 1)) (m + 1), e, Nat.add_mul]
    omega
theorem C_next {m i : Nat} : C m i * (m + 1) / (i + 1) = C (m + 1) (i + 1) := by
  rw [← C_mul, Nat.mul_div_cancel _ (by omega)]
attribute [local irreducible] Pure Bor Iter tri C memo goN check
def chooseI (n k : Int) : Int := if k < 0 ∨ k > n then 0 else (C n.toNat k.toNat : Nat)
theorem choose_pure (n k : Int) (hn : n ≤ 30) : Pure Try.prog 60 [dI n, dI k] (dI (chooseI n k)) := by
  refine pure_of pg Try.func60 (by kernel_rfl) ?_
  ((conv => whnf); repeat (first | (refine ChL.l ?_; (conv => whnf)) | (refine ChC.r ?_; (conv => whnf))))
  (repeat' (first | (apply kT (by with_reducible first | rfl | assumption); ((conv => whnf); repeat (first | (refine ChL.l ?_; (conv => whnf)) | (refine ChC.r ?_; (conv => whnf))))) | (apply kF (by with_reducible first | rfl | assumption); ((conv => whnf); repeat (first | (refine ChL.l ?_; (conv => whnf)) | (refine ChC.r ?_; (conv => whnf))))) | (apply kT (by decide); ((conv => whnf); repeat (first | (refine ChL.l ?_; (conv => whnf)) | (refine ChC.r ?_; (conv => whnf))))) | (apply kF (by decide); ((conv => whnf); repeat (first | (refine ChL.l ?_; (conv => whnf)) | (refine ChC.r ?_; (conv => whnf))))) | (apply kB <;> intro _ <;> ((conv => whnf); repeat (first | (refine ChL.l ?_; (conv => whnf)) | (refine ChC.r ?_; (conv => whnf))))) | fail))
  case x =>
    rename_i h
    have : k < 0 := by simpa using h
    rw [chooseI, if_pos (.inl this)]; rfl
  case y.x =>
    rename_i h h'
    have : k > n := by simpa using h'
    rw [chooseI, if_pos (.inr this)]; rfl
  case y.y =>
    rename_i h h'
    have h1 : 0 ≤ k := by simpa using h
    have h2 : k ≤ n := by simpa using h'
    rw [chooseI, if_neg (by omega)]
    clear h h'
    obtain ⟨n, rfl⟩ : ∃ m : Nat, n = m := ⟨n.toNat, by omega⟩
    obtain ⟨k, rfl⟩ : ∃ m : Nat, k = m := ⟨k.toNat, by omega⟩
    simp only [Int.toNat_natCast]
    refine ⟨[], [0, 1, 5, 6], [], 0, fun m s => ∃ q : Nat, q + m = k ∧
      s = ⟨[(0, .d (dI n)), (1, .d (dI k)), (5, .d (dI (C (n - k + q) q : Nat))), (6, .d (dI ((q + 1 : Nat) : Int)))], [], 0⟩, ?_, ?_⟩
    · ((conv => whnf); repeat (first | (refine ChL.l ?_; (conv => whnf)) | (refine ChC.r ?_; (conv => whnf))))
      refine ⟨k, 0, by omega, ?_⟩
      rw [C_one]; rfl
    · rintro m _ ⟨q, hq, rfl⟩
      ((conv => whnf); repeat (first | (refine ChL.l ?_; (conv => whnf)) | (refine ChC.r ?_; (conv => whnf))))
      (apply kB <;> intro h <;> ((conv => whnf); repeat (first | (refine ChL.l ?_; (conv => whnf)) | (refine ChC.r ?_; (conv => whnf)))))
      · rw [decide_eq_true_eq] at h
        refine ⟨by omega, ?_⟩
        ((conv => whnf); repeat (first | (refine ChL.l ?_; (conv => whnf)) | (refine ChC.r ?_; (conv => whnf))))
        have e1 : IntKind.i64.wrap (((q + 1 : Nat) : Int) + 1) = ((q + 1 + 1 : Nat) : Int) := by rw [wrapI (by omega) (by omega)]; omega
        have e2 : IntKind.i64.wrap (IntKind.i64.wrap ((n : Int) - (k : Int)) + ((q + 1 : Nat) : Int)) = ((n - k + q + 1 : Nat) : Int) := by
          rw [wrapI (n := (n : Int) - k) (by omega) (by omega), wrapI (by omega) (by omega)]; omega
        have hc : C (n - k + q) q * (n - k + q + 1) ≤ 2 ^ 30 * 31 := by
          refine Nat.mul_le_mul (Nat.le_trans (C_le _ _) (Nat.pow_le_pow_right (by omega) (by omega))) (by omega)
        have e3 : IntKind.i64.wrap (((C (n - k + q) q : Nat) : Int) * IntKind.i64.wrap (IntKind.i64.wrap ((n : Int) - (k : Int)) + ((q + 1 : Nat) : Int))) = ((C (n - k + q) q * (n - k + q + 1) : Nat) : Int) := by
          rw [e2, ← Int.natCast_mul, wrapI (by omega) (by omega)]
        have e4 : IntKind.i64.wrap ((IntKind.i64.wrap (((C (n - k + q) q : Nat) : Int) * IntKind.i64.wrap (IntKind.i64.wrap ((n : Int) - (k : Int)) + ((q + 1 : Nat) : Int)))).tdiv ((q + 1 : Nat) : Int)) = ((C (n - k + (q + 1)) (q + 1) : Nat) : Int) := by
          have hd : C (n - k + q) q * (n - k + q + 1) / (q + 1) = C (n - k + (q + 1)) (q + 1) := C_next
          have hle := Nat.div_le_self (C (n - k + q) q * (n - k + q + 1)) (q + 1)
          rw [e3, Int.tdiv_eq_ediv_of_nonneg (by omega), ← Int.natCast_ediv, hd]
          rw [hd] at hle
          exact wrapI (by omega) (by omega)
        refine ⟨m - 1, by omega, q + 1, by omega, ?_⟩
        rw [e4, e1]
      · rw [decide_eq_false_iff_not] at h
        have hqk : q = k := by omega
        rw [hqk, show n - k + k = n by omega]
        rfl
end Go.Ev.Ythmandhpmkfopaa

set_option linter.unusedVariables false
set_option linter.unusedSimpArgs false
set_option maxRecDepth 100000
namespace Go.Ev.Ythmandhpmkfopaa
open Go.Proofs
theorem wI_step (a M c : Nat) : IntKind.i64.wrap (wI (a : Int) + IntKind.i64.wrap ((M : Int) * wI (c : Int))) = wI ((a + M * c : Nat) : Int) := by
  rw [Int.natCast_add, Int.natCast_mul]
  simp only [wI, wrap_bmod, Int.mul_bmod_bmod, Int.bmod_add_bmod, Int.add_bmod_bmod]
/-- what the reference counts from a stage on -/
def cntR (lot bad : Nat) (r : List S3) (taken found v used : Nat) : N3 :=
  if v = 0 then goN lot bad r taken found else if v = 1 then (restN lot taken r, used * restN lot taken r, restN lot taken r) else (0, used * restN lot taken r, restN lot taken r)
/-- what a stage says to it -/
def sayR (s : S3) (v x : Nat) : Nat := if v = 0 then (if (x : Int) ≤ s.2.1 then 1 else if s.2.2 ≤ (x : Int) then 2 else 0) else v
def useR (t v used : Nat) : Nat := if v = 0 then used + t else used
def manyR (left b t n : Nat) : Nat := C b n * C (left - b) (t - n)
theorem sm_mid {f : Nat → Nat} {lo cnt n : Nat} (h1 : ∀ i, i < lo → f i = 0) (h2 : ∀ i, lo + cnt ≤ i → i < n → f i = 0) (h3 : lo + cnt ≤ n) : sm f n = sm (fun i => f (lo + i)) cnt := by
  obtain ⟨d, rfl⟩ : ∃ d, n = lo + (cnt + d) := ⟨n - lo - cnt, by omega⟩
  have z : sm (fun i => f (lo + (cnt + i))) d = 0 := sm_zero fun i hi => h2 _ (by omega) (by omega)
  rw [sm_split f lo, sm_split (fun i => f (lo + i)) cnt, sm_zero h1, z]
  omega
/-- the sums over all numbers of bad pieces -/
def accR (lot bad : Nat) (s : S3) (r : List S3) (taken found v used n : Nat) : N3 :=
  let c := fun i => cntR lot bad r (taken + s.1.toNat) (found + i) (sayR s v (found + i)) (useR s.1.toNat v used)
  let m := manyR (lot - taken) (bad - found) s.1.toNat
  (sm (fun i => m i * (c i).1) n, sm (fun i => m i * (c i).2.1) n, sm (fun i => m i * (c i).2.2) n)
theorem accR_all {lot bad : Nat} {s : S3} {r : List S3} {taken found v used : Nat} (hf : Fit lot taken (s :: r)) (htl : taken ≤ lot) (hb : bad - found ≤ lot - taken) (hu : v = 0 → used = taken) :
    accR lot bad s r taken found v used (s.1.toNat + 1) = cntR lot bad (s :: r) taken found v used := by
  obtain ⟨t, ht, ht1, ht2, hf'⟩ := hf
  have e3 : s.1.toNat = t := by rw [ht, Int.toNat_natCast]
  have hz1 : ∀ i, i < lowN (lot - taken) (bad - found) t → manyR (lot - taken) (bad - found) t i = 0 := fun i hi => by
    unfold manyR; rw [C_zero (lot - taken - (bad - found)) (t - i) (by unfold lowN at hi; omega)]; simp
  have hz2 : ∀ i, lowN (lot - taken) (bad - found) t + cntN (lot - taken) (bad - found) t ≤ i → i < t + 1 → manyR (lot - taken) (bad - found) t i = 0 := fun i hi hit => by
    unfold manyR
    by_cases h : bad - found < i
    · rw [C_zero _ _ h]; simp
    · rw [C_zero (lot - taken - (bad - found)) (t - i) (by unfold cntN lowN at hi; omega)]; simp
  have hle : lowN (lot - taken) (bad - found) t + cntN (lot - taken) (bad - found) t ≤ t + 1 := by unfold cntN lowN; omega
  have mid : ∀ g : Nat → Nat, sm (fun i => manyR (lot - taken) (bad - found) t i * g i) (t + 1) = sm (fun i => manyN (lot - taken) (bad - found) t (lowN (lot - taken) (bad - found) t + i) * g (lowN (lot - taken) (bad - found) t + i)) (cntN (lot - taken) (bad - found) t) := fun g => by
    rw [sm_mid (lo := lowN (lot - taken) (bad - found) t) (cnt := cntN (lot - taken) (bad - found) t) (fun i hi => by rw [hz1 i hi]; simp) (fun i hi hit => by rw [hz2 i hi hit]; simp) hle]
    rfl
  have hms := many_sum (left := lot - taken) (b := bad - found) (t := t) hb (by omega)
  have hrest : restN lot taken (s :: r) = C (lot - taken) t * restN lot (taken + t) r := by rw [restN, e3]
  have tot : sm (fun i => manyR (lot - taken) (bad - found) t i) (t + 1) = C (lot - taken) t := by
    have := mid (fun _ => 1)
    simp only [Nat.mul_one] at this
    rw [this, hms]
  unfold accR
  simp only [e3]
  by_cases h0 : v = 0
  · subst h0
    have hut := hu rfl
    subst hut
    have : ∀ i, cntR lot bad r (used + t) (found + i) (sayR s 0 (found + i)) (useR t 0 used) = nextN lot bad s r used found i := fun i => by
      unfold cntR sayR useR nextN
      simp only [if_true, e3]
      split
      · rfl
      · split
        · rfl
        · rfl
    simp only [this]
    rw [mid, mid, mid]
    unfold cntR
    rw [if_pos rfl, goN_sm]
    simp only [e3]
  · have hs : ∀ i, sayR s v (found + i) = v := fun i => by unfold sayR; rw [if_neg h0]
    have hu : useR t v used = used := by unfold useR; rw [if_neg h0]
    simp only [hs, hu]
    unfold cntR
    simp only [if_neg h0]
    by_cases h1 : v = 1
    · simp only [if_pos h1]
      rw [hrest, sm_mul, sm_mul, tot, Nat.mul_left_comm]
    · simp only [if_neg h1]
      rw [hrest, sm_mul, sm_mul, sm_mul, tot, Nat.mul_left_comm, Nat.mul_zero]
theorem accR_zero {lot bad : Nat} {s : S3} {r : List S3} {taken found v used : Nat} : accR lot bad s r taken found v used 0 = (0, 0, 0) := rfl
theorem accR_succ {lot bad : Nat} {s : S3} {r : List S3} {taken found v used n : Nat} : accR lot bad s r taken found v used (n + 1) =
    addN (accR lot bad s r taken found v used n) (mulN (manyR (lot - taken) (bad - found) s.1.toNat n) (cntR lot bad r (taken + s.1.toNat) (found + n) (sayR s v (found + n)) (useR s.1.toNat v used))) := rfl
attribute [local irreducible] Pure Bor Iter tri C memo goN check accR cntR restN
theorem chooseI_nat (a b : Nat) : chooseI (a : Int) (b : Int) = ((C a b : Nat) : Int) := by
  unfold chooseI
  split
  · rename_i h
    rw [C_zero a b (by omega)]; rfl
  · rw [Int.toNat_natCast, Int.toNat_natCast]
theorem manyR_le {left b t n : Nat} (h : left ≤ 30) (hb : b ≤ left) : manyR left b t n ≤ 2 ^ 30 := by
  have h1 := C_le b n
  have h2 := C_le (left - b) (t - n)
  unfold manyR
  refine Nat.le_trans (Nat.mul_le_mul h1 h2) ?_
  rw [← Nat.pow_add]
  exact Nat.pow_le_pow_right (by omega) (by omega)
set_option maxHeartbeats 1000000 in
theorem count_pure {lot bad : Nat} (hlot : lot ≤ 30) (hbad : bad ≤ 30) {l : List S3} (hl : l.length ≤ 3) : ∀ (r : List S3) (k taken found v used : Nat), l.drop k = r → k ≤ l.length → Fit lot taken r → taken ≤ lot → found ≤ bad → bad - found ≤ lot - taken →
    (v = 0 → used = taken ∧ Ends r) → v ≤ 2 → used ≤ 30 →
    Pure Try.prog 44 [plD lot l, dI bad, dI k, dI taken, dI found, dI v, dI used] (cD (cntR lot bad r taken found v used)) := by
  intro r
  induction r with
  | nil =>
    intro k taken found v used hk hkl hf htl hfb hbl hv hv2 hu
    have hkk : k = l.length := by
      have := congrArg List.length hk
      rw [List.length_drop] at this
      simp at this; omega
    have hv0 : v ≠ 0 := fun h => (hv h).2
    refine pure_of pg Try.func44 (by kernel_rfl) ?_
    ((conv => whnf); repeat (first | (refine ChL.l ?_; (conv => whnf)) | (refine ChC.r ?_; (conv => whnf))))
    have h1 : ((k : Int) == ((List.map stD l).length : Int)) = true := by rw [List.length_map, hkk]; simp
    (apply kT (h1); ((conv => whnf); repeat (first | (refine ChL.l ?_; (conv => whnf)) | (refine ChC.r ?_; (conv => whnf)))))
    by_cases h2 : v = 1
    · (apply kT ((by rw [h2]; rfl)); ((conv => whnf); repeat (first | (refine ChL.l ?_; (conv => whnf)) | (refine ChC.r ?_; (conv => whnf)))))
      have : cntR lot bad [] taken found v used = (1, used, 1) := by
        unfold cntR restN
        rw [if_neg hv0, if_pos h2, Nat.mul_one]
      rw [this]
      have hw := wI_nat (n := used) (by omega)
      show _ = cD (1, used, 1)
      unfold cD
      rw [hw]
      rfl
    · have h3 : ((v : Int) == 1) = false := by simp; omega
      (apply kF (h3); ((conv => whnf); repeat (first | (refine ChL.l ?_; (conv => whnf)) | (refine ChC.r ?_; (conv => whnf)))))
      have : cntR lot bad [] taken found v used = (0, used, 1) := by
        unfold cntR restN
        rw [if_neg hv0, if_neg h2, Nat.mul_one]
      rw [this]
      have hw := wI_nat (n := used) (by omega)
      show _ = cD (0, used, 1)
      unfold cD
      rw [hw]
      rfl
  | cons s r ih =>
    intro k taken found v used hk hkl hf htl hfb hbl hv hv2 hu
    have hlt : k < l.length := by
      rcases Nat.lt_or_ge k l.length with h | h
      · exact h
      · rw [List.drop_of_length_le h] at hk; cases hk
    have hs : l[k]? = some s := by
      have h5 : (l.drop k)[0]? = some s := by rw [hk]; rfl
      rwa [List.getElem?_drop, Nat.add_zero] at h5
    have hq : (l.map stD)[k]? = some (stD s) := by rw [List.getElem?_map, hs]; rfl
    have hk' : l.drop (k + 1) = r := by rw [← List.drop_drop, hk]; rfl
    have hall := accR_all (bad := bad) (found := found) (v := v) (used := used) hf htl hbl (fun h => (hv h).1)
    obtain ⟨t, ht, ht1, ht2, hf'⟩ := hf
    have e3 : s.1.toNat = t := by rw [ht, Int.toNat_natCast]
    refine pure_of pg Try.func44 (by kernel_rfl) ?_
    ((conv => whnf); repeat (first | (refine ChL.l ?_; (conv => whnf)) | (refine ChC.r ?_; (conv => whnf))))
    have h1 : ((k : Int) == ((List.map stD l).length : Int)) = false := by rw [List.length_map]; simp; omega
    (apply kF (h1); ((conv => whnf); repeat (first | (refine ChL.l ?_; (conv => whnf)) | (refine ChC.r ?_; (conv => whnf)))))
    (refine ⟨k, stD s, rfl, hq, rfl, ?_⟩; ((conv => whnf); repeat (first | (refine ChL.l ?_; (conv => whnf)) | (refine ChC.r ?_; (conv => whnf)))))
    refine ⟨[], [1, 2, 3, 4, 5, 6, 7, 14, 16, 17, 18], [0, 1, 2, 3], 4, fun m st => ∃ n : Nat, n + m = t + 1 ∧
      st = ⟨[(1, .d (dI bad)), (2, .d (dI k)), (3, .d (dI taken)), (4, .d (dI found)), (5, .d (dI v)), (6, .d (dI used)), (7, .ref 0 0), (14, .ref 1 0), (16, .ref 2 0), (17, .ref 3 0), (18, .d (dI n))],
        [(0, .var false 24 [.d (dI lot), .d (.seq (l.map stD))]), (1, .var false 40 [.d (dI 0), .d (dI 0), .d (dI 0)]), (2, .var false 57 [.d (dI s.1), .d (dI s.2.1), .d (dI s.2.2)]),
         (3, .var false 40 [.d (dI (wI (accR lot bad s r taken found v used n).1)), .d (dI (wI (accR lot bad s r taken found v used n).2.1)), .d (dI (wI (accR lot bad s r taken found v used n).2.2))])], 4⟩, ?_, ?_⟩
    · ((conv => whnf); repeat (first | (refine ChL.l ?_; (conv => whnf)) | (refine ChC.r ?_; (conv => whnf))))
      refine ⟨t + 1, 0, by omega, ?_⟩
      rw [accR_zero]
      rfl
    · rintro m _ ⟨n, hn, rfl⟩
      ((conv => whnf); repeat (first | (refine ChL.l ?_; (conv => whnf)) | (refine ChC.r ?_; (conv => whnf))))
      (apply kB <;> intro h <;> ((conv => whnf); repeat (first | (refine ChL.l ?_; (conv => whnf)) | (refine ChC.r ?_; (conv => whnf)))))
      · rw [decide_eq_true_eq] at h
        have a1 : IntKind.i64.wrap ((bad : Int) - (found : Int)) = ((bad - found : Nat) : Int) := by rw [wrapI (by omega) (by omega)]; omega
        have a2 : IntKind.i64.wrap (IntKind.i64.wrap (IntKind.i64.wrap ((lot : Int) - (taken : Int)) - (bad : Int)) + (found : Int)) = ((lot - taken - (bad - found) : Nat) : Int) := by
          rw [wrapI (n := (lot : Int) - taken) (by omega) (by omega), wrapI (n := (lot : Int) - taken - bad) (by omega) (by omega), wrapI (by omega) (by omega)]; omega
        have a3 : IntKind.i64.wrap (s.1 - (n : Int)) = ((t - n : Nat) : Int) := by rw [ht, wrapI (by omega) (by omega)]; omega
        have a4 : IntKind.i64.wrap ((n : Int) + 1) = ((n + 1 : Nat) : Int) := by rw [wrapI (by omega) (by omega)]; omega
        have a5 : IntKind.i64.wrap ((found : Int) + (n : Int)) = ((found + n : Nat) : Int) := by rw [wrapI (by omega) (by omega)]; omega
        have a6 : IntKind.i64.wrap ((taken : Int) + s.1) = ((taken + t : Nat) : Int) := by rw [ht, wrapI (by omega) (by omega)]; omega
        have a7 : IntKind.i64.wrap ((k : Int) + 1) = ((k + 1 : Nat) : Int) := by rw [wrapI (by omega) (by omega)]; omega
        have a8 : IntKind.i64.wrap ((used : Int) + s.1) = ((used + t : Nat) : Int) := by rw [ht, wrapI (by omega) (by omega)]; omega
        (refine .inl ⟨_, choose_pure _ _ (by rw [a1]; omega), ?_⟩; ((conv => whnf); repeat (first | (refine ChL.l ?_; (conv => whnf)) | (refine ChC.r ?_; (conv => whnf)))))
        (refine .inl ⟨_, choose_pure _ _ (by rw [a2]; omega), ?_⟩; ((conv => whnf); repeat (first | (refine ChL.l ?_; (conv => whnf)) | (refine ChC.r ?_; (conv => whnf)))))
        obtain ⟨M, hMM⟩ : ∃ M, M = manyR (lot - taken) (bad - found) t n := ⟨_, rfl⟩
        have hM : IntKind.i64.wrap (chooseI (IntKind.i64.wrap ((bad : Int) - (found : Int))) (n : Int) * chooseI (IntKind.i64.wrap (IntKind.i64.wrap (IntKind.i64.wrap ((lot : Int) - (taken : Int)) - (bad : Int)) + (found : Int))) (IntKind.i64.wrap (s.1 - (n : Int)))) = (M : Int) := by
          have := manyR_le (left := lot - taken) (b := bad - found) (t := t) (n := n) (by omega) hbl
          rw [a1, a2, a3, chooseI_nat, chooseI_nat, ← Int.natCast_mul, hMM]
          exact wrapI (by unfold manyR at this; omega) (by unfold manyR at this; omega)
        have next : ∀ m' : Nat, m' < m → (m' : Nat) + (n + 1) = t + 1 → True := fun _ _ _ => trivial
        by_cases hz : M = 0
        · have hb0 : (IntKind.i64.wrap (chooseI (IntKind.i64.wrap ((bad : Int) - (found : Int))) (n : Int) * chooseI (IntKind.i64.wrap (IntKind.i64.wrap (IntKind.i64.wrap ((lot : Int) - (taken : Int)) - (bad : Int)) + (found : Int))) (IntKind.i64.wrap (s.1 - (n : Int)))) == 0) = true := by rw [hM, hz]; rfl
          (apply kT (hb0); ((conv => whnf); repeat (first | (refine ChL.l ?_; (conv => whnf)) | (refine ChC.r ?_; (conv => whnf)))))
          refine ⟨m - 1, by omega, n + 1, by omega, ?_⟩
          have e0 : accR lot bad s r taken found v used (n + 1) = accR lot bad s r taken found v used n := by
            rw [accR_succ, e3, ← hMM, hz]
            unfold mulN addN
            simp only [Nat.zero_mul, Nat.add_zero]
          rw [a4, e0]
        · have hb0 : (IntKind.i64.wrap (chooseI (IntKind.i64.wrap ((bad : Int) - (found : Int))) (n : Int) * chooseI (IntKind.i64.wrap (IntKind.i64.wrap (IntKind.i64.wrap ((lot : Int) - (taken : Int)) - (bad : Int)) + (found : Int))) (IntKind.i64.wrap (s.1 - (n : Int)))) == 0) = false := by rw [hM]; simp; omega
          (apply kF (hb0); ((conv => whnf); repeat (first | (refine ChL.l ?_; (conv => whnf)) | (refine ChC.r ?_; (conv => whnf)))))
          have hnb : n ≤ bad - found ∧ t - n ≤ lot - taken - (bad - found) := by
            refine ⟨?_, ?_⟩
            · rcases Nat.lt_or_ge (bad - found) n with h5 | h5
              · exfalso; apply hz; rw [hMM]; unfold manyR; rw [C_zero _ _ h5, Nat.zero_mul]
              · exact h5
            · rcases Nat.lt_or_ge (lot - taken - (bad - found)) (t - n) with h5 | h5
              · exfalso; apply hz; rw [hMM]; unfold manyR; rw [C_zero _ _ h5, Nat.mul_zero]
              · exact h5
          have hacc := accR_succ (lot := lot) (bad := bad) (s := s) (r := r) (taken := taken) (found := found) (v := v) (used := used) (n := n)
          rw [e3, ← hMM] at hacc
          by_cases hv0 : v = 0
          · have hvb : ((v : Int) == 0) = true := by rw [hv0]; rfl
            obtain ⟨hut, hends⟩ := hv hv0
            have hu' : useR t v used = used + t := by unfold useR; rw [if_pos hv0]
            (apply kT (hvb); ((conv => whnf); repeat (first | (refine ChL.l ?_; (conv => whnf)) | (refine ChC.r ?_; (conv => whnf)))))
            (apply kB <;> intro h5 <;> ((conv => whnf); repeat (first | (refine ChL.l ?_; (conv => whnf)) | (refine ChC.r ?_; (conv => whnf)))))
            · rw [decide_eq_true_eq, a5] at h5
              have hsay : sayR s v (found + n) = 1 := by unfold sayR; rw [if_pos hv0, if_pos h5]
              have hc := ih (k + 1) (taken + t) (found + n) 1 (used + t) hk' (by omega) hf' ht2 (by omega) (by omega) (by omega) (by omega) (by omega)
              rw [hsay, hu'] at hacc
              rw [← a5, ← a6, ← a7, ← a8] at hc
              generalize cntR lot bad r (taken + t) (found + n) 1 (used + t) = c at hc hacc
              (refine .inl ⟨_, hc, ?_⟩; ((conv => whnf); repeat (first | (refine ChL.l ?_; (conv => whnf)) | (refine ChC.r ?_; (conv => whnf)))))
              refine ⟨m - 1, by omega, n + 1, by omega, ?_⟩
              rw [hM, wI_step, wI_step, wI_step, a4, hacc]
              rfl
            · rw [decide_eq_false_iff_not, a5] at h5
              (apply kB <;> intro h6 <;> ((conv => whnf); repeat (first | (refine ChL.l ?_; (conv => whnf)) | (refine ChC.r ?_; (conv => whnf)))))
              · rw [decide_eq_true_eq, a5] at h6
                have hsay : sayR s v (found + n) = 2 := by unfold sayR; rw [if_pos hv0, if_neg h5, if_pos h6]
                have hc := ih (k + 1) (taken + t) (found + n) 2 (used + t) hk' (by omega) hf' ht2 (by omega) (by omega) (by omega) (by omega) (by omega)
                rw [hsay, hu'] at hacc
                rw [← a5, ← a6, ← a7, ← a8] at hc
                generalize cntR lot bad r (taken + t) (found + n) 2 (used + t) = c at hc hacc
                (refine .inl ⟨_, hc, ?_⟩; ((conv => whnf); repeat (first | (refine ChL.l ?_; (conv => whnf)) | (refine ChC.r ?_; (conv => whnf)))))
                refine ⟨m - 1, by omega, n + 1, by omega, ?_⟩
                rw [hM, wI_step, wI_step, wI_step, a4, hacc]
                rfl
              · rw [decide_eq_false_iff_not, a5] at h6
                have hsay : sayR s v (found + n) = v := by unfold sayR; rw [if_pos hv0, if_neg h5, if_neg (by omega), hv0]
                have her : Ends r := by
                  cases r with
                  | nil => exfalso; have : s.2.2 = s.2.1 + 1 := hends; omega
                  | cons s' r' => exact hends
                have hc := ih (k + 1) (taken + t) (found + n) v (used + t) hk' (by omega) hf' ht2 (by omega) (by omega) (fun _ => ⟨by omega, her⟩) (by omega) (by omega)
                rw [hsay, hu'] at hacc
                rw [← a5, ← a6, ← a7, ← a8] at hc
                generalize cntR lot bad r (taken + t) (found + n) v (used + t) = c at hc hacc
                (refine .inl ⟨_, hc, ?_⟩; ((conv => whnf); repeat (first | (refine ChL.l ?_; (conv => whnf)) | (refine ChC.r ?_; (conv => whnf)))))
                refine ⟨m - 1, by omega, n + 1, by omega, ?_⟩
                rw [hM, wI_step, wI_step, wI_step, a4, hacc]
                rfl
          · have hvb : ((v : Int) == 0) = false := by simp; omega
            have hu' : useR t v used = used := by unfold useR; rw [if_neg hv0]
            have hsay : sayR s v (found + n) = v := by unfold sayR; rw [if_neg hv0]
            have hc := ih (k + 1) (taken + t) (found + n) v used hk' (by omega) hf' ht2 (by omega) (by omega) (by omega) (by omega) (by omega)
            rw [hsay, hu'] at hacc
            rw [← a5, ← a6, ← a7] at hc
            generalize cntR lot bad r (taken + t) (found + n) v used = c at hc hacc
            (apply kF (hvb); ((conv => whnf); repeat (first | (refine ChL.l ?_; (conv => whnf)) | (refine ChC.r ?_; (conv => whnf)))))
            (refine .inl ⟨_, hc, ?_⟩; ((conv => whnf); repeat (first | (refine ChL.l ?_; (conv => whnf)) | (refine ChC.r ?_; (conv => whnf)))))
            refine ⟨m - 1, by omega, n + 1, by omega, ?_⟩
            rw [hM, wI_step, wI_step, wI_step, a4, hacc]
            rfl
      · rw [decide_eq_false_iff_not] at h
        have hn : n = t + 1 := by omega
        rw [hn, ← hall, e3]
        rfl
end Go.Ev.Ythmandhpmkfopaa

set_option linter.unusedVariables false
set_option linter.unusedSimpArgs false
set_option maxRecDepth 100000
namespace Go.Ev.Ythmandhpmkfopaa
open Go.Proofs
theorem cntR_first (lot bad : Nat) (l : List S3) : cntR lot bad l 0 0 0 0 = goN lot bad l 0 0 := by unfold cntR; rfl
attribute [local irreducible] Pure Bor Iter tri C memo goN check accR cntR restN
theorem all_counts_pure {n b : Nat} (hn : n ≤ 30) {l : List S3} (hl : l.length ≤ 3) (hb : b ≤ n) (hf : Fit n 0 l) (he : Ends l) : Pure Try.prog 21 [plD n l, dI b] (cD (goN n b l 0 0)) := by
  have h := count_pure (lot := n) (bad := b) hn (by omega) hl l 0 0 0 0 0 rfl (Nat.zero_le _) hf (Nat.zero_le _) (Nat.zero_le _) (by omega) (fun _ => ⟨rfl, he⟩) (by omega) (by omega)
  rw [cntR_first] at h
  generalize goN n b l 0 0 = c at h ⊢
  have h' : Pure Try.prog 44 [plD n l, dI b, dI 0, dI 0, dI 0, dI 0, dI 0] (cD c) := h
  refine pure_of pg Try.func21 (by kernel_rfl) ?_
  ((conv => whnf); repeat (first | (refine ChL.l ?_; (conv => whnf)) | (refine ChC.r ?_; (conv => whnf))))
  (refine .inl ⟨_, h', ?_⟩; ((conv => whnf); repeat (first | (refine ChL.l ?_; (conv => whnf)) | (refine ChC.r ?_; (conv => whnf)))))
  rfl
theorem lowest_pure (num den : Nat) (hd : 0 < den) (h1 : num < 2 ^ 63) (h2 : den < 2 ^ 63) : Pure Try.prog 45 [dI num, dI den] (.tup [dI ((num / Nat.gcd num den : Nat) : Int), dI ((den / Nat.gcd num den : Nat) : Int)]) := by
  refine pure_of pg Try.func45 (by kernel_rfl) ?_
  ((conv => whnf); repeat (first | (refine ChL.l ?_; (conv => whnf)) | (refine ChC.r ?_; (conv => whnf))))
  refine ⟨[], [0, 1, 6, 7], [], 0, fun m s => ∃ a b : Nat, m = b ∧ Nat.gcd a b = Nat.gcd num den ∧ a < 2 ^ 63 ∧ b < 2 ^ 63 ∧ s = ⟨[(0, .d (dI num)), (1, .d (dI den)), (6, .d (dI a)), (7, .d (dI b))], [], 0⟩, ?_, ?_⟩
  · ((conv => whnf); repeat (first | (refine ChL.l ?_; (conv => whnf)) | (refine ChC.r ?_; (conv => whnf))))
    exact ⟨den, num, den, rfl, rfl, h1, h2, rfl⟩
  · rintro m _ ⟨a, b, rfl, hg, ha, hb, rfl⟩
    ((conv => whnf); repeat (first | (refine ChL.l ?_; (conv => whnf)) | (refine ChC.r ?_; (conv => whnf))))
    (apply kB <;> intro h <;> ((conv => whnf); repeat (first | (refine ChL.l ?_; (conv => whnf)) | (refine ChC.r ?_; (conv => whnf)))))
    · have hm : m ≠ 0 := by
        have : 0 < m := by simpa using h
        omega
      refine ⟨by omega, ?_⟩
      ((conv => whnf); repeat (first | (refine ChL.l ?_; (conv => whnf)) | (refine ChC.r ?_; (conv => whnf))))
      refine ⟨a % m, Nat.mod_lt _ (by omega), m, a % m, rfl, ?_, hb, Nat.lt_trans (Nat.mod_lt _ (by omega)) hb, ?_⟩
      · rw [← hg, Nat.gcd_comm a m, Nat.gcd_rec m a, Nat.gcd_comm]
      · have e : Int.tmod (a : Int) (m : Int) = ((a % m : Nat) : Int) := by rw [Int.tmod_eq_emod_of_nonneg (by omega)]; rfl
        rw [e]
    · have hm : m = 0 := by
        have : ¬ 0 < m := by simpa using h
        omega
      subst hm
      rw [Nat.gcd_zero_right] at hg
      have hap : 0 < a := by rw [hg]; exact Nat.gcd_pos_of_pos_right _ hd
      have q : ∀ n : Nat, n < 2 ^ 63 → IntKind.i64.wrap (Int.tdiv (n : Int) (a : Int)) = ((n / Nat.gcd num den : Nat) : Int) := by
        intro n hn
        have e : Int.tdiv (n : Int) (a : Int) = ((n / a : Nat) : Int) := by rw [Int.tdiv_eq_ediv_of_nonneg (by omega)]; rfl
        have : n / a ≤ n := Nat.div_le_self _ _
        rw [e]
        exact (wI_nat (Nat.lt_of_le_of_lt this hn)).trans (by rw [hg])
      refine ⟨by omega, ?_⟩
      ((conv => whnf); repeat (first | (refine ChL.l ?_; (conv => whnf)) | (refine ChC.r ?_; (conv => whnf))))
      refine ⟨by omega, ?_⟩
      ((conv => whnf); repeat (first | (refine ChL.l ?_; (conv => whnf)) | (refine ChC.r ?_; (conv => whnf))))
      rw [q num h1, q den h2]
      rfl
theorem is_pure (x y : Int) (num den : Nat) (hd : 0 < den) (h1 : num < 2 ^ 63) (h2 : den < 2 ^ 63) : Pure Try.prog 22 [.agg [dI x, dI y], dI num, dI den] (dB ((x == ((num / Nat.gcd num den : Nat) : Int)) && (y == ((den / Nat.gcd num den : Nat) : Int)))) := by
  have h := lowest_pure num den hd h1 h2
  generalize num / Nat.gcd num den = a at h ⊢
  generalize den / Nat.gcd num den = b at h ⊢
  refine pure_of pg Try.func22 (by kernel_rfl) ?_
  ((conv => whnf); repeat (first | (refine ChL.l ?_; (conv => whnf)) | (refine ChC.r ?_; (conv => whnf))))
  (refine .inl ⟨_, h, ?_⟩; ((conv => whnf); repeat (first | (refine ChL.l ?_; (conv => whnf)) | (refine ChC.r ?_; (conv => whnf)))))
  (repeat' (first | (apply kT (by with_reducible first | rfl | assumption); ((conv => whnf); repeat (first | (refine ChL.l ?_; (conv => whnf)) | (refine ChC.r ?_; (conv => whnf))))) | (apply kF (by with_reducible first | rfl | assumption); ((conv => whnf); repeat (first | (refine ChL.l ?_; (conv => whnf)) | (refine ChC.r ?_; (conv => whnf))))) | (apply kT (by decide); ((conv => whnf); repeat (first | (refine ChL.l ?_; (conv => whnf)) | (refine ChC.r ?_; (conv => whnf))))) | (apply kF (by decide); ((conv => whnf); repeat (first | (refine ChL.l ?_; (conv => whnf)) | (refine ChC.r ?_; (conv => whnf))))) | (apply kB <;> intro _ <;> ((conv => whnf); repeat (first | (refine ChL.l ?_; (conv => whnf)) | (refine ChC.r ?_; (conv => whnf))))) | fail))
  all_goals (rename_i h; rw [h]; rfl)
/-- what results say by the reference -/
def playR (res : List Bool) : List S3 → Nat → Nat → Int × Int × Bool
  | [], _, _ => (0, 0, false)
  | s :: r, taken, bad =>
    if res.length < taken + s.1.toNat then (3, ((taken + s.1.toNat - res.length : Nat) : Int), true)
    else if ((bad + badN ((res.take (taken + s.1.toNat)).drop taken) : Nat) : Int) ≤ s.2.1 then (1, 0, decide (res.length = taken + s.1.toNat))
    else if s.2.2 ≤ ((bad + badN ((res.take (taken + s.1.toNat)).drop taken) : Nat) : Int) then (2, 0, decide (res.length = taken + s.1.toNat))
    else playR res r (taken + s.1.toNat) (bad + badN ((res.take (taken + s.1.toNat)).drop taken))
theorem badN_add (res : List Bool) {a b : Nat} (hab : a ≤ b) (hb : b < res.length) : badN ((res.take (b + 1)).drop a) = badN ((res.take b).drop a) + if res[b] then 1 else 0 := by
  unfold badN
  have : (res.take b).length = b := by rw [List.length_take]; omega
  rw [List.take_succ_eq_append_getElem hb, List.drop_append_of_le_length (by omega), List.countP_append, List.countP_singleton]
  rfl
theorem badN_le (res : List Bool) (a b : Nat) : badN ((res.take b).drop a) ≤ b - a := by
  unfold badN
  refine Nat.le_trans List.countP_le_length ?_
  rw [List.length_drop, List.length_take]; omega
theorem refplay_pure {n : Nat} (hn : n ≤ 30) {l : List S3} (hl : l.length ≤ 3) (hf : Fit n 0 l) (res : List Bool) (hres : res.length < 2 ^ 62) :
    Pure Try.prog 25 [plD n l, bsD res] (.tup [dI (playR res l 0 0).1, dI (playR res l 0 0).2.1, dB (playR res l 0 0).2.2]) := by
  refine pure_of pg Try.func25 (by kernel_rfl) ?_
  ((conv => whnf); repeat (first | (refine ChL.l ?_; (conv => whnf)) | (refine ChC.r ?_; (conv => whnf))))
  refine ⟨[], [1, 2, 7, 8, 9], [0], 1, fun m s => ∃ (k taken bad : Nat), k + m = l.length ∧ taken ≤ n ∧ bad ≤ taken ∧ Fit n taken (l.drop k) ∧ playR res (l.drop k) taken bad = playR res l 0 0 ∧
    s = ⟨[(1, .d (bsD res)), (2, .ref 0 0), (7, .d (dI taken)), (8, .d (dI bad)), (9, .d (dI k))], [(0, .var false 24 [.d (dI n), .d (.seq (l.map stD))])], 1⟩, ?_, ?_⟩
  · ((conv => whnf); repeat (first | (refine ChL.l ?_; (conv => whnf)) | (refine ChC.r ?_; (conv => whnf))))
    exact ⟨l.length, 0, 0, 0, by simp, by omega, by omega, hf, rfl, rfl⟩
  · rintro m _ ⟨k, taken, bad, hk, ht, hb, hf', hpl, rfl⟩
    ((conv => whnf); repeat (first | (refine ChL.l ?_; (conv => whnf)) | (refine ChC.r ?_; (conv => whnf))))
    (apply kB <;> intro h <;> ((conv => whnf); repeat (first | (refine ChL.l ?_; (conv => whnf)) | (refine ChC.r ?_; (conv => whnf)))))
    · have hlt : k < l.length := by simpa using h
      have hd : l.drop k = l[k] :: l.drop (k + 1) := (List.getElem_cons_drop ..).symm
      have hq := getD? l k hlt
      rw [hd] at hf' hpl
      generalize l[k] = q at hf' hpl hq
      obtain ⟨t, ht0, ht1, ht2, hf2⟩ := hf'
      have e1 : IntKind.i64.wrap ((k : Int) + 1) = ((k + 1 : Nat) : Int) := by rw [wrapI (by omega) (by omega)]; rfl
      have e2 : IntKind.i64.wrap ((taken : Int) + q.1) = ((taken + t : Nat) : Int) := by rw [ht0, wrapI (by omega) (by omega)]; rfl
      rw [playR, ht0, Int.toNat_natCast] at hpl
      (refine ⟨k, stD q, rfl, hq, rfl, ?_⟩; ((conv => whnf); repeat (first | (refine ChL.l ?_; (conv => whnf)) | (refine ChC.r ?_; (conv => whnf)))))
      (apply kB <;> intro h <;> ((conv => whnf); repeat (first | (refine ChL.l ?_; (conv => whnf)) | (refine ChC.r ?_; (conv => whnf)))))
      · have hlen : res.length < taken + t := by
          rw [decide_eq_true_eq, e2, List.length_map] at h; omega
        have e3 : IntKind.i64.wrap (((taken + t : Nat) : Int) - ((List.map (fun b => [dB b]) res).length : Int)) = ((taken + t - res.length : Nat) : Int) := by rw [List.length_map, wrapI (by omega) (by omega)]; omega
        rw [if_pos hlen] at hpl
        rw [← hpl, e2, e3]
        rfl
      · have hlen : taken + t ≤ res.length := by
          rw [decide_eq_false_iff_not, e2, List.length_map] at h; omega
        rw [if_neg (by omega)] at hpl
        refine ⟨[], [1, 2, 7, 8, 9, 10, 11], [0, 1], 2, fun m s => ∃ j : Nat, j + m = t ∧
          s = ⟨[(1, .d (bsD res)), (2, .ref 0 0), (7, .d (dI taken)), (8, .d (dI ((bad + badN ((res.take (taken + j)).drop taken) : Nat) : Int))), (9, .d (dI k)), (10, .ref 1 0), (11, .d (dI ((taken + j : Nat) : Int)))],
            [(0, .var false 24 [.d (dI n), .d (.seq (l.map stD))]), (1, .var false 57 [.d (dI q.1), .d (dI q.2.1), .d (dI q.2.2)])], 2⟩, ?_, ?_⟩
        · ((conv => whnf); repeat (first | (refine ChL.l ?_; (conv => whnf)) | (refine ChC.r ?_; (conv => whnf))))
          refine ⟨t, 0, by omega, ?_⟩
          have : badN ((res.take (taken + 0)).drop taken) = 0 := by
            have := badN_le res taken (taken + 0); omega
          rw [this]; rfl
        · rintro m' _ ⟨j, hj, rfl⟩
          ((conv => whnf); repeat (first | (refine ChL.l ?_; (conv => whnf)) | (refine ChC.r ?_; (conv => whnf))))
          have hbl := badN_le res taken (taken + j)
          (apply kB <;> intro h <;> ((conv => whnf); repeat (first | (refine ChL.l ?_; (conv => whnf)) | (refine ChC.r ?_; (conv => whnf)))))
          · rw [decide_eq_true_eq, e2] at h
            have hjt : taken + j < res.length := by omega
            have hw : IntKind.i64.wrap (((taken + j : Nat) : Int) + 1) = ((taken + (j + 1) : Nat) : Int) := by rw [wrapI (by omega) (by omega)]; omega
            have hbs := badN_add res (a := taken) (b := taken + j) (by omega) hjt
            (refine ⟨taken + j, [dB res[taken + j]], rfl, by simp [hjt], rfl, ?_⟩; ((conv => whnf); repeat (first | (refine ChL.l ?_; (conv => whnf)) | (refine ChC.r ?_; (conv => whnf)))))
            (apply kB <;> intro h' <;> ((conv => whnf); repeat (first | (refine ChL.l ?_; (conv => whnf)) | (refine ChC.r ?_; (conv => whnf)))))
            · rw [h', if_pos rfl] at hbs
              have hv : IntKind.i64.wrap (((bad + badN ((res.take (taken + j)).drop taken) : Nat) : Int) + 1) = ((bad + badN ((res.take (taken + (j + 1))).drop taken) : Nat) : Int) := by
                rw [show taken + (j + 1) = taken + j + 1 by omega, hbs, wrapI (by omega) (by omega)]; omega
              refine ⟨m' - 1, by omega, j + 1, by omega, ?_⟩
              rw [hv, hw]
            · rw [h', if_neg (by simp)] at hbs
              refine ⟨m' - 1, by omega, j + 1, by omega, ?_⟩
              rw [show taken + (j + 1) = taken + j + 1 by omega, hbs, show taken + j + 1 = taken + (j + 1) by omega, hw]; rfl
          · rw [decide_eq_false_iff_not, e2] at h
            have hjt : j = t := by omega
            subst hjt
            have hde : (((List.map (fun b => [dB b]) res).length : Int) == IntKind.i64.wrap ((taken : Int) + q.1)) = decide (res.length = taken + j) := by
              rw [List.length_map, e2, Bool.eq_iff_iff, beq_iff_eq, decide_eq_true_eq]; omega
            (apply kB <;> intro h' <;> ((conv => whnf); repeat (first | (refine ChL.l ?_; (conv => whnf)) | (refine ChC.r ?_; (conv => whnf)))))
            · rw [decide_eq_true_eq] at h'
              rw [if_pos h'] at hpl
              rw [← hpl, hde]
              rfl
            · rw [decide_eq_false_iff_not] at h'
              rw [if_neg h'] at hpl
              (apply kB <;> intro h2 <;> ((conv => whnf); repeat (first | (refine ChL.l ?_; (conv => whnf)) | (refine ChC.r ?_; (conv => whnf)))))
              · rw [decide_eq_true_eq] at h2
                rw [if_pos h2] at hpl
                rw [← hpl, hde]
                rfl
              · rw [decide_eq_false_iff_not] at h2
                rw [if_neg h2] at hpl
                refine ⟨m - 1, by omega, k + 1, taken + j, bad + badN ((res.take (taken + j)).drop taken), by omega, by omega, by omega, hf2, hpl, ?_⟩
                rw [e1, e2]
    · have hkl : k = l.length := by rw [decide_eq_false_iff_not, List.length_map] at h; omega
      rw [hkl, List.drop_length, playR] at hpl
      rw [← hpl]
      rfl
theorem play_says {n : Nat} {l : List S3} (res : List Bool) : ∀ (r : List S3) (taken bad : Nat) (v : Int), Ends r → taken ≤ res.length →
    playN res r taken bad v = if (playR res r taken bad).2.2 = true then ((playR res r taken bad).1, (playR res r taken bad).2.1, 0) else (0, 0, 2)
  | [], _, _, _, h, _ => h.elim
  | s :: r, taken, bad, v, he, ht => by
    rw [playN, playR]
    split
    · rfl
    · rename_i h1
      generalize bad + badN ((res.take (taken + s.1.toNat)).drop taken) = x
      unfold says
      by_cases h2 : (x : Int) ≤ s.2.1
      · simp only [if_pos h2]
        by_cases h3 : taken + s.1.toNat < res.length
        · simp [h3]; omega
        · simp [h3]; omega
      · simp only [if_neg h2]
        by_cases h4 : s.2.2 ≤ (x : Int)
        · simp only [if_pos h4]
          by_cases h3 : taken + s.1.toNat < res.length
          · simp [h3]; omega
          · simp [h3]; omega
        · simp only [if_neg h4]
          have her : Ends r := by
            cases r with
            | nil => exfalso; have : s.2.2 = s.2.1 + 1 := he; omega
            | cons s' r' => exact he
          simpa using play_says (n := n) (l := l) res r (taken + s.1.toNat) x 3 her (by omega)
end Go.Ev.Ythmandhpmkfopaa

set_option linter.unusedVariables false
set_option linter.unusedSimpArgs false
set_option maxRecDepth 100000
namespace Go.Ev.Ythmandhpmkfopaa
open Go.Proofs
attribute [local irreducible] Pure Bor Iter tri C memo goN check accR cntR restN playN playR
theorem playI_spec {lot : Int} {l : List S3} (hr : ∀ x ∈ l, InS x) (hc : check lot l = 0) (res : List Bool) :
    playI lot l res = if (playR res l 0 0).2.2 = true then ((playR res l 0 0).1, (playR res l 0 0).2.1, 0) else (0, 0, 2) := by
  obtain ⟨n, rfl, hn1, hn2, hl3, hf, he⟩ := check_good hr hc
  unfold playI
  rw [if_neg (by simp [hc])]
  exact play_says (n := n) (l := l) res l 0 0 0 he (Nat.zero_le _)
theorem says_u8 (res : List Bool) : ∀ (r : List S3) (taken bad : Nat), 0 ≤ (playR res r taken bad).1 ∧ (playR res r taken bad).1 ≤ 3
  | [], _, _ => by rw [playR]; simp
  | s :: r, taken, bad => by
    rw [playR]
    split
    · simp
    · split
      · simp
      · split
        · simp
        · exact says_u8 res r _ _
theorem plays_pure (lot : Int) (l : List S3) (hl : l.length ≤ 9223372036854775807) (hr : ∀ x ∈ l, InS x) (res : List Bool) (hres : res.length ≤ 9223372036854775807) : Pure Try.prog 5 [plD lot l, bsD res] (dB true) := by
  have hthin := thin_pure lot l
  refine pure_of pg Try.func5 (by kernel_rfl) ?_
  ((conv => whnf); repeat (first | (refine ChL.l ?_; (conv => whnf)) | (refine ChC.r ?_; (conv => whnf))))
  (refine .inl ⟨_, hthin, ?_⟩; ((conv => whnf); repeat (first | (refine ChL.l ?_; (conv => whnf)) | (refine ChC.r ?_; (conv => whnf)))))
  by_cases h5 : l.length ≤ 5
  · have e5 : (!decide ((l.length : Int) ≤ 5)) = false := by simp; omega
    (repeat' (first | (apply kT (by with_reducible first | rfl | assumption); ((conv => whnf); repeat (first | (refine ChL.l ?_; (conv => whnf)) | (refine ChC.r ?_; (conv => whnf))))) | (apply kF (by with_reducible first | rfl | assumption); ((conv => whnf); repeat (first | (refine ChL.l ?_; (conv => whnf)) | (refine ChC.r ?_; (conv => whnf))))) | (apply kT (by decide); ((conv => whnf); repeat (first | (refine ChL.l ?_; (conv => whnf)) | (refine ChC.r ?_; (conv => whnf))))) | (apply kF (by decide); ((conv => whnf); repeat (first | (refine ChL.l ?_; (conv => whnf)) | (refine ChC.r ?_; (conv => whnf))))) | (apply kB <;> intro _ <;> ((conv => whnf); repeat (first | (refine ChL.l ?_; (conv => whnf)) | (refine ChC.r ?_; (conv => whnf))))) | fail))
    · (refine .inl ⟨_, wakes_pure, ?_⟩; ((conv => whnf); repeat (first | (refine ChL.l ?_; (conv => whnf)) | (refine ChC.r ?_; (conv => whnf)))))
      rfl
    · rename_i h40
      have h40 : res.length ≤ 40 := by
        rw [decide_eq_false_iff_not, List.length_map] at h40; omega
      have c1 := plan_pure lot l (by omega)
      have c2 := play_pure lot l (by omega) hr res (by omega)
      (refine .inl ⟨_, c1, ?_⟩; ((conv => whnf); repeat (first | (refine ChL.l ?_; (conv => whnf)) | (refine ChC.r ?_; (conv => whnf)))))
      (refine ⟨by intro el he; obtain ⟨b, _, rfl⟩ := List.mem_map.1 he; rfl, ?_⟩; ((conv => whnf); repeat (first | (refine ChL.l ?_; (conv => whnf)) | (refine ChC.r ?_; (conv => whnf)))))
      (refine ⟨by rw [List.length_map]; simp; omega, ?_⟩; ((conv => whnf); repeat (first | (refine ChL.l ?_; (conv => whnf)) | (refine ChC.r ?_; (conv => whnf)))))
      (refine .inl ⟨_, c2, ?_⟩; ((conv => whnf); repeat (first | (refine ChL.l ?_; (conv => whnf)) | (refine ChC.r ?_; (conv => whnf)))))
      (refine .inl ⟨_, fault_pure lot l hr, ?_⟩; ((conv => whnf); repeat (first | (refine ChL.l ?_; (conv => whnf)) | (refine ChC.r ?_; (conv => whnf)))))
      by_cases hc : check lot l = 0
      · have hcb : (check lot l == 0) = true := by simp [hc]
        (apply kT (hcb); ((conv => whnf); repeat (first | (refine ChL.l ?_; (conv => whnf)) | (refine ChC.r ?_; (conv => whnf)))))
        obtain ⟨n, hn, hn1, hn2, hl3, hf, he⟩ := check_good hr hc
        have c3 := refplay_pure hn2 hl3 hf res (by omega)
        rw [← hn] at c3
        (refine .inl ⟨_, c3, ?_⟩; ((conv => whnf); repeat (first | (refine ChL.l ?_; (conv => whnf)) | (refine ChC.r ?_; (conv => whnf)))))
        have hs := playI_spec hr hc res
        have hu := says_u8 res l 0 0
        by_cases hcan : (playR res l 0 0).2.2 = true
        · rw [if_pos hcan] at hs
          have hcan' : (!(playR res l 0 0).2.2) = false := by rw [hcan]; rfl
          (apply kF (hcan'); ((conv => whnf); repeat (first | (refine ChL.l ?_; (conv => whnf)) | (refine ChC.r ?_; (conv => whnf)))))
          have g1 : ((playI lot l res).2.2 == check lot l) = true := by rw [hs, hc]; rfl
          have g2 : (IntKind.i64.wrap (playI lot l res).1 == (playR res l 0 0).1) = true := by
            rw [hs]; simp only [beq_iff_eq]; exact wrapI (by omega) (by omega)
          have g3 : ((playI lot l res).2.1 == (playR res l 0 0).2.1) = true := by rw [hs]; simp
          (repeat' (first | (apply kT (by with_reducible first | rfl | assumption); ((conv => whnf); repeat (first | (refine ChL.l ?_; (conv => whnf)) | (refine ChC.r ?_; (conv => whnf))))) | (apply kF (by with_reducible first | rfl | assumption); ((conv => whnf); repeat (first | (refine ChL.l ?_; (conv => whnf)) | (refine ChC.r ?_; (conv => whnf))))) | (apply kT (by decide); ((conv => whnf); repeat (first | (refine ChL.l ?_; (conv => whnf)) | (refine ChC.r ?_; (conv => whnf))))) | (apply kF (by decide); ((conv => whnf); repeat (first | (refine ChL.l ?_; (conv => whnf)) | (refine ChC.r ?_; (conv => whnf))))) | (apply kB <;> intro _ <;> ((conv => whnf); repeat (first | (refine ChL.l ?_; (conv => whnf)) | (refine ChC.r ?_; (conv => whnf))))) | (refine .inl ⟨_, wakes_pure, ?_⟩; ((conv => whnf); repeat (first | (refine ChL.l ?_; (conv => whnf)) | (refine ChC.r ?_; (conv => whnf))))) | fail))
          rfl
        · rw [if_neg hcan] at hs
          have hcan' : (!(playR res l 0 0).2.2) = true := by simpa using hcan
          (apply kT (hcan'); ((conv => whnf); repeat (first | (refine ChL.l ?_; (conv => whnf)) | (refine ChC.r ?_; (conv => whnf)))))
          have g1 : ((playI lot l res).2.2 == 2) = true := by rw [hs]; rfl
          have g2 : (IntKind.i64.wrap (playI lot l res).1 == 0) = true := by rw [hs]; rfl
          have g3 : ((playI lot l res).2.1 == 0) = true := by rw [hs]; rfl
          (repeat' (first | (apply kT (by with_reducible first | rfl | assumption); ((conv => whnf); repeat (first | (refine ChL.l ?_; (conv => whnf)) | (refine ChC.r ?_; (conv => whnf))))) | (apply kF (by with_reducible first | rfl | assumption); ((conv => whnf); repeat (first | (refine ChL.l ?_; (conv => whnf)) | (refine ChC.r ?_; (conv => whnf))))) | (apply kT (by decide); ((conv => whnf); repeat (first | (refine ChL.l ?_; (conv => whnf)) | (refine ChC.r ?_; (conv => whnf))))) | (apply kF (by decide); ((conv => whnf); repeat (first | (refine ChL.l ?_; (conv => whnf)) | (refine ChC.r ?_; (conv => whnf))))) | (apply kB <;> intro _ <;> ((conv => whnf); repeat (first | (refine ChL.l ?_; (conv => whnf)) | (refine ChC.r ?_; (conv => whnf))))) | (refine .inl ⟨_, wakes_pure, ?_⟩; ((conv => whnf); repeat (first | (refine ChL.l ?_; (conv => whnf)) | (refine ChC.r ?_; (conv => whnf))))) | fail))
          rfl
      · have hcb : (check lot l == 0) = false := by simp [hc]
        (apply kF (hcb); ((conv => whnf); repeat (first | (refine ChL.l ?_; (conv => whnf)) | (refine ChC.r ?_; (conv => whnf)))))
        have hs : playI lot l res = (0, 0, check lot l) := by unfold playI; rw [if_pos hc]
        have g1 : ((playI lot l res).2.2 == check lot l) = true := by rw [hs]; simp
        have g2 : (IntKind.i64.wrap (playI lot l res).1 == 0) = true := by rw [hs]; rfl
        have g3 : ((playI lot l res).2.1 == 0) = true := by rw [hs]; rfl
        (repeat' (first | (apply kT (by with_reducible first | rfl | assumption); ((conv => whnf); repeat (first | (refine ChL.l ?_; (conv => whnf)) | (refine ChC.r ?_; (conv => whnf))))) | (apply kF (by with_reducible first | rfl | assumption); ((conv => whnf); repeat (first | (refine ChL.l ?_; (conv => whnf)) | (refine ChC.r ?_; (conv => whnf))))) | (apply kT (by decide); ((conv => whnf); repeat (first | (refine ChL.l ?_; (conv => whnf)) | (refine ChC.r ?_; (conv => whnf))))) | (apply kF (by decide); ((conv => whnf); repeat (first | (refine ChL.l ?_; (conv => whnf)) | (refine ChC.r ?_; (conv => whnf))))) | (apply kB <;> intro _ <;> ((conv => whnf); repeat (first | (refine ChL.l ?_; (conv => whnf)) | (refine ChC.r ?_; (conv => whnf))))) | (refine .inl ⟨_, wakes_pure, ?_⟩; ((conv => whnf); repeat (first | (refine ChL.l ?_; (conv => whnf)) | (refine ChC.r ?_; (conv => whnf))))) | fail))
        rfl
  · have e5 : (!decide ((l.length : Int) ≤ 5)) = true := by simp; omega
    (repeat' (first | (apply kT (by with_reducible first | rfl | assumption); ((conv => whnf); repeat (first | (refine ChL.l ?_; (conv => whnf)) | (refine ChC.r ?_; (conv => whnf))))) | (apply kF (by with_reducible first | rfl | assumption); ((conv => whnf); repeat (first | (refine ChL.l ?_; (conv => whnf)) | (refine ChC.r ?_; (conv => whnf))))) | (apply kT (by decide); ((conv => whnf); repeat (first | (refine ChL.l ?_; (conv => whnf)) | (refine ChC.r ?_; (conv => whnf))))) | (apply kF (by decide); ((conv => whnf); repeat (first | (refine ChL.l ?_; (conv => whnf)) | (refine ChC.r ?_; (conv => whnf))))) | (apply kB <;> intro _ <;> ((conv => whnf); repeat (first | (refine ChL.l ?_; (conv => whnf)) | (refine ChC.r ?_; (conv => whnf))))) | (refine .inl ⟨_, wakes_pure, ?_⟩; ((conv => whnf); repeat (first | (refine ChL.l ?_; (conv => whnf)) | (refine ChC.r ?_; (conv => whnf))))) | fail))
    rfl
theorem sh_spec (f : N3 → Nat) {lot : Int} {l : List S3} (bad : Int) (hr : ∀ x ∈ l, InS x) :
    (check lot l ≠ 0 ∧ sh f lot l bad = (0, 0, check lot l)) ∨ (check lot l = 0 ∧ ¬ (0 ≤ bad ∧ bad ≤ lot) ∧ sh f lot l bad = (0, 0, 2)) ∨
    (check lot l = 0 ∧ ∃ n b : Nat, lot = n ∧ bad = b ∧ b ≤ n ∧ n ≤ 30 ∧ l.length ≤ 3 ∧ Fit n 0 l ∧ Ends l ∧
      sh f lot l bad = (((f (goN n b l 0 0) / Nat.gcd (f (goN n b l 0 0)) (goN n b l 0 0).2.2 : Nat) : Int), (((goN n b l 0 0).2.2 / Nat.gcd (f (goN n b l 0 0)) (goN n b l 0 0).2.2 : Nat) : Int), 0)) := by
  by_cases hc : check lot l = 0
  · by_cases hb : 0 ≤ bad ∧ bad ≤ lot
    · right; right
      obtain ⟨n, rfl, hn1, hn2, hl3, hf, he⟩ := check_good hr hc
      obtain ⟨b, rfl⟩ : ∃ b : Nat, bad = b := ⟨bad.toNat, by omega⟩
      refine ⟨hc, n, b, rfl, rfl, by omega, hn2, hl3, hf, he, ?_⟩
      unfold sh
      rw [if_neg (by simp [hc]), if_neg (by simp [hb]), Int.toNat_natCast, Int.toNat_natCast]
    · right; left
      refine ⟨hc, hb, ?_⟩
      unfold sh
      rw [if_neg (by simp [hc]), if_pos hb]
  · left
    refine ⟨hc, ?_⟩
    unfold sh
    rw [if_pos hc]
theorem chances_pure (lot : Int) (l : List S3) (hl : l.length ≤ 9223372036854775807) (hr : ∀ x ∈ l, InS x) (bad : Int) : Pure Try.prog 3 [plD lot l, dI bad] (dB true) := by
  have hthin := thin_pure lot l
  refine pure_of pg Try.func3 (by kernel_rfl) ?_
  ((conv => whnf); repeat (first | (refine ChL.l ?_; (conv => whnf)) | (refine ChC.r ?_; (conv => whnf))))
  (refine .inl ⟨_, hthin, ?_⟩; ((conv => whnf); repeat (first | (refine ChL.l ?_; (conv => whnf)) | (refine ChC.r ?_; (conv => whnf)))))
  by_cases h5 : l.length ≤ 5
  · have e5 : (!decide ((l.length : Int) ≤ 5)) = false := by simp; omega
    (apply kF (e5); ((conv => whnf); repeat (first | (refine ChL.l ?_; (conv => whnf)) | (refine ChC.r ?_; (conv => whnf)))))
    have c1 := plan_pure lot l (by omega)
    have c2 := chance_pure lot l (by omega) hr bad
    have c3 := check_pure lot l (by omega)
    have hs := sh_spec (lot := lot) (l := l) (·.1) bad hr
    generalize sh (·.1) lot l bad = x at c2 hs
    (refine .inl ⟨_, c1, ?_⟩; ((conv => whnf); repeat (first | (refine ChL.l ?_; (conv => whnf)) | (refine ChC.r ?_; (conv => whnf)))))
    (refine .inl ⟨_, c3, ?_⟩; ((conv => whnf); repeat (first | (refine ChL.l ?_; (conv => whnf)) | (refine ChC.r ?_; (conv => whnf)))))
    (refine .inl ⟨_, c1, ?_⟩; ((conv => whnf); repeat (first | (refine ChL.l ?_; (conv => whnf)) | (refine ChC.r ?_; (conv => whnf)))))
    (refine .inl ⟨_, c2, ?_⟩; ((conv => whnf); repeat (first | (refine ChL.l ?_; (conv => whnf)) | (refine ChC.r ?_; (conv => whnf)))))
    (refine .inl ⟨_, fault_pure lot l hr, ?_⟩; ((conv => whnf); repeat (first | (refine ChL.l ?_; (conv => whnf)) | (refine ChC.r ?_; (conv => whnf)))))
    have g0 : (check lot l != check lot l) = false := by simp
    (apply kF (g0); ((conv => whnf); repeat (first | (refine ChL.l ?_; (conv => whnf)) | (refine ChC.r ?_; (conv => whnf)))))
    rcases hs with ⟨hc, rfl⟩ | ⟨hc, hb, rfl⟩ | ⟨hc, n, b, rfl, rfl, hbn, hn2, hl3, hf, he, rfl⟩
    · have hcb : (check lot l == 0) = false := by simp [hc]
      have hcb' : (check lot l != 0) = true := by simp [hc]
      have g1 : (check lot l == check lot l) = true := by simp
      (repeat' (first | (apply kT (by with_reducible first | rfl | assumption); ((conv => whnf); repeat (first | (refine ChL.l ?_; (conv => whnf)) | (refine ChC.r ?_; (conv => whnf))))) | (apply kF (by with_reducible first | rfl | assumption); ((conv => whnf); repeat (first | (refine ChL.l ?_; (conv => whnf)) | (refine ChC.r ?_; (conv => whnf))))) | (apply kT (by decide); ((conv => whnf); repeat (first | (refine ChL.l ?_; (conv => whnf)) | (refine ChC.r ?_; (conv => whnf))))) | (apply kF (by decide); ((conv => whnf); repeat (first | (refine ChL.l ?_; (conv => whnf)) | (refine ChC.r ?_; (conv => whnf))))) | (apply kB <;> intro _ <;> ((conv => whnf); repeat (first | (refine ChL.l ?_; (conv => whnf)) | (refine ChC.r ?_; (conv => whnf))))) | (refine .inl ⟨_, wakes_pure, ?_⟩; ((conv => whnf); repeat (first | (refine ChL.l ?_; (conv => whnf)) | (refine ChC.r ?_; (conv => whnf))))) | fail))
      all_goals first | rfl | (rename_i h; simp at h)
    · have hcb : (check lot l == 0) = true := by simp [hc]
      have hin : inB bad 0 lot = false := by simp only [inB, Bool.and_eq_false_iff, decide_eq_false_iff_not]; omega
      have hin' : (!inB bad 0 lot) = true := by rw [hin]; rfl
      (repeat' (first | (apply kT (by with_reducible first | rfl | assumption); ((conv => whnf); repeat (first | (refine ChL.l ?_; (conv => whnf)) | (refine ChC.r ?_; (conv => whnf))))) | (apply kF (by with_reducible first | rfl | assumption); ((conv => whnf); repeat (first | (refine ChL.l ?_; (conv => whnf)) | (refine ChC.r ?_; (conv => whnf))))) | (apply kT (by decide); ((conv => whnf); repeat (first | (refine ChL.l ?_; (conv => whnf)) | (refine ChC.r ?_; (conv => whnf))))) | (apply kF (by decide); ((conv => whnf); repeat (first | (refine ChL.l ?_; (conv => whnf)) | (refine ChC.r ?_; (conv => whnf))))) | (apply kB <;> intro _ <;> ((conv => whnf); repeat (first | (refine ChL.l ?_; (conv => whnf)) | (refine ChC.r ?_; (conv => whnf))))) | (refine .inl ⟨_, in_pure bad 0 lot, ?_⟩; ((conv => whnf); repeat (first | (refine ChL.l ?_; (conv => whnf)) | (refine ChC.r ?_; (conv => whnf))))) | (refine .inl ⟨_, wakes_pure, ?_⟩; ((conv => whnf); repeat (first | (refine ChL.l ?_; (conv => whnf)) | (refine ChC.r ?_; (conv => whnf))))) | fail))
      all_goals first | rfl | (rename_i h; simp at h)
    · have hcb : (check (n : Int) l == 0) = true := by simp [hc]
      have hcb' : (check (n : Int) l != 0) = false := by simp [hc]
      have hin : inB b 0 n = true := by simp only [inB, Bool.and_eq_true, decide_eq_true_eq]; omega
      have hin' : (!inB b 0 n) = false := by rw [hin]; rfl
      have ca := all_counts_pure hn2 hl3 hbn hf he
      obtain ⟨q1, q2, q3⟩ := go_facts n b l 0 0 hf he (by omega) (by omega) (by omega)
      have gp := rest_pos n l 0 hf
      have gl := rest_lt hn2 hl3 hf
      generalize goN n b l 0 0 = g at c2 ca q1 q2 q3
      have b1 : n * restN n 0 l ≤ 30 * 2 ^ 58 := Nat.mul_le_mul hn2 gl
      have w1 : wI g.1 = g.1 := wI_nat (by omega)
      have w3 : wI g.2.2 = g.2.2 := wI_nat (by omega)
      have hi := is_pure ((g.1 / Nat.gcd g.1 g.2.2 : Nat) : Int) ((g.2.2 / Nat.gcd g.1 g.2.2 : Nat) : Int) g.1 g.2.2 (by omega) (by omega) (by omega)
      have hb2 : ((((g.1 / Nat.gcd g.1 g.2.2 : Nat) : Int) == ((g.1 / Nat.gcd g.1 g.2.2 : Nat) : Int)) && (((g.2.2 / Nat.gcd g.1 g.2.2 : Nat) : Int) == ((g.2.2 / Nat.gcd g.1 g.2.2 : Nat) : Int))) = true := by simp
      rw [hb2, ← w1, ← w3] at hi
      (repeat' (first | (apply kT (by with_reducible first | rfl | assumption); ((conv => whnf); repeat (first | (refine ChL.l ?_; (conv => whnf)) | (refine ChC.r ?_; (conv => whnf))))) | (apply kF (by with_reducible first | rfl | assumption); ((conv => whnf); repeat (first | (refine ChL.l ?_; (conv => whnf)) | (refine ChC.r ?_; (conv => whnf))))) | (apply kT (by decide); ((conv => whnf); repeat (first | (refine ChL.l ?_; (conv => whnf)) | (refine ChC.r ?_; (conv => whnf))))) | (apply kF (by decide); ((conv => whnf); repeat (first | (refine ChL.l ?_; (conv => whnf)) | (refine ChC.r ?_; (conv => whnf))))) | (apply kB <;> intro _ <;> ((conv => whnf); repeat (first | (refine ChL.l ?_; (conv => whnf)) | (refine ChC.r ?_; (conv => whnf))))) | (refine .inl ⟨_, in_pure b 0 n, ?_⟩; ((conv => whnf); repeat (first | (refine ChL.l ?_; (conv => whnf)) | (refine ChC.r ?_; (conv => whnf))))) | (refine .inl ⟨_, ca, ?_⟩; ((conv => whnf); repeat (first | (refine ChL.l ?_; (conv => whnf)) | (refine ChC.r ?_; (conv => whnf))))) | (refine .inl ⟨_, hi, ?_⟩; ((conv => whnf); repeat (first | (refine ChL.l ?_; (conv => whnf)) | (refine ChC.r ?_; (conv => whnf))))) | (refine .inl ⟨_, wakes_pure, ?_⟩; ((conv => whnf); repeat (first | (refine ChL.l ?_; (conv => whnf)) | (refine ChC.r ?_; (conv => whnf))))) | fail))
      all_goals first | rfl | (rename_i h; simp at h)
  · have e5 : (!decide ((l.length : Int) ≤ 5)) = true := by simp; omega
    (repeat' (first | (apply kT (by with_reducible first | rfl | assumption); ((conv => whnf); repeat (first | (refine ChL.l ?_; (conv => whnf)) | (refine ChC.r ?_; (conv => whnf))))) | (apply kF (by with_reducible first | rfl | assumption); ((conv => whnf); repeat (first | (refine ChL.l ?_; (conv => whnf)) | (refine ChC.r ?_; (conv => whnf))))) | (apply kT (by decide); ((conv => whnf); repeat (first | (refine ChL.l ?_; (conv => whnf)) | (refine ChC.r ?_; (conv => whnf))))) | (apply kF (by decide); ((conv => whnf); repeat (first | (refine ChL.l ?_; (conv => whnf)) | (refine ChC.r ?_; (conv => whnf))))) | (apply kB <;> intro _ <;> ((conv => whnf); repeat (first | (refine ChL.l ?_; (conv => whnf)) | (refine ChC.r ?_; (conv => whnf))))) | (refine .inl ⟨_, wakes_pure, ?_⟩; ((conv => whnf); repeat (first | (refine ChL.l ?_; (conv => whnf)) | (refine ChC.r ?_; (conv => whnf))))) | fail))
    rfl
theorem means_pure (lot : Int) (l : List S3) (hl : l.length ≤ 9223372036854775807) (hr : ∀ x ∈ l, InS x) (bad : Int) : Pure Try.prog 4 [plD lot l, dI bad] (dB true) := by
  have hthin := thin_pure lot l
  refine pure_of pg Try.func4 (by kernel_rfl) ?_
  ((conv => whnf); repeat (first | (refine ChL.l ?_; (conv => whnf)) | (refine ChC.r ?_; (conv => whnf))))
  (refine .inl ⟨_, hthin, ?_⟩; ((conv => whnf); repeat (first | (refine ChL.l ?_; (conv => whnf)) | (refine ChC.r ?_; (conv => whnf)))))
  by_cases h5 : l.length ≤ 5
  · have e5 : (!decide ((l.length : Int) ≤ 5)) = false := by simp; omega
    (apply kF (e5); ((conv => whnf); repeat (first | (refine ChL.l ?_; (conv => whnf)) | (refine ChC.r ?_; (conv => whnf)))))
    have c1 := plan_pure lot l (by omega)
    have c2 := mean_pure lot l (by omega) hr bad
    have hs := sh_spec (lot := lot) (l := l) (·.2.1) bad hr
    generalize sh (·.2.1) lot l bad = x at c2 hs
    (refine .inl ⟨_, c1, ?_⟩; ((conv => whnf); repeat (first | (refine ChL.l ?_; (conv => whnf)) | (refine ChC.r ?_; (conv => whnf)))))
    (refine .inl ⟨_, c2, ?_⟩; ((conv => whnf); repeat (first | (refine ChL.l ?_; (conv => whnf)) | (refine ChC.r ?_; (conv => whnf)))))
    (refine .inl ⟨_, fault_pure lot l hr, ?_⟩; ((conv => whnf); repeat (first | (refine ChL.l ?_; (conv => whnf)) | (refine ChC.r ?_; (conv => whnf)))))
    rcases hs with ⟨hc, rfl⟩ | ⟨hc, hb, rfl⟩ | ⟨hc, n, b, rfl, rfl, hbn, hn2, hl3, hf, he, rfl⟩
    · have hcb : (check lot l == 0) = false := by simp [hc]
      have hcb' : (check lot l != 0) = true := by simp [hc]
      have g1 : (check lot l == check lot l) = true := by simp
      (repeat' (first | (apply kT (by with_reducible first | rfl | assumption); ((conv => whnf); repeat (first | (refine ChL.l ?_; (conv => whnf)) | (refine ChC.r ?_; (conv => whnf))))) | (apply kF (by with_reducible first | rfl | assumption); ((conv => whnf); repeat (first | (refine ChL.l ?_; (conv => whnf)) | (refine ChC.r ?_; (conv => whnf))))) | (apply kT (by decide); ((conv => whnf); repeat (first | (refine ChL.l ?_; (conv => whnf)) | (refine ChC.r ?_; (conv => whnf))))) | (apply kF (by decide); ((conv => whnf); repeat (first | (refine ChL.l ?_; (conv => whnf)) | (refine ChC.r ?_; (conv => whnf))))) | (apply kB <;> intro _ <;> ((conv => whnf); repeat (first | (refine ChL.l ?_; (conv => whnf)) | (refine ChC.r ?_; (conv => whnf))))) | (refine .inl ⟨_, wakes_pure, ?_⟩; ((conv => whnf); repeat (first | (refine ChL.l ?_; (conv => whnf)) | (refine ChC.r ?_; (conv => whnf))))) | fail))
      all_goals first | rfl | (rename_i h; simp at h)
    · have hcb : (check lot l == 0) = true := by simp [hc]
      have hin : inB bad 0 lot = false := by simp only [inB, Bool.and_eq_false_iff, decide_eq_false_iff_not]; omega
      have hin' : (!inB bad 0 lot) = true := by rw [hin]; rfl
      (repeat' (first | (apply kT (by with_reducible first | rfl | assumption); ((conv => whnf); repeat (first | (refine ChL.l ?_; (conv => whnf)) | (refine ChC.r ?_; (conv => whnf))))) | (apply kF (by with_reducible first | rfl | assumption); ((conv => whnf); repeat (first | (refine ChL.l ?_; (conv => whnf)) | (refine ChC.r ?_; (conv => whnf))))) | (apply kT (by decide); ((conv => whnf); repeat (first | (refine ChL.l ?_; (conv => whnf)) | (refine ChC.r ?_; (conv => whnf))))) | (apply kF (by decide); ((conv => whnf); repeat (first | (refine ChL.l ?_; (conv => whnf)) | (refine ChC.r ?_; (conv => whnf))))) | (apply kB <;> intro _ <;> ((conv => whnf); repeat (first | (refine ChL.l ?_; (conv => whnf)) | (refine ChC.r ?_; (conv => whnf))))) | (refine .inl ⟨_, in_pure bad 0 lot, ?_⟩; ((conv => whnf); repeat (first | (refine ChL.l ?_; (conv => whnf)) | (refine ChC.r ?_; (conv => whnf))))) | (refine .inl ⟨_, wakes_pure, ?_⟩; ((conv => whnf); repeat (first | (refine ChL.l ?_; (conv => whnf)) | (refine ChC.r ?_; (conv => whnf))))) | fail))
      all_goals first | rfl | (rename_i h; simp at h)
    · have hcb : (check (n : Int) l == 0) = true := by simp [hc]
      have hcb' : (check (n : Int) l != 0) = false := by simp [hc]
      have hin : inB b 0 n = true := by simp only [inB, Bool.and_eq_true, decide_eq_true_eq]; omega
      have hin' : (!inB b 0 n) = false := by rw [hin]; rfl
      have ca := all_counts_pure hn2 hl3 hbn hf he
      obtain ⟨q1, q2, q3⟩ := go_facts n b l 0 0 hf he (by omega) (by omega) (by omega)
      have gp := rest_pos n l 0 hf
      have gl := rest_lt hn2 hl3 hf
      generalize goN n b l 0 0 = g at c2 ca q1 q2 q3
      have b1 : n * restN n 0 l ≤ 30 * 2 ^ 58 := Nat.mul_le_mul hn2 gl
      have w1 : wI g.2.1 = g.2.1 := wI_nat (by omega)
      have w3 : wI g.2.2 = g.2.2 := wI_nat (by omega)
      have hi := is_pure ((g.2.1 / Nat.gcd g.2.1 g.2.2 : Nat) : Int) ((g.2.2 / Nat.gcd g.2.1 g.2.2 : Nat) : Int) g.2.1 g.2.2 (by omega) (by omega) (by omega)
      have hb2 : ((((g.2.1 / Nat.gcd g.2.1 g.2.2 : Nat) : Int) == ((g.2.1 / Nat.gcd g.2.1 g.2.2 : Nat) : Int)) && (((g.2.2 / Nat.gcd g.2.1 g.2.2 : Nat) : Int) == ((g.2.2 / Nat.gcd g.2.1 g.2.2 : Nat) : Int))) = true := by simp
      rw [hb2, ← w1, ← w3] at hi
      (repeat' (first | (apply kT (by with_reducible first | rfl | assumption); ((conv => whnf); repeat (first | (refine ChL.l ?_; (conv => whnf)) | (refine ChC.r ?_; (conv => whnf))))) | (apply kF (by with_reducible first | rfl | assumption); ((conv => whnf); repeat (first | (refine ChL.l ?_; (conv => whnf)) | (refine ChC.r ?_; (conv => whnf))))) | (apply kT (by decide); ((conv => whnf); repeat (first | (refine ChL.l ?_; (conv => whnf)) | (refine ChC.r ?_; (conv => whnf))))) | (apply kF (by decide); ((conv => whnf); repeat (first | (refine ChL.l ?_; (conv => whnf)) | (refine ChC.r ?_; (conv => whnf))))) | (apply kB <;> intro _ <;> ((conv => whnf); repeat (first | (refine ChL.l ?_; (conv => whnf)) | (refine ChC.r ?_; (conv => whnf))))) | (refine .inl ⟨_, in_pure b 0 n, ?_⟩; ((conv => whnf); repeat (first | (refine ChL.l ?_; (conv => whnf)) | (refine ChC.r ?_; (conv => whnf))))) | (refine .inl ⟨_, ca, ?_⟩; ((conv => whnf); repeat (first | (refine ChL.l ?_; (conv => whnf)) | (refine ChC.r ?_; (conv => whnf))))) | (refine .inl ⟨_, hi, ?_⟩; ((conv => whnf); repeat (first | (refine ChL.l ?_; (conv => whnf)) | (refine ChC.r ?_; (conv => whnf))))) | (refine .inl ⟨_, wakes_pure, ?_⟩; ((conv => whnf); repeat (first | (refine ChL.l ?_; (conv => whnf)) | (refine ChC.r ?_; (conv => whnf))))) | fail))
      all_goals first | rfl | (rename_i h; simp at h)
  · have e5 : (!decide ((l.length : Int) ≤ 5)) = true := by simp; omega
    (repeat' (first | (apply kT (by with_reducible first | rfl | assumption); ((conv => whnf); repeat (first | (refine ChL.l ?_; (conv => whnf)) | (refine ChC.r ?_; (conv => whnf))))) | (apply kF (by with_reducible first | rfl | assumption); ((conv => whnf); repeat (first | (refine ChL.l ?_; (conv => whnf)) | (refine ChC.r ?_; (conv => whnf))))) | (apply kT (by decide); ((conv => whnf); repeat (first | (refine ChL.l ?_; (conv => whnf)) | (refine ChC.r ?_; (conv => whnf))))) | (apply kF (by decide); ((conv => whnf); repeat (first | (refine ChL.l ?_; (conv => whnf)) | (refine ChC.r ?_; (conv => whnf))))) | (apply kB <;> intro _ <;> ((conv => whnf); repeat (first | (refine ChL.l ?_; (conv => whnf)) | (refine ChC.r ?_; (conv => whnf))))) | (refine .inl ⟨_, wakes_pure, ?_⟩; ((conv => whnf); repeat (first | (refine ChL.l ?_; (conv => whnf)) | (refine ChC.r ?_; (conv => whnf))))) | fail))
    rfl
end Go.Ev.Ythmandhpmkfopaa

set_option linter.unusedVariables false
set_option linter.unusedSimpArgs false
namespace Go.Ev.Ythmandhpmkfopaa
open Go.Proofs
theorem map_of {α β : Type} {f : α → β} {q : α → Prop} : ∀ {es : List β}, (∀ el ∈ es, ∃ x, el = f x ∧ q x) → ∃ l : List α, es = l.map f ∧ ∀ x ∈ l, q x
  | [], _ => ⟨[], rfl, fun x hx => by cases hx⟩
  | e :: es, h => by
    obtain ⟨x, rfl, hq⟩ := h e (by simp)
    obtain ⟨l, rfl, hl⟩ := map_of (es := es) fun el he => h el (by simp [he])
    exact ⟨x :: l, rfl, fun y hy => by
      rcases List.mem_cons.1 hy with rfl | hy
      · exact hq
      · exact hl y hy⟩
theorem inR_of {n : Int} (h : (Lit.int .i64 n).wf = true) : InR n := by
  have := bounds_i64 h
  unfold InR; omega
theorem okV_int {n : Nat} {t : TypeId} {d : D} {k : IntKind} {sz by' : Nat} {z : List Value} {fl : Bool × Bool} (ht : tb t = some ⟨.int k, sz, by', z, fl⟩) (h : OkV tb (n + 1) t d) : ∃ i, d = .v (.int k i) ∧ (Lit.int k i).wf = true := by
  obtain ⟨y, ds, hy, hd, rfl⟩ := h
  rw [ht] at hy; cases hy
  simp only [OkD, ht] at hd
  obtain ⟨i, rfl, hw⟩ := hd
  exact ⟨i, rfl, hw⟩
theorem okV_plan {d : D} (h : OkV tb 6 24 d) : ∃ lot l, d = plD lot l ∧ InR lot ∧ l.length ≤ 9223372036854775807 ∧ ∀ x ∈ l, InS x := by
  obtain ⟨y, ds, hy, hd, rfl⟩ := h
  cases hy
  obtain ⟨d1, d2, rfl, ⟨lot, rfl, hw⟩, d3, d4, rfl, ⟨es, rfl, hlen, hel⟩, rfl⟩ := hd
  obtain ⟨l, rfl, hl⟩ := map_of (f := stD) (q := InS) (es := es) fun el he => by
    obtain ⟨a1, r1, rfl, ⟨i1, rfl, w1⟩, a2, r2, rfl, ⟨i2, rfl, w2⟩, a3, r3, rfl, ⟨i3, rfl, w3⟩, rfl⟩ := hel el he
    exact ⟨(i1, i2, i3), rfl, inR_of w1, inR_of w2, inR_of w3⟩
  exact ⟨lot, l, rfl, inR_of hw, by simpa [maxLen] using hlen, hl⟩
theorem okV_bools {d : D} (h : OkV tb 6 44 d) : ∃ l : List Bool, d = bsD l ∧ l.length ≤ 9223372036854775807 := by
  obtain ⟨y, ds, hy, hd, rfl⟩ := h
  cases hy
  obtain ⟨es, rfl, hlen, hel⟩ := hd
  obtain ⟨l, rfl, hl⟩ := map_of (f := fun b : Bool => [dB b]) (q := fun _ => True) (es := es) fun el he => by
    obtain ⟨b, rfl⟩ := hel el he
    exact ⟨b, rfl, trivial⟩
  exact ⟨l, rfl, by simpa [maxLen] using hlen⟩
theorem law_own : ownKnob Try.prog.godebug = none := by kernel_rfl
theorem law_laid : laidOutB Try.prog = true := by kernel_rfl
end Go.Ev.Ythmandhpmkfopaa
