/-
  Contracts of functions, and plain laws, that lead to the statement. Written by an agent.
-/
import Derived.Test.YtijidghjiaiccaaProg
import Derived.KernelRfl
import Derived.Test.YtijidghjiaiccaaKd
set_option linter.unusedVariables false
set_option linter.unusedSimpArgs false
namespace Go.Ev.Ytijidghjiaiccaa
open Go.Proofs
def tys : List (Option Ty) := [
 none,
 some ⟨.other, 1, 8, [.nilFunc], (false, false)⟩,
 some ⟨.int .i64, 1, 8, [.int .i64 0], (false, false)⟩,
 some ⟨.int .i64, 1, 8, [.int .i64 0], (false, false)⟩,
 some ⟨.bool, 1, 1, [.bool false], (false, false)⟩,
 some ⟨.int .u8, 1, 1, [.int .u8 0], (false, false)⟩,
 some ⟨.int .u8, 1, 1, [.int .u8 0], (false, false)⟩,
 some ⟨.struct [(0, 2), (1, 3), (2, 4), (3, 6)], 4, 24, [.int .i64 0, .int .i64 0, .bool false, .int .u8 0], (false, false)⟩,
 some ⟨.struct [(0, 2), (1, 3), (2, 4), (3, 6)], 4, 24, [.int .i64 0, .int .i64 0, .bool false, .int .u8 0], (false, false)⟩,
 some ⟨.str, 1, 16, [.string ByteArray.empty], (false, false)⟩,
 some ⟨.str, 1, 16, [.string ByteArray.empty], (false, false)⟩,
 some ⟨.str, 1, 16, [.string ByteArray.empty], (false, false)⟩,
 some ⟨.int .u64, 1, 8, [.int .u64 0], (false, false)⟩,
 some ⟨.struct [(0, 9), (1, 12)], 2, 24, [.string ByteArray.empty, .int .u64 0], (false, false)⟩,
 some ⟨.struct [(0, 9), (1, 12)], 2, 24, [.string ByteArray.empty, .int .u64 0], (false, false)⟩,
 some ⟨.ptr 169, 1, 8, [.pointer none], (false, false)⟩,
 some ⟨.ptr 172, 1, 8, [.pointer none], (false, false)⟩,
 some ⟨.ptr 180, 1, 8, [.pointer none], (false, false)⟩,
 some ⟨.struct [(0, 17)], 1, 8, [.pointer none], (false, false)⟩,
 some ⟨.struct [(0, 17)], 1, 8, [.pointer none], (false, false)⟩,
 some ⟨.other, 1, 16, [.nilIface], (false, false)⟩,
 some ⟨.int .i32, 1, 4, [.int .i32 0], (false, false)⟩,
 some ⟨.slice 30, 1, 24, [.slice none 0 0], (false, false)⟩,
 some ⟨.struct [(0, 3), (1, 22)], 2, 32, [.int .i64 0, .slice none 0 0], (false, false)⟩,
 some ⟨.struct [(0, 3), (1, 22)], 2, 32, [.int .i64 0, .slice none 0 0], (false, false)⟩,
 some ⟨.slice 5, 1, 24, [.slice none 0 0], (false, false)⟩,
 some ⟨.other, 1, 8, [.nilFunc], (false, false)⟩,
 some ⟨.other, 1, 8, [.nilFunc], (false, false)⟩,
 some ⟨.other, 1, 8, [.nilFunc], (false, false)⟩,
 some ⟨.struct [(0, 3), (1, 3), (2, 3)], 3, 24, [.int .i64 0, .int .i64 0, .int .i64 0], (false, false)⟩,
 some ⟨.struct [(0, 3), (1, 3), (2, 3)], 3, 24, [.int .i64 0, .int .i64 0, .int .i64 0], (false, true)⟩,
 some ⟨.struct [(0, 3), (1, 3)], 2, 16, [.int .i64 0, .int .i64 0], (false, false)⟩,
 some ⟨.struct [(0, 3), (1, 3)], 2, 16, [.int .i64 0, .int .i64 0], (false, true)⟩,
 some ⟨.slice 32, 1, 24, [.slice none 0 0], (false, false)⟩,
 some ⟨.slice 33, 1, 24, [.slice none 0 0], (false, false)⟩,
 some ⟨.slice 40, 1, 24, [.slice none 0 0], (false, false)⟩,
 some ⟨.struct [(0, 34), (1, 35)], 2, 48, [.slice none 0 0, .slice none 0 0], (false, false)⟩,
 some ⟨.struct [(0, 34), (1, 35)], 2, 48, [.slice none 0 0, .slice none 0 0], (false, false)⟩,
 some ⟨.slice 4, 1, 24, [.slice none 0 0], (false, false)⟩,
 some ⟨.struct [(0, 3), (1, 3), (2, 38)], 3, 40, [.int .i64 0, .int .i64 0, .slice none 0 0], (false, false)⟩,
 some ⟨.struct [(0, 3), (1, 3), (2, 38)], 3, 40, [.int .i64 0, .int .i64 0, .slice none 0 0], (false, false)⟩,
 some ⟨.slice 54, 1, 24, [.slice none 0 0], (false, false)⟩,
 some ⟨.int .i64, 1, 8, [.int .i64 0], (false, false)⟩,
 none,
 some ⟨.other, 1, 8, [.nilFunc], (false, false)⟩,
 some ⟨.int .u64, 1, 8, [.int .u64 0], (false, false)⟩,
 none,
 some ⟨.other, 1, 8, [.nilFunc], (false, false)⟩,
 some ⟨.slice 72, 1, 24, [.slice none 0 0], (false, false)⟩,
 some ⟨.struct [(0, 3), (1, 48)], 2, 32, [.int .i64 0, .slice none 0 0], (false, false)⟩,
 some ⟨.struct [(0, 3), (1, 48)], 2, 32, [.int .i64 0, .slice none 0 0], (false, false)⟩,
 some ⟨.other, 1, 8, [.nilFunc], (false, false)⟩,
 some ⟨.other, 1, 8, [.nilFunc], (false, false)⟩,
 some ⟨.int .u16, 1, 2, [.int .u16 0], (false, false)⟩,
 some ⟨.slice 3, 1, 24, [.slice none 0 0], (false, false)⟩,
 some ⟨.slice 57, 1, 24, [.slice none 0 0], (false, false)⟩,
 some ⟨.struct [(0, 3), (1, 3)], 2, 16, [.int .i64 0, .int .i64 0], (false, false)⟩,
 some ⟨.struct [(0, 3), (1, 3)], 2, 16, [.int .i64 0, .int .i64 0], (false, true)⟩,
 some ⟨.slice 65, 1, 24, [.slice none 0 0], (false, false)⟩,
 none,
 some ⟨.other, 1, 8, [.nilFunc], (false, false)⟩,
 some ⟨.other, 1, 8, [.nilFunc], (false, false)⟩,
 none,
 some ⟨.other, 1, 8, [.nilFunc], (false, false)⟩,
 some ⟨.struct [(0, 3), (1, 5)], 2, 16, [.int .i64 0, .int .u8 0], (false, false)⟩,
 some ⟨.struct [(0, 3), (1, 5)], 2, 16, [.int .i64 0, .int .u8 0], (false, true)⟩,
 none,
 some ⟨.other, 1, 8, [.nilFunc], (false, false)⟩,
 some ⟨.struct [(0, 3), (1, 3), (2, 58)], 3, 40, [.int .i64 0, .int .i64 0, .slice none 0 0], (false, false)⟩,
 some ⟨.struct [(0, 3), (1, 3), (2, 58)], 3, 40, [.int .i64 0, .int .i64 0, .slice none 0 0], (false, false)⟩,
 some ⟨.other, 1, 8, [.nilFunc], (false, false)⟩,
 some ⟨.other, 1, 8, [.nilFunc], (false, false)⟩,
 some ⟨.struct [(0, 3), (1, 3), (2, 3)], 3, 24, [.int .i64 0, .int .i64 0, .int .i64 0], (false, true)⟩,
 some ⟨.other, 1, 8, [.nilFunc], (false, false)⟩,
 some ⟨.ptr 79, 1, 8, [.pointer none], (false, false)⟩,
 none,
 some ⟨.other, 1, 8, [.nilFunc], (false, false)⟩,
 some ⟨.slice 81, 1, 24, [.slice none 0 0], (false, false)⟩,
 some ⟨.struct [(0, 37), (2, 77)], 3, 72, [.slice none 0 0, .slice none 0 0, .slice none 0 0], (false, false)⟩,
 some ⟨.struct [(0, 37), (2, 77)], 3, 72, [.slice none 0 0, .slice none 0 0, .slice none 0 0], (false, false)⟩,
 some ⟨.arr 4 3, 4, 32, [.int .i64 0, .int .i64 0, .int .i64 0, .int .i64 0], (false, false)⟩,
 some ⟨.arr 4 3, 4, 32, [.int .i64 0, .int .i64 0, .int .i64 0, .int .i64 0], (false, true)⟩,
 some ⟨.other, 1, 8, [.nilFunc], (false, false)⟩,
 some ⟨.other, 1, 8, [.nilFunc], (false, false)⟩,
 some ⟨.other, 1, 8, [.nilFunc], (false, false)⟩,
 some ⟨.other, 1, 8, [.nilFunc], (false, false)⟩,
 some ⟨.other, 1, 8, [.nilFunc], (false, false)⟩,
 some ⟨.other, 1, 8, [.nilFunc], (false, false)⟩,
 some ⟨.other, 1, 8, [.nilFunc], (false, false)⟩,
 some ⟨.struct [(0, 88)], 1, 8, [.nilFunc], (false, false)⟩,
 some ⟨.struct [(0, 88)], 1, 8, [.nilFunc], (false, false)⟩,
 some ⟨.slice 90, 1, 24, [.slice none 0 0], (false, false)⟩,
 some ⟨.other, 1, 8, [.nilFunc], (false, false)⟩,
 some ⟨.other, 1, 8, [.nilFunc], (false, false)⟩,
 some ⟨.other, 1, 8, [.nilFunc], (false, false)⟩,
 some ⟨.other, 1, 8, [.nilFunc], (false, false)⟩,
 some ⟨.other, 1, 8, [.nilFunc], (false, false)⟩,
 some ⟨.other, 1, 8, [.nilFunc], (false, false)⟩,
 some ⟨.other, 1, 8, [.nilFunc], (false, false)⟩,
 some ⟨.other, 1, 8, [.nilFunc], (false, false)⟩,
 some ⟨.other, 1, 8, [.nilFunc], (false, false)⟩,
 some ⟨.other, 1, 8, [.nilFunc], (false, false)⟩,
 some ⟨.other, 1, 8, [.nilFunc], (false, false)⟩,
 some ⟨.other, 1, 8, [.nilFunc], (false, false)⟩,
 some ⟨.other, 1, 8, [.nilFunc], (false, false)⟩,
 some ⟨.other, 1, 8, [.nilFunc], (false, false)⟩,
 some ⟨.other, 1, 8, [.nilFunc], (false, false)⟩,
 some ⟨.other, 1, 8, [.nilFunc], (false, false)⟩,
 some ⟨.other, 1, 8, [.nilFunc], (false, false)⟩,
 some ⟨.other, 1, 8, [.nilFunc], (false, false)⟩,
 some ⟨.other, 1, 8, [.nilFunc], (false, false)⟩,
 some ⟨.other, 1, 8, [.nilFunc], (false, false)⟩,
 some ⟨.other, 1, 8, [.nilFunc], (false, false)⟩,
 some ⟨.other, 1, 8, [.nilFunc], (false, false)⟩,
 some ⟨.other, 1, 8, [.nilFunc], (false, false)⟩,
 some ⟨.other, 1, 8, [.nilFunc], (false, false)⟩,
 some ⟨.arr 6 4, 6, 6, [.bool false, .bool false, .bool false, .bool false, .bool false, .bool false], (false, false)⟩,
 some ⟨.other, 1, 8, [.nilFunc], (false, false)⟩,
 some ⟨.other, 1, 8, [.nilFunc], (false, false)⟩,
 some ⟨.other, 1, 8, [.nilFunc], (false, false)⟩,
 some ⟨.other, 1, 8, [.nilFunc], (false, false)⟩,
 some ⟨.map 124 4, 1, 8, [.map none], (false, false)⟩,
 some ⟨.other, 1, 8, [.nilFunc], (false, false)⟩,
 some ⟨.struct [(0, 3), (1, 3)], 2, 16, [.int .i64 0, .int .i64 0], (false, false)⟩,
 some ⟨.struct [(0, 3), (1, 3)], 2, 16, [.int .i64 0, .int .i64 0], (false, true)⟩,
 none,
 some ⟨.other, 1, 8, [.nilFunc], (false, false)⟩,
 some ⟨.arr 14 5, 14, 14, List.replicate 14 (.int .u8 0), (true, false)⟩,
 some ⟨.arr 14 5, 14, 14, List.replicate 14 (.int .u8 0), (true, true)⟩,
 some ⟨.arr 14 3, 14, 112, List.replicate 14 (.int .i64 0), (true, false)⟩,
 some ⟨.struct [(0, 69), (3, 128), (17, 129)], 31, 168, [.int .i64 0, .int .i64 0, .slice none 0 0] ++ List.replicate 14 (.int .u8 0) ++ List.replicate 14 (.int .i64 0), (true, false)⟩,
 some ⟨.struct [(0, 69), (3, 128), (17, 129)], 31, 168, [.int .i64 0, .int .i64 0, .slice none 0 0] ++ List.replicate 14 (.int .u8 0) ++ List.replicate 14 (.int .i64 0), (true, false)⟩,
 none,
 some ⟨.other, 1, 8, [.nilFunc], (false, false)⟩,
 some ⟨.other, 1, 8, [.nilFunc], (false, false)⟩,
 some ⟨.struct [(0, 3), (1, 3), (2, 3)], 3, 24, [.int .i64 0, .int .i64 0, .int .i64 0], (false, false)⟩,
 some ⟨.struct [(0, 3), (1, 3), (2, 3)], 3, 24, [.int .i64 0, .int .i64 0, .int .i64 0], (false, true)⟩,
 some ⟨.map 136 136, 1, 8, [.map none], (false, false)⟩,
 some ⟨.slice 136, 1, 24, [.slice none 0 0], (false, false)⟩,
 some ⟨.other, 1, 8, [.nilFunc], (false, false)⟩,
 some ⟨.other, 1, 8, [.nilFunc], (false, false)⟩,
 some ⟨.other, 1, 8, [.nilFunc], (false, false)⟩,
 some ⟨.struct [(0, 141)], 1, 8, [.nilFunc], (false, false)⟩,
 some ⟨.struct [(0, 141)], 1, 8, [.nilFunc], (false, false)⟩,
 some ⟨.slice 143, 1, 24, [.slice none 0 0], (false, false)⟩,
 some ⟨.other, 1, 8, [.nilFunc], (false, false)⟩,
 none,
 some ⟨.other, 1, 8, [.nilFunc], (false, false)⟩,
 some ⟨.other, 1, 8, [.nilFunc], (false, false)⟩,
 some ⟨.other, 1, 8, [.nilFunc], (false, false)⟩,
 some ⟨.other, 1, 8, [.nilFunc], (false, false)⟩,
 some ⟨.other, 1, 8, [.nilFunc], (false, false)⟩,
 some ⟨.other, 1, 8, [.nilFunc], (false, false)⟩,
 some ⟨.int .u32, 1, 4, [.int .u32 0], (false, false)⟩,
 none,
 some ⟨.other, 1, 8, [.nilFunc], (false, false)⟩,
 some ⟨.int .u64, 1, 8, [.int .u64 0], (false, false)⟩,
 none,
 some ⟨.other, 1, 8, [.nilFunc], (false, false)⟩,
 some ⟨.other, 1, 8, [.nilFunc], (false, false)⟩,
 some ⟨.other, 1, 8, [.nilFunc], (false, false)⟩,
 some ⟨.other, 1, 8, [.nilFunc], (false, false)⟩,
 some ⟨.other, 1, 8, [.nilFunc], (false, false)⟩,
 some ⟨.other, 1, 8, [.nilFunc], (false, false)⟩,
 some ⟨.other, 1, 8, [.nilFunc], (false, false)⟩,
 some ⟨.other, 1, 8, [.nilFunc], (false, false)⟩,
 some ⟨.other, 1, 8, [.nilFunc], (false, false)⟩,
 some ⟨.other, 1, 8, [.nilFunc], (false, false)⟩,
 some ⟨.struct [(0, 17), (1, 17), (2, 17), (3, 9)], 4, 40, [.pointer none, .pointer none, .pointer none, .string ByteArray.empty], (false, false)⟩,
 some ⟨.struct [(0, 17), (1, 17), (2, 17), (3, 9)], 4, 40, [.pointer none, .pointer none, .pointer none, .string ByteArray.empty], (false, false)⟩,
 some ⟨.arr 0 16, 0, 0, [], (false, false)⟩,
 some ⟨.struct [(0, 170)], 0, 0, [], (false, false)⟩,
 some ⟨.struct [(0, 170)], 0, 0, [], (false, false)⟩,
 some ⟨.int .u8, 1, 1, [.int .u8 0], (false, false)⟩,
 some ⟨.int .u8, 1, 1, [.int .u8 0], (false, false)⟩,
 some ⟨.other, 1, 8, [.nilFunc], (false, false)⟩,
 some ⟨.ptr 5, 1, 8, [.pointer none], (false, false)⟩,
 some ⟨.int .i32, 1, 4, [.int .i32 0], (false, false)⟩,
 some ⟨.int .i32, 1, 4, [.int .i32 0], (false, false)⟩,
 some ⟨.struct [(0, 12), (1, 12), (2, 153), (3, 173), (4, 5), (5, 5), (6, 174), (7, 175), (8, 176), (9, 177), (10, 178)], 11, 48, [.int .u64 0, .int .u64 0, .int .u32 0, .int .u8 0, .int .u8 0, .int .u8 0, .int .u8 0, .nilFunc, .pointer none, .int .i32 0, .int .i32 0], (false, false)⟩,
 some ⟨.struct [(0, 12), (1, 12), (2, 153), (3, 173), (4, 5), (5, 5), (6, 174), (7, 175), (8, 176), (9, 177), (10, 178)], 11, 48, [.int .u64 0, .int .u64 0, .int .u32 0, .int .u8 0, .int .u8 0, .int .u8 0, .int .u8 0, .nilFunc, .pointer none, .int .i32 0, .int .i32 0], (false, false)⟩,
 some ⟨.other, 1, 8, [.nilFunc], (false, false)⟩,
 some ⟨.other, 1, 8, [.pointer none], (false, false)⟩,
 some ⟨.ptr 189, 1, 8, [.pointer none], (false, false)⟩,
 some ⟨.arr 31 3, 31, 248, List.replicate 31 (.int .i64 0), (true, false)⟩,
 some ⟨.arr 31 184, 961, 7688, List.replicate 961 (.int .i64 0), (true, false)⟩,
 some ⟨.arr 31 184, 961, 7688, List.replicate 961 (.int .i64 0), (true, true)⟩,
 some ⟨.map 191 193, 1, 8, [.map none], (false, false)⟩,
 some ⟨.struct [(0, 50), (2, 3), (3, 186), (964, 187)], 965, 7736, [.int .i64 0, .slice none 0 0] ++ List.replicate 962 (.int .i64 0) ++ [.map none], (true, false)⟩,
 some ⟨.struct [(0, 50), (2, 3), (3, 186), (964, 187)], 965, 7736, [.int .i64 0, .slice none 0 0] ++ List.replicate 962 (.int .i64 0) ++ [.map none], (true, false)⟩,
 some ⟨.struct [(0, 3), (1, 3), (2, 3)], 3, 24, [.int .i64 0, .int .i64 0, .int .i64 0], (false, false)⟩,
 some ⟨.struct [(0, 3), (1, 3), (2, 3)], 3, 24, [.int .i64 0, .int .i64 0, .int .i64 0], (false, true)⟩,
 some ⟨.struct [(0, 3), (1, 3), (2, 3)], 3, 24, [.int .i64 0, .int .i64 0, .int .i64 0], (false, false)⟩,
 some ⟨.struct [(0, 3), (1, 3), (2, 3)], 3, 24, [.int .i64 0, .int .i64 0, .int .i64 0], (false, true)⟩]
def tb : TB := fun t => match tys[t]? with
 | some (some y) => some y
 | _ => none
theorem tbOk : tyTable Try.prog tys = true := by kernel_rfl
theorem pg : PG Try.prog tb where
 ty t y h := by
  unfold tb at h
  split at h
  ·rename_i z hz; cases h; exact tyTable_ok tbOk t _ hz
  ·cases h
 mixed := by kernel_rfl
end Go.Ev.Ytijidghjiaiccaa


set_option linter.unusedVariables false
set_option linter.unusedSimpArgs false
namespace Go.Ev.Ytijidghjiaiccaa
def sg (f : Nat → Nat) : Nat → Nat
 | 0 => 0
 | n + 1 => sg f n + f n
theorem sg_le {f g : Nat → Nat} : ∀ {n : Nat}, (∀ i, i < n → f i ≤ g i) → sg f n ≤ sg g n
 | 0, _ => Nat.le_refl _
 | n + 1, h => Nat.add_le_add (sg_le fun i hi => h i (by omega)) (h n (by omega))
theorem sg_congr {f g : Nat → Nat} : ∀ {n : Nat}, (∀ i, i < n → f i = g i) → sg f n = sg g n
 | 0, _ => rfl
 | n + 1, h => by rw [sg, sg, sg_congr fun i hi => h i (by omega), h n (by omega)]
theorem sg_add (f g : Nat → Nat) : ∀ n, sg (fun i => f i + g i) n = sg f n + sg g n
 | 0 => rfl
 | n + 1 => by rw [sg, sg, sg, sg_add f g n]; omega
theorem sg_zero : ∀ n, sg (fun _ => 0) n = 0
 | 0 => rfl
 | n + 1 => by rw [sg, sg_zero n]
theorem sg_eq_zero {f : Nat → Nat} {n : Nat} (h : ∀ i, i < n → f i = 0) : sg f n = 0 := by rw [sg_congr h, sg_zero]
theorem sg_comm (f : Nat → Nat → Nat) (n : Nat) : ∀ m, sg (fun i => sg (f i) n) m = sg (fun j => sg (fun i => f i j) m) n
 | 0 => (sg_zero n).symm
 | m + 1 => by rw [sg, sg_comm f n m, ← sg_add]; rfl
theorem sg_if (p : Prop) [Decidable p] (f : Nat → Nat) (n : Nat) : (if p then sg f n else 0) = sg (fun i => if p then f i else 0) n := by
 split
 ·rfl
 ·exact (sg_zero n).symm
theorem sg_one {f : Nat → Nat} (h1 : ∀ i, f i ≤ 1) : ∀ {n : Nat}, (∀ i j, i < n → j < n → f i ≠ 0 → f j ≠ 0 → i = j) → sg f n ≤ 1
 | 0, _ => Nat.zero_le _
 | n + 1, h => by
  rw [sg]
  by_cases hn : f n = 0
  ·rw [hn]; exact sg_one h1 fun i j hi hj => h i j (by omega) (by omega)
  ·rw [sg_eq_zero fun i hi => ?_, Nat.zero_add]; exact h1 n
   refine Classical.byContradiction fun hi0 => ?_
   have := h i n (by omega) (by omega) hi0 hn
   omega
theorem sg_ge {f : Nat → Nat} : ∀ {n i : Nat}, i < n → f i ≤ sg f n
 | n + 1, i, h => by
  rw [sg]
  by_cases hi : i = n
  ·subst hi; omega
  ·have := sg_ge (f := f) (n := n) (i := i) (by omega); omega
theorem sg_pos {f : Nat → Nat} {n : Nat} (h : sg f n ≠ 0) : ∃ i, i < n ∧ f i ≠ 0 := by
 refine Classical.byContradiction fun hc => h (sg_eq_zero fun i hi => Classical.byContradiction fun h0 => hc ⟨i, hi, h0⟩)
theorem sg_lt {f g : Nat → Nat} {n k : Nat} (hk : k < n) (h : ∀ i, i < n → f i ≤ g i) (hlt : f k < g k) : sg f n < sg g n := by
 induction n with
 | zero => omega
 | succ n ih =>
  rw [sg, sg]
  have h1 : sg f n ≤ sg g n := sg_le fun i hi => h i (by omega)
  have h2 := h n (by omega)
  by_cases hkn : k = n
  ·subst hkn; omega
  ·have := ih (by omega) (fun i hi => h i (by omega)); omega
structure Qu where
 nm : Nat
 n : Nat
 may : Nat → Nat → Nat → Bool
structure Va (Q : Qu) (c : Nat → Nat → Int) (H : Nat) : Prop where
 ok : ∀ h, h < H → ∀ m, m < 4 → c h m = -1 ∨ ∃ r : Nat, c h m = r ∧ r < Q.n ∧ m < Q.nm ∧ Q.may r m h = true
 one : ∀ h, h < H → ∀ m m', m < 4 → m' < 4 → c h m = c h m' → m ≠ m' → c h m = -1
def at1 (c : Nat → Nat → Int) (h m r : Nat) : Nat := if c h m = (r : Int) then 1 else 0
def cnt (c : Nat → Nat → Int) (H r : Nat) : Nat := sg (fun h => sg (fun m => at1 c h m r) 4) H
theorem at1_le (c : Nat → Nat → Int) (h m r : Nat) : at1 c h m r ≤ 1 := by unfold at1; split <;> omega
theorem at1_ne {c : Nat → Nat → Int} {h m r : Nat} (hn : at1 c h m r ≠ 0) : c h m = r := by
 unfold at1 at hn
 split at hn
 ·assumption
 ·exact absurd rfl hn
theorem Va.row {Q : Qu} {c : Nat → Nat → Int} {H : Nat} (v : Va Q c H) {h : Nat} (hh : h < H) (r : Nat) : sg (fun m => at1 c h m r) 4 ≤ 1 := by
 refine sg_one (fun m => at1_le c h m r) fun m m' hm hm' h1 h2 => ?_
 refine Classical.byContradiction fun hne => ?_
 have e1 := at1_ne h1
 have e2 := at1_ne h2
 have := v.one h hh m m' hm hm' (by rw [e1, e2]) hne
 omega
theorem closed_most {Q : Qu} {c c' : Nat → Nat → Int} {H : Nat} (v : Va Q c H) (v' : Va Q c' H) (A : Nat → Prop) (B : Nat → Nat → Prop) (M : Nat → Nat → Prop)
  (c1 : ∀ r h, A r → h < H → (∀ m, m < 4 → c h m ≠ (r : Int)) → B r h)
  (c2 : ∀ r h m, B r h → m < Q.nm → Q.may r m h = true → M m h)
  (c3 : ∀ m h, M m h → h < H → m < 4 → ∃ r : Nat, c h m = r ∧ r < Q.n ∧ B r h)
  (c4 : ∀ r h, B r h → A r) [DecidablePred A] :
  sg (fun r => if A r then cnt c' H r else 0) Q.n ≤ sg (fun r => if A r then cnt c H r else 0) Q.n := by
 have e : ∀ d : Nat → Nat → Int, sg (fun r => if A r then cnt d H r else 0) Q.n = sg (fun h => sg (fun r => if A r then sg (fun m => at1 d h m r) 4 else 0) Q.n) H := fun d => by
  rw [sg_comm]
  refine sg_congr fun r _ => ?_
  unfold cnt
  exact sg_if (A r) _ H
 rw [e, e]
 refine sg_le fun h hh => ?_
 classical
 have sp : ∀ d : Nat → Nat → Int, sg (fun r => if A r then sg (fun m => at1 d h m r) 4 else 0) Q.n
   = sg (fun r => if A r ∧ B r h then sg (fun m => at1 d h m r) 4 else 0) Q.n + sg (fun r => if A r ∧ ¬ B r h then sg (fun m => at1 d h m r) 4 else 0) Q.n := fun d => by
  rw [← sg_add]
  refine sg_congr fun r _ => ?_
  by_cases ha : A r
  ·by_cases hb : B r h
   ·simp [ha, hb]
   ·simp [ha, hb]
  ·simp [ha]
 rw [sp c', sp c]
 refine Nat.add_le_add ?_ ?_
 ·have ex : ∀ d : Nat → Nat → Int, sg (fun r => if A r ∧ B r h then sg (fun m => at1 d h m r) 4 else 0) Q.n = sg (fun m => sg (fun r => if A r ∧ B r h then at1 d h m r else 0) Q.n) 4 := fun d => by
   rw [sg_comm]
   exact sg_congr fun r _ => sg_if _ _ 4
  rw [ex, ex]
  refine sg_le fun m hm => ?_
  by_cases hM : M m h
  ·obtain ⟨r, hr, hrn, hB⟩ := c3 m h hM hh hm
   have h1 : sg (fun r => if A r ∧ B r h then at1 c' h m r else 0) Q.n ≤ 1 := by
    refine sg_one (fun r => by split; exact at1_le _ _ _ _; exact Nat.zero_le _) fun i j _ _ hi hj => ?_
    have q : ∀ {x : Nat}, (if A x ∧ B x h then at1 c' h m x else 0) ≠ 0 → c' h m = x := fun {x} hx => by
     split at hx
     ·exact at1_ne hx
     ·exact absurd rfl hx
    have := q hi
    have := q hj
    omega
   have h2 := sg_ge (f := fun r => if A r ∧ B r h then at1 c h m r else 0) hrn
   simp only [if_pos (show A r ∧ B r h from ⟨c4 r h hB, hB⟩)] at h2
   have h3 : at1 c h m r = 1 := by unfold at1; rw [if_pos hr]
   omega
  ·refine Nat.le_trans (Nat.le_of_eq (sg_eq_zero fun r hr => ?_)) (Nat.zero_le _)
   split
   ·rename_i hab
    refine Classical.byContradiction fun h0 => ?_
    have e1 := at1_ne h0
    rcases v'.ok h hh m hm with h2 | ⟨r2, h2, h3, h4, h5⟩
    ·omega
    ·have : r2 = r := by omega
     subst this
     exact hM (c2 r2 h m hab.2 h4 h5)
   ·rfl
 ·refine sg_le fun r hr => ?_
  split
  ·rename_i hab
   refine Nat.le_trans (v'.row hh r) ?_
   have : ∃ m, m < 4 ∧ c h m = (r : Int) := Classical.byContradiction fun hc => hab.2 (c1 r h hab.1 hh fun m hm he => hc ⟨m, hm, he⟩)
   obtain ⟨m, hm, he⟩ := this
   have h1 := sg_ge (f := fun m => at1 c h m r) hm
   have h2 : at1 c h m r = 1 := by unfold at1; rw [if_pos he]
   simp only [h2] at h1
   exact h1
  ·exact Nat.le_refl _
def Feas (Q : Qu) (hrs : Nat → Nat) (H : Nat) : Prop := ∃ c, Va Q c H ∧ ∀ r, r < Q.n → cnt c H r = hrs r
theorem closed_infeas {Q : Qu} {c : Nat → Nat → Int} {H : Nat} (v : Va Q c H) {hrs : Nat → Nat} (A : Nat → Prop) (B : Nat → Nat → Prop) (M : Nat → Nat → Prop)
  (c1 : ∀ r h, A r → h < H → (∀ m, m < 4 → c h m ≠ (r : Int)) → B r h)
  (c2 : ∀ r h m, B r h → m < Q.nm → Q.may r m h = true → M m h)
  (c3 : ∀ m h, M m h → h < H → m < 4 → ∃ r : Nat, c h m = r ∧ r < Q.n ∧ B r h)
  (c4 : ∀ r h, B r h → A r) (hle : ∀ r, r < Q.n → cnt c H r ≤ hrs r) (r0 : Nat) (hr0 : r0 < Q.n) (hA : A r0) (hlt : cnt c H r0 < hrs r0) : ¬ Feas Q hrs H := by
 rintro ⟨c', v', hc'⟩
 classical
 have h1 := closed_most v v' A B M c1 c2 c3 c4
 have h2 : sg (fun r => if A r then cnt c H r else 0) Q.n < sg (fun r => if A r then cnt c' H r else 0) Q.n := by
  refine sg_lt hr0 (fun r hr => ?_) ?_
  ·split
   ·rw [hc' r hr]; exact hle r hr
   ·exact Nat.le_refl _
  ·simp only [if_pos hA]
   rw [hc' r0 hr0]; exact hlt
 omega
theorem feas_more {Q : Qu} {hrs : Nat → Nat} {H K : Nat} (hHK : H ≤ K) (h : Feas Q hrs H) : Feas Q hrs K := by
 obtain ⟨c, v, hc⟩ := h
 refine ⟨fun h m => if h < H then c h m else -1, ⟨fun h hh m hm => ?_, fun h hh m m' hm hm' he hne => ?_⟩, fun r hr => ?_⟩
 ·by_cases hlt : h < H
  ·simp only [if_pos hlt]; exact v.ok h hlt m hm
  ·simp only [if_neg hlt]; exact .inl trivial
 ·by_cases hlt : h < H
  ·simp only [if_pos hlt] at he ⊢; exact v.one h hlt m m' hm hm' he hne
  ·simp only [if_neg hlt]
 ·rw [← hc r hr]
  unfold cnt
  have : ∀ d, sg (fun h => sg (fun m => at1 (fun h m => if h < H then c h m else -1) h m r) 4) (H + d) = sg (fun h => sg (fun m => at1 c h m r) 4) H := fun d => by
   induction d with
   | zero =>
    refine sg_congr fun h hh => sg_congr fun m _ => ?_
    unfold at1
    simp only [if_pos (show h < H by omega)]
   | succ d ih =>
    rw [← Nat.add_assoc, sg, ih]
    have : sg (fun m => at1 (fun h m => if h < H then c h m else -1) (H + d) m r) 4 = 0 := sg_eq_zero fun m _ => by
     unfold at1
     simp only [if_neg (show ¬ H + d < H by omega)]
     rw [if_neg (by omega)]
    rw [this, Nat.add_zero]
  have e : K = H + (K - H) := by omega
  rw [e]
  exact this _
end Go.Ev.Ytijidghjiaiccaa


set_option linter.unusedVariables false
set_option linter.unusedSimpArgs false
namespace Go.Ev.Ytijidghjiaiccaa
abbrev Nd := Int × Int × Int
abbrev Pl := List (List Int)
def cellP (P : Pl) (h m : Nat) : Int := (((P[h]?).getD [])[m]?).getD (-1)
def setP (P : Pl) (h m : Nat) (x : Int) : Pl := P.set h (((P[h]?).getD []).set m x)
def kindN (n : Nd) : Nat := if n.2.2 = -1 then 0 else if n.2.1 = -1 then 1 else 2
def onL (row : List Int) (r : Int) : Int :=
 match row.findIdx? (· == r) with
 | some i => (i : Int)
 | none => -1
def onP (P : Pl) (r : Int) (h : Nat) : Int := onL ((P[h]?).getD []) r
def needsL (P : Pl) (r : Int) : List Nd := ((List.range P.length).filter fun h => onP P r h == -1).map fun h : Nat => ((r, -1, (h : Int)) : Nd)
def seeksL (Q : Qu) (P : Pl) (r : Nat) (h : Nat) : List Nd :=
 (((List.range Q.nm).filter fun m => Q.may r m h).filter fun m => cellP P h m != (r : Int)).map (fun m : Nat => ((-1, (m : Int), (h : Int)) : Nd)) ++ (if onP P r h ≠ -1 then [((r : Int), -1, -1)] else [])
def takenL (P : Pl) (m h : Nat) : List Nd := [(cellP P h m, -1, (h : Int))]
def nexts (Q : Qu) (P : Pl) (n : Nd) : List Nd :=
 if kindN n = 0 then needsL P n.1 else if kindN n = 1 then seeksL Q P n.1.toNat n.2.2.toNat else takenL P n.2.1.toNat n.2.2.toNat
def look (by' : List (Nd × Nd)) (n : Nd) : Option Nd :=
 match by' with
 | [] => none
 | p :: r => if n = p.1 then some p.2 else look r n
def visit (n : Nd) : List Nd → List (Nd × Nd) → List Nd → List (Nd × Nd) × List Nd
 | [], bs, todo => (bs, todo)
 | x :: xs, bs, todo => match look bs x with
  | some _ => visit n xs bs todo
  | none => visit n xs (bs ++ [(x, n)]) (todo ++ [x])
def freeB (P : Pl) (n : Nd) : Bool := kindN n == 2 && cellP P n.2.2.toNat n.2.1.toNat == -1
def bfs (Q : Qu) (P : Pl) : Nat → List (Nd × Nd) → List Nd → Option (Nd × List (Nd × Nd))
 | 0, _, _ => none
 | f + 1, bs, [] => none
 | f + 1, bs, n :: todo =>
  if freeB P n then some (n, bs) else bfs Q P f (visit n (nexts Q P n) bs todo).1 (visit n (nexts Q P n) bs todo).2
def Ok (Q : Qu) (H : Nat) (n : Nd) : Prop :=
 (∃ r : Nat, r < Q.n ∧ n = ((r : Int), -1, -1)) ∨ (∃ r h : Nat, r < Q.n ∧ h < H ∧ n = ((r : Int), -1, (h : Int))) ∨ (∃ m h : Nat, m < Q.nm ∧ h < H ∧ n = (-1, (m : Int), (h : Int)))
theorem look_mem {bs : List (Nd × Nd)} {n p : Nd} (h : look bs n = some p) : (n, p) ∈ bs := by
 induction bs with
 | nil => simp [look] at h
 | cons b r ih =>
  rw [look] at h
  split at h
  ·rename_i he
   cases h
   rw [he]; exact List.mem_cons_self
  ·exact List.mem_cons_of_mem _ (ih h)
theorem look_none {bs : List (Nd × Nd)} {n : Nd} : look bs n = none ↔ n ∉ bs.map (·.1) := by
 induction bs with
 | nil => simp [look]
 | cons b r ih =>
  rw [look, List.map_cons, List.mem_cons]
  split
  ·rename_i he; simp [he]
  ·rename_i he
   rw [ih]
   simp [he]
theorem look_app {bs : List (Nd × Nd)} {n p x q : Nd} (h : look bs n = some p) : look (bs ++ [(x, q)]) n = some p := by
 induction bs with
 | nil => simp [look] at h
 | cons b r ih =>
  rw [look] at h
  rw [List.cons_append, look]
  split
  ·rename_i he; rw [if_pos he] at h; exact h
  ·rename_i he; rw [if_neg he] at h; exact ih h
theorem look_new {bs : List (Nd × Nd)} {n q : Nd} (h : look bs n = none) : look (bs ++ [(n, q)]) n = some q := by
 induction bs with
 | nil => simp [look]
 | cons b r ih =>
  rw [look] at h
  split at h
  ·cases h
  ·rename_i he
   rw [List.cons_append, look, if_neg he]
   exact ih h
theorem look_app_ne {bs : List (Nd × Nd)} {n x q : Nd} (hne : n ≠ x) : look (bs ++ [(x, q)]) n = look bs n := by
 induction bs with
 | nil => simp [look, hne]
 | cons b r ih =>
  rw [List.cons_append, look, look]
  split
  ·rfl
  ·exact ih
inductive Way (bs : List (Nd × Nd)) (s : Nd) : List Nd → Nd → Prop
 | start : look bs s = some s → Way bs s [] s
 | step {l : List Nd} {p n : Nd} : Way bs s l p → look bs n = some p → n ≠ s → n ∉ p :: l → Way bs s (p :: l) n
theorem Way.app {bs : List (Nd × Nd)} {s : Nd} {l : List Nd} {n x q : Nd} (w : Way bs s l n) : Way (bs ++ [(x, q)]) s l n := by
 induction w with
 | start h => exact .start (look_app h)
 | step w h h2 h3 ih => exact .step ih (look_app h) h2 h3
theorem Way.known {bs : List (Nd × Nd)} {s : Nd} {l : List Nd} {n : Nd} (w : Way bs s l n) : ∀ x ∈ n :: l, ∃ p, look bs x = some p := by
 induction w with
 | start h => intro x hx; rw [List.mem_singleton] at hx; subst hx; exact ⟨_, h⟩
 | step w h h2 h3 ih =>
  intro x hx
  rcases List.mem_cons.1 hx with rfl | hx
  ·exact ⟨_, h⟩
  ·exact ih x hx
structure Bi (Q : Qu) (P : Pl) (s : Nd) (done : List Nd) (bs : List (Nd × Nd)) (todo : List Nd) : Prop where
 keys : bs.map (·.1) = done ++ todo
 nodup : (bs.map (·.1)).Nodup
 ok : ∀ x ∈ bs.map (·.1), Ok Q P.length x
 way : ∀ x ∈ bs.map (·.1), ∃ l, Way bs s l x
 par : ∀ x p, look bs x = some p → x ≠ s → x ∈ nexts Q P p ∧ freeB P p = false
 first : s ∈ bs.map (·.1)
theorem visit_bi {Q : Qu} {P : Pl} {s n : Nd} {done : List Nd} (hnf : freeB P n = false) : ∀ (xs : List Nd) (bs : List (Nd × Nd)) (todo : List Nd), Bi Q P s done bs todo → n ∈ bs.map (·.1) →
  (∀ x ∈ xs, x ∈ nexts Q P n ∧ Ok Q P.length x) →
  Bi Q P s done (visit n xs bs todo).1 (visit n xs bs todo).2 ∧ (∀ x ∈ xs, x ∈ (visit n xs bs todo).1.map (·.1)) ∧ (∀ x ∈ bs.map (·.1), x ∈ (visit n xs bs todo).1.map (·.1))
 | [], bs, todo, hb, hn, hx => ⟨hb, fun _ h => (List.not_mem_nil h).elim, fun _ h => h⟩
 | x :: xs, bs, todo, hb, hn, hx => by
  rw [visit]
  cases hl : look bs x with
  | some p =>
   dsimp only
   obtain ⟨h1, h2, h3⟩ := visit_bi hnf xs bs todo hb hn fun y hy => hx y (List.mem_cons_of_mem _ hy)
   refine ⟨h1, fun y hy => ?_, h3⟩
   rcases List.mem_cons.1 hy with rfl | hy
   ·exact h3 _ (List.mem_map_of_mem (look_mem hl))
   ·exact h2 y hy
  | none =>
   dsimp only
   have hnx := look_none.1 hl
   have hxn : x ≠ n := fun h => hnx (h ▸ hn)
   have hk : (bs ++ [(x, n)]).map (·.1) = bs.map (·.1) ++ [x] := by rw [List.map_append]; rfl
   have hxs : x ≠ s := fun h => hnx (h ▸ hb.first)
   have hb' : Bi Q P s done (bs ++ [(x, n)]) (todo ++ [x]) := by
    refine ⟨by rw [hk, hb.keys, List.append_assoc], ?_, ?_, ?_, ?_, by rw [hk]; exact List.mem_append_left _ hb.first⟩
    ·rw [hk]
     refine List.nodup_append.2 ⟨hb.nodup, by simp, fun a ha b hb' => ?_⟩
     rw [List.mem_singleton] at hb'
     subst hb'
     exact fun h => hnx (h ▸ ha)
    ·intro y hy
     rw [hk] at hy
     rcases List.mem_append.1 hy with hy | hy
     ·exact hb.ok y hy
     ·rw [List.mem_singleton] at hy; subst hy; exact (hx y List.mem_cons_self).2
    ·intro y hy
     rw [hk] at hy
     rcases List.mem_append.1 hy with hy | hy
     ·obtain ⟨l, w⟩ := hb.way y hy
      exact ⟨l, w.app⟩
     ·rw [List.mem_singleton] at hy; subst hy
      obtain ⟨l, w⟩ := hb.way n hn
      refine ⟨n :: l, .step w.app (look_new hl) hxs fun hm => ?_⟩
      obtain ⟨p, hp⟩ := w.known y hm
      rw [hl] at hp; cases hp
    ·intro y p hy hys
     by_cases hyx : y = x
     ·subst hyx
      rw [look_new hl] at hy
      cases hy
      exact ⟨(hx y List.mem_cons_self).1, hnf⟩
     ·rw [look_app_ne hyx] at hy
      exact hb.par y p hy hys
   obtain ⟨h1, h2, h3⟩ := visit_bi hnf xs (bs ++ [(x, n)]) (todo ++ [x]) hb' (by rw [hk]; exact List.mem_append_left _ hn) fun y hy => hx y (List.mem_cons_of_mem _ hy)
   refine ⟨h1, fun y hy => ?_, fun y hy => h3 y (by rw [hk]; exact List.mem_append_left _ hy)⟩
   rcases List.mem_cons.1 hy with rfl | hy
   ·exact h3 _ (by rw [hk]; exact List.mem_append_right _ List.mem_cons_self)
   ·exact h2 y hy
end Go.Ev.Ytijidghjiaiccaa


set_option linter.unusedVariables false
set_option linter.unusedSimpArgs false
namespace Go.Ev.Ytijidghjiaiccaa
theorem nodup_lt : ∀ (N : Nat) (l : List Nat), l.Nodup → (∀ x ∈ l, x < N) → l.length ≤ N
 | 0, [], _, _ => Nat.le_refl _
 | 0, x :: l, _, h => absurd (h x List.mem_cons_self) (Nat.not_lt_zero _)
 | N + 1, l, hd, h => by
  have h1 := nodup_lt N (l.erase N) (hd.erase N) fun x hx => by
   have := hd.mem_erase_iff.1 hx
   have := h x this.2
   omega
  by_cases hm : N ∈ l
  ·rw [List.length_erase_of_mem hm] at h1; omega
  ·rw [List.erase_of_not_mem hm] at h1; omega
def codeN (n : Nd) : Nat := (n.1 + 1).toNat + 7 * ((n.2.1 + 1).toNat + 5 * (n.2.2 + 1).toNat)
structure Sm (Q : Qu) (P : Pl) : Prop where
 n : Q.n ≤ 6
 nm : Q.nm ≤ 4
 len : P.length ≤ 40
 rows : ∀ row ∈ P, row.length = 4
theorem ok_bounds {Q : Qu} {P : Pl} (sm : Sm Q P) {x : Nd} (h : Ok Q P.length x) : -1 ≤ x.1 ∧ x.1 < 6 ∧ -1 ≤ x.2.1 ∧ x.2.1 < 4 ∧ -1 ≤ x.2.2 ∧ x.2.2 < 40 := by
 have := sm.n
 have := sm.nm
 have := sm.len
 rcases h with ⟨r, hr, rfl⟩ | ⟨r, h, hr, hh, rfl⟩ | ⟨m, h, hm, hh, rfl⟩
 ·refine ⟨?_, ?_, ?_, ?_, ?_, ?_⟩ <;> simp <;> omega
 ·refine ⟨?_, ?_, ?_, ?_, ?_, ?_⟩ <;> simp <;> omega
 ·refine ⟨?_, ?_, ?_, ?_, ?_, ?_⟩ <;> simp <;> omega
theorem code_inj {x y : Nd} (hx : -1 ≤ x.1 ∧ x.1 < 6 ∧ -1 ≤ x.2.1 ∧ x.2.1 < 4 ∧ -1 ≤ x.2.2 ∧ x.2.2 < 40) (hy : -1 ≤ y.1 ∧ y.1 < 6 ∧ -1 ≤ y.2.1 ∧ y.2.1 < 4 ∧ -1 ≤ y.2.2 ∧ y.2.2 < 40) (h : codeN x = codeN y) : x = y := by
 obtain ⟨a, b, c⟩ := x
 obtain ⟨a', b', c'⟩ := y
 unfold codeN at h
 dsimp only at *
 have : a = a' := by omega
 have : b = b' := by omega
 have : c = c' := by omega
 simp [*]
theorem Bi.small {Q : Qu} {P : Pl} {s : Nd} {done : List Nd} {bs : List (Nd × Nd)} {todo : List Nd} (sm : Sm Q P) (b : Bi Q P s done bs todo) : done.length + todo.length ≤ 1435 := by
 have h1 : ((bs.map (·.1)).map codeN).Nodup := by
  refine List.Pairwise.map _ (fun _ _ h => h) (List.Pairwise.imp_of_mem (fun {x y} hx hy hne he => hne ?_) b.nodup)
  exact code_inj (ok_bounds sm (b.ok x hx)) (ok_bounds sm (b.ok y hy)) he
 have h2 := nodup_lt 1435 _ h1 fun z hz => by
  obtain ⟨x, hx, rfl⟩ := List.mem_map.1 hz
  have := ok_bounds sm (b.ok x hx)
  unfold codeN
  omega
 rw [List.length_map, b.keys, List.length_append] at h2
 exact h2
theorem on_iff {row : List Int} (hl : row.length = 4) {r : Nat} : onL row r = -1 ↔ ∀ m, m < 4 → ((row[m]?).getD (-1)) ≠ (r : Int) := by
 unfold onL
 cases hf : row.findIdx? (· == (r : Int)) with
 | none =>
  simp only [true_iff]
  intro m hm he
  rw [List.findIdx?_eq_none_iff] at hf
  rw [List.getElem?_eq_getElem (by omega), Option.getD_some] at he
  have := hf _ (List.getElem_mem (by omega : m < row.length))
  rw [he] at this
  simp at this
 | some i =>
  rw [List.findIdx?_eq_some_iff_getElem] at hf
  obtain ⟨hi, h1, _⟩ := hf
  refine ⟨fun h => ?_, fun h => ?_⟩
  ·simp only at h; omega
  ·refine absurd (beq_iff_eq.1 h1) ?_
   have := h i (by omega)
   rw [List.getElem?_eq_getElem hi, Option.getD_some] at this
   exact this
theorem rowP {P : Pl} {Q : Qu} (sm : Sm Q P) {h : Nat} (hh : h < P.length) : ((P[h]?).getD []).length = 4 := by
 rw [List.getElem?_eq_getElem hh, Option.getD_some]
 exact sm.rows _ (List.getElem_mem hh)
theorem onP_iff {Q : Qu} {P : Pl} (sm : Sm Q P) {h : Nat} (hh : h < P.length) {r : Nat} : onP P r h = -1 ↔ ∀ m, m < 4 → cellP P h m ≠ (r : Int) := on_iff (rowP sm hh)
theorem kind0 (r : Int) : kindN (r, -1, -1) = 0 := by unfold kindN; simp
theorem kind1 (r : Int) (h : Nat) : kindN (r, -1, (h : Int)) = 1 := by
 unfold kindN
 rw [if_neg (by simp only; omega), if_pos rfl]
theorem kind2 (r : Int) (m h : Nat) : kindN (r, (m : Int), (h : Int)) = 2 := by
 unfold kindN
 rw [if_neg (by simp only; omega), if_neg (by simp only; omega)]
theorem nexts0 (Q : Qu) (P : Pl) (r : Int) : nexts Q P (r, -1, -1) = needsL P r := by unfold nexts; rw [kind0]; rfl
theorem nexts1 (Q : Qu) (P : Pl) (r h : Nat) : nexts Q P ((r : Int), -1, (h : Int)) = seeksL Q P r h := by unfold nexts; rw [kind1]; rfl
theorem nexts2 (Q : Qu) (P : Pl) (r : Int) (m h : Nat) : nexts Q P (r, (m : Int), (h : Int)) = takenL P m h := by unfold nexts; rw [kind2]; rfl
theorem mem_needs {P : Pl} {r : Int} {x : Nd} : x ∈ needsL P r ↔ ∃ h : Nat, h < P.length ∧ onP P r h = -1 ∧ x = (r, -1, (h : Int)) := by
 unfold needsL
 rw [List.mem_map]
 constructor
 ·rintro ⟨h, hh, rfl⟩
  rw [List.mem_filter, List.mem_range, beq_iff_eq] at hh
  exact ⟨h, hh.1, hh.2, rfl⟩
 ·rintro ⟨h, hh, ho, rfl⟩
  exact ⟨h, by rw [List.mem_filter, List.mem_range, beq_iff_eq]; exact ⟨hh, ho⟩, rfl⟩
theorem mem_seeks {Q : Qu} {P : Pl} {r h : Nat} {x : Nd} : x ∈ seeksL Q P r h ↔ (∃ m : Nat, m < Q.nm ∧ Q.may r m h = true ∧ cellP P h m ≠ (r : Int) ∧ x = (-1, (m : Int), (h : Int))) ∨ (onP P r h ≠ -1 ∧ x = ((r : Int), -1, -1)) := by
 unfold seeksL
 rw [List.mem_append, List.mem_map]
 refine or_congr ⟨?_, ?_⟩ ?_
 ·rintro ⟨m, hm, rfl⟩
  rw [List.mem_filter, List.mem_filter, List.mem_range, bne_iff_ne] at hm
  exact ⟨m, hm.1.1, hm.1.2, hm.2, rfl⟩
 ·rintro ⟨m, h1, h2, h3, rfl⟩
  exact ⟨m, by rw [List.mem_filter, List.mem_filter, List.mem_range, bne_iff_ne]; exact ⟨⟨h1, h2⟩, h3⟩, rfl⟩
 ·split
  ·rename_i ho; rw [List.mem_singleton]; exact ⟨fun h => ⟨ho, h⟩, fun h => h.2⟩
  ·rename_i ho; exact ⟨fun h => (List.not_mem_nil h).elim, fun h => absurd h.1 ho⟩
theorem mem_taken {P : Pl} {m h : Nat} {x : Nd} : x ∈ takenL P m h ↔ x = (cellP P h m, -1, (h : Int)) := by unfold takenL; rw [List.mem_singleton]
abbrev VaP (Q : Qu) (P : Pl) : Prop := Va Q (cellP P) P.length
theorem nexts_ok {Q : Qu} {P : Pl} (sm : Sm Q P) (v : VaP Q P) {n : Nd} (hn : Ok Q P.length n) (hf : freeB P n = false) : ∀ x ∈ nexts Q P n, Ok Q P.length x := by
 intro x hx
 have := sm.nm
 rcases hn with ⟨r, hr, rfl⟩ | ⟨r, h, hr, hh, rfl⟩ | ⟨m, h, hm, hh, rfl⟩
 ·rw [nexts0] at hx
  obtain ⟨h, hh, _, rfl⟩ := mem_needs.1 hx
  exact .inr (.inl ⟨r, h, hr, hh, rfl⟩)
 ·rw [nexts1] at hx
  rcases mem_seeks.1 hx with ⟨m, h1, _, _, rfl⟩ | ⟨_, rfl⟩
  ·exact .inr (.inr ⟨m, h, h1, hh, rfl⟩)
  ·exact .inl ⟨r, hr, rfl⟩
 ·rw [nexts2] at hx
  rw [mem_taken] at hx
  subst hx
  unfold freeB at hf
  rw [kind2] at hf
  have hne : cellP P h m ≠ -1 := fun he => by simp [he] at hf
  rcases v.ok h hh m (by omega) with h1 | ⟨r, h1, h2, _⟩
  ·exact absurd h1 hne
  ·exact .inr (.inl ⟨r, h, h2, hh, by rw [h1]⟩)
theorem bfs_some {Q : Qu} {P : Pl} (sm : Sm Q P) (v : VaP Q P) {s : Nd} : ∀ (f : Nat) (done : List Nd) (bs : List (Nd × Nd)) (todo : List Nd) (n : Nd) (bs' : List (Nd × Nd)), Bi Q P s done bs todo → bfs Q P f bs todo = some (n, bs') →
  freeB P n = true ∧ n ∈ bs'.map (·.1) ∧ ∃ done' todo', Bi Q P s done' bs' todo'
 | 0, _, _, _, _, _, _, h => by simp [bfs] at h
 | f + 1, _, _, [], _, _, _, h => by simp [bfs] at h
 | f + 1, done, bs, n :: todo, n', bs', b, h => by
  rw [bfs] at h
  split at h
  ·rename_i hf
   cases h
   exact ⟨hf, by rw [b.keys]; exact List.mem_append_right _ List.mem_cons_self, _, _, b⟩
  ·rename_i hf
   have hf' := (Bool.not_eq_true _).mp hf
   have hn : n ∈ bs.map (·.1) := by rw [b.keys]; exact List.mem_append_right _ List.mem_cons_self
   have b' : Bi Q P s (done ++ [n]) bs todo := { b with keys := by rw [b.keys, List.append_assoc]; rfl }
   obtain ⟨h1, _, _⟩ := visit_bi hf' (nexts Q P n) bs todo b' hn fun x hx => ⟨hx, nexts_ok sm v (b.ok n hn) hf' x hx⟩
   exact bfs_some sm v f _ _ _ _ _ h1 h
def Shut (Q : Qu) (P : Pl) (done : List Nd) (bs : List (Nd × Nd)) : Prop := ∀ d ∈ done, freeB P d = false ∧ ∀ x ∈ nexts Q P d, x ∈ bs.map (·.1)
theorem bfs_none {Q : Qu} {P : Pl} (sm : Sm Q P) (v : VaP Q P) {s : Nd} : ∀ (f : Nat) (done : List Nd) (bs : List (Nd × Nd)) (todo : List Nd), Bi Q P s done bs todo → Shut Q P done bs → 1435 < done.length + f → bfs Q P f bs todo = none →
  ∃ done' bs', Bi Q P s done' bs' [] ∧ Shut Q P done' bs'
 | 0, done, bs, todo, b, hs, hf, h => by have := b.small sm; omega
 | f + 1, done, bs, [], b, hs, hf, h => ⟨_, _, b, hs⟩
 | f + 1, done, bs, n :: todo, b, hs, hf, h => by
  rw [bfs] at h
  split at h
  ·cases h
  ·rename_i hfr
   have hf' := (Bool.not_eq_true _).mp hfr
   have hn : n ∈ bs.map (·.1) := by rw [b.keys]; exact List.mem_append_right _ List.mem_cons_self
   have b' : Bi Q P s (done ++ [n]) bs todo := { b with keys := by rw [b.keys, List.append_assoc]; rfl }
   obtain ⟨h1, h2, h3⟩ := visit_bi hf' (nexts Q P n) bs todo b' hn fun x hx => ⟨hx, nexts_ok sm v (b.ok n hn) hf' x hx⟩
   refine bfs_none sm v f _ _ _ h1 ?_ (by rw [List.length_append, List.length_singleton]; omega) h
   intro d hd
   rcases List.mem_append.1 hd with hd | hd
   ·exact ⟨(hs d hd).1, fun x hx => h3 x ((hs d hd).2 x hx)⟩
   ·rw [List.mem_singleton] at hd; subst hd
    exact ⟨hf', h2⟩
theorem bi_start {Q : Qu} {P : Pl} {r : Nat} (hr : r < Q.n) : Bi Q P ((r : Int), -1, -1) [] [(((r : Int), -1, -1), ((r : Int), -1, -1))] [((r : Int), -1, -1)] := by
 have hl : look [((((r : Int), -1, -1) : Nd), (((r : Int), -1, -1) : Nd))] ((r : Int), -1, -1) = some ((r : Int), -1, -1) := by rw [look, if_pos rfl]
 refine ⟨rfl, by simp, fun x hx => ?_, fun x hx => ?_, fun x p hx hne => ?_, by simp⟩
 ·simp only [List.map_cons, List.map_nil, List.mem_singleton] at hx
  subst hx
  exact .inl ⟨r, hr, rfl⟩
 ·simp only [List.map_cons, List.map_nil, List.mem_singleton] at hx
  subst hx
  exact ⟨[], .start hl⟩
 ·rw [look, if_neg hne] at hx
  simp [look] at hx
theorem no_way {Q : Qu} {P : Pl} (sm : Sm Q P) (v : VaP Q P) {r0 : Nat} (hr0 : r0 < Q.n) {hrs : Nat → Nat} (hle : ∀ r, r < Q.n → cnt (cellP P) P.length r ≤ hrs r) (hlt : cnt (cellP P) P.length r0 < hrs r0)
  (h : bfs Q P 1436 [(((r0 : Int), -1, -1), ((r0 : Int), -1, -1))] [((r0 : Int), -1, -1)] = none) : ¬ Feas Q hrs P.length := by
 obtain ⟨done, bs, b, hs⟩ := bfs_none sm v 1436 [] _ _ (bi_start hr0) (fun d hd => (List.not_mem_nil hd).elim) (by simp) h
 have hk : ∀ x, x ∈ bs.map (·.1) → freeB P x = false ∧ ∀ y ∈ nexts Q P x, y ∈ bs.map (·.1) := fun x hx => hs x (by rw [b.keys, List.append_nil] at hx; exact hx)
 have hpar : ∀ r h : Nat, (((r : Int), -1, (h : Int)) : Nd) ∈ bs.map (·.1) → ∃ p, p ∈ bs.map (·.1) ∧ (((r : Int), -1, (h : Int)) : Nd) ∈ nexts Q P p := fun r h hx => by
  obtain ⟨l, w⟩ := b.way _ hx
  cases w with
  | step w hl hne _ =>
   rename_i l p hni
   refine ⟨p, ?_, (b.par _ _ hl hne).1⟩
   obtain ⟨q, hq⟩ := w.known p List.mem_cons_self
   exact List.mem_map_of_mem (look_mem hq)
 have hnm := sm.nm
 refine closed_infeas v (fun r => (((r : Int), -1, -1) : Nd) ∈ bs.map (·.1)) (fun r h => (((r : Int), -1, (h : Int)) : Nd) ∈ bs.map (·.1) ∧ h < P.length ∧ r < Q.n) (fun m h => ((-1, (m : Int), (h : Int)) : Nd) ∈ bs.map (·.1) ∧ m < Q.nm) ?_ ?_ ?_ ?_ hle r0 hr0 ?_ hlt
 ·intro r h hA hh hno
  refine ⟨(hk _ hA).2 _ ?_, hh, ?_⟩
  ·rw [nexts0]; exact mem_needs.2 ⟨h, hh, (onP_iff sm hh).2 hno, rfl⟩
  ·rcases b.ok _ hA with ⟨r', h1, h2⟩ | ⟨r', h', _, _, h2⟩ | ⟨m', h', _, _, h2⟩
   ·simp only [Prod.mk.injEq] at h2; omega
   ·simp only [Prod.mk.injEq] at h2; omega
   ·simp only [Prod.mk.injEq] at h2; omega
 ·rintro r h m ⟨hB, hh, hrn⟩ hm hmay
  refine ⟨?_, hm⟩
  by_cases hc : cellP P h m = (r : Int)
  ·obtain ⟨p, hp, hx⟩ := hpar r h hB
   rcases b.ok _ hp with ⟨r', h1, rfl⟩ | ⟨r', h', _, _, rfl⟩ | ⟨m', h', hm', hh', rfl⟩
   ·rw [nexts0, mem_needs] at hx
    obtain ⟨h2, hh2, ho, he⟩ := hx
    simp only [Prod.mk.injEq] at he
    have e1 : h2 = h := by omega
    have e2 : r' = r := by omega
    subst e1 e2
    exact absurd hc ((onP_iff sm hh).1 ho m (by omega))
   ·rw [nexts1, mem_seeks] at hx
    rcases hx with ⟨m2, _, _, _, he⟩ | ⟨_, he⟩
    ·simp only [Prod.mk.injEq] at he; omega
    ·simp only [Prod.mk.injEq] at he; omega
   ·rw [nexts2, mem_taken] at hx
    simp only [Prod.mk.injEq] at hx
    have e1 : h' = h := by omega
    subst e1
    have e2 : m = m' := Classical.byContradiction fun hne => by
     have := v.one h' hh m m' (by omega) (by omega) (by rw [hc, hx.1]) hne
     omega
    subst e2
    exact hp
  ·refine (hk _ hB).2 _ ?_
   rw [nexts1]
   exact mem_seeks.2 (.inl ⟨m, hm, hmay, hc, rfl⟩)
 ·rintro m h ⟨hM, hm⟩ hh hm4
  obtain ⟨h1, h2⟩ := hk _ hM
  unfold freeB at h1
  rw [kind2] at h1
  have hne : cellP P h m ≠ -1 := fun he => by simp [he] at h1
  rcases v.ok h hh m hm4 with h3 | ⟨r, h3, h4, _⟩
  ·exact absurd h3 hne
  ·refine ⟨r, h3, h4, h2 _ ?_, hh, h4⟩
   rw [nexts2, mem_taken, h3]
 ·rintro r h ⟨hB, hh, hrn⟩
  by_cases ho : onP P r h = -1
  ·obtain ⟨p, hp, hx⟩ := hpar r h hB
   rcases b.ok _ hp with ⟨r', h1, rfl⟩ | ⟨r', h', _, _, rfl⟩ | ⟨m', h', hm', hh', rfl⟩
   ·rw [nexts0, mem_needs] at hx
    obtain ⟨h2, hh2, _, he⟩ := hx
    simp only [Prod.mk.injEq] at he
    have e2 : r' = r := by omega
    subst e2
    exact hp
   ·rw [nexts1, mem_seeks] at hx
    rcases hx with ⟨m2, _, _, _, he⟩ | ⟨_, he⟩
    ·simp only [Prod.mk.injEq] at he; omega
    ·simp only [Prod.mk.injEq] at he; omega
   ·rw [nexts2, mem_taken] at hx
    simp only [Prod.mk.injEq] at hx
    have e1 : h' = h := by omega
    subst e1
    exact absurd hx.1.symm ((onP_iff sm hh).1 ho m' (by omega))
  ·refine (hk _ hB).2 _ ?_
   rw [nexts1]
   exact mem_seeks.2 (.inr ⟨ho, rfl⟩)
 ·exact b.first
end Go.Ev.Ytijidghjiaiccaa


set_option linter.unusedVariables false
set_option linter.unusedSimpArgs false
namespace Go.Ev.Ytijidghjiaiccaa
theorem sg_upd {f g : Nat → Nat} {k : Nat} : ∀ {n : Nat}, k < n → (∀ i, i ≠ k → g i = f i) → sg g n + f k = sg f n + g k
 | n + 1, hk, h => by
  rw [sg, sg]
  by_cases hkn : k = n
  ·subst hkn
   rw [sg_congr (f := g) (g := f) fun i hi => h i (by omega)]
   omega
  ·have := sg_upd (n := n) (by omega) h
   have := h n (fun e => hkn e.symm)
   omega
theorem getElem_setP {P : Pl} {h m : Nat} {x : Int} (hh : h < P.length) (hr : ∀ row ∈ P, row.length = 4) (hm : m < 4) (h' m' : Nat) : cellP (setP P h m x) h' m' = if h' = h ∧ m' = m then x else cellP P h' m' := by
 unfold cellP setP
 rw [List.getElem?_set]
 by_cases e : h = h'
 ·subst e
  rw [if_pos rfl, if_pos hh, Option.getD_some, List.getElem?_set, List.getElem?_eq_getElem hh, Option.getD_some]
  have hl := hr _ (List.getElem_mem hh)
  by_cases e2 : m = m'
  ·subst e2
   rw [if_pos rfl, if_pos (by omega), if_pos ⟨rfl, rfl⟩]; rfl
  ·rw [if_neg e2, if_neg fun c => e2 c.2.symm]
 ·rw [if_neg e, if_neg fun c => e c.1.symm]
theorem setP_len {P : Pl} {h m : Nat} {x : Int} : (setP P h m x).length = P.length := by unfold setP; rw [List.length_set]
theorem setP_rows {P : Pl} {h m : Nat} {x : Int} (hh : h < P.length) (hr : ∀ row ∈ P, row.length = 4) : ∀ row ∈ setP P h m x, row.length = 4 := by
 intro row hrow
 unfold setP at hrow
 rcases List.mem_or_eq_of_mem_set hrow with h1 | h1
 ·exact hr _ h1
 ·rw [h1, List.length_set, List.getElem?_eq_getElem hh, Option.getD_some]
  exact hr _ (List.getElem_mem hh)
theorem cnt_setP {P : Pl} {h m : Nat} {x : Int} (hh : h < P.length) (hr : ∀ row ∈ P, row.length = 4) (hm : m < 4) (r : Nat) :
  cnt (cellP (setP P h m x)) P.length r + (if cellP P h m = (r : Int) then 1 else 0) = cnt (cellP P) P.length r + (if x = (r : Int) then 1 else 0) := by
 have hc := getElem_setP (x := x) hh hr hm
 have q : ∀ i j, ¬ (i = h ∧ j = m) → at1 (cellP (setP P h m x)) i j r = at1 (cellP P) i j r := fun i j hn => by
  unfold at1
  rw [hc, if_neg hn]
 unfold cnt
 have h1 : sg (fun h' => sg (fun m' => at1 (cellP (setP P h m x)) h' m' r) 4) P.length + sg (fun m => at1 (cellP P) h m r) 4 = sg (fun h => sg (fun m => at1 (cellP P) h m r) 4) P.length + sg (fun m' => at1 (cellP (setP P h m x)) h m' r) 4 :=
  sg_upd (f := fun h => sg (fun m => at1 (cellP P) h m r) 4) (g := fun h' => sg (fun m' => at1 (cellP (setP P h m x)) h' m' r) 4) hh fun i hi => sg_congr fun j _ => q i j fun c => hi c.1
 have h2 : sg (fun m' => at1 (cellP (setP P h m x)) h m' r) 4 + at1 (cellP P) h m r = sg (fun m => at1 (cellP P) h m r) 4 + at1 (cellP (setP P h m x)) h m r :=
  sg_upd (f := fun m => at1 (cellP P) h m r) (g := fun m' => at1 (cellP (setP P h m x)) h m' r) hm fun i hi => q h i fun c => hi c.2
 have h3 : at1 (cellP (setP P h m x)) h m r = if x = (r : Int) then 1 else 0 := by
  have e : cellP (setP P h m x) h m = x := by rw [hc, if_pos ⟨rfl, rfl⟩]
  unfold at1
  rw [e]
 have h4 : at1 (cellP P) h m r = if cellP P h m = (r : Int) then 1 else 0 := rfl
 omega
def stepP (P : Pl) (n b : Nd) : Pl :=
 if kindN n = 2 then setP P n.2.2.toNat n.2.1.toNat b.1 else if kindN n = 1 ∧ kindN b = 2 then setP P n.2.2.toNat b.2.1.toNat (-1) else P
def changeL (bs : List (Nd × Nd)) : Nat → Pl → Nd → Pl
 | 0, P, _ => P
 | f + 1, P, n => match look bs n with
  | some b => if n = b then P else changeL bs f (stepP P n b) b
  | none => P
theorem va_set {Q : Qu} {P : Pl} (hr : ∀ row ∈ P, row.length = 4) (v : VaP Q P) {h m : Nat} (hh : h < P.length) (hm : m < 4) {x : Nat} (hx : x < Q.n) (hmn : m < Q.nm) (hmay : Q.may x m h = true)
  (hno : ∀ m', m' < 4 → cellP P h m' ≠ (x : Int)) : VaP Q (setP P h m x) := by
 have hc := getElem_setP (x := (x : Int)) hh hr hm
 refine ⟨fun h' hh' m' hm' => ?_, fun h' hh' m1 m2 hm1 hm2 he hne => ?_⟩
 ·rw [setP_len] at hh'
  rw [hc]
  split
  ·rename_i e
   obtain ⟨rfl, rfl⟩ := e
   exact .inr ⟨x, rfl, hx, hmn, hmay⟩
  ·exact v.ok h' hh' m' hm'
 ·rw [setP_len] at hh'
  rw [hc, hc] at he
  rw [hc]
  split at he
  ·rename_i e1
   split at he
   ·rename_i e2
    exact absurd (e1.2.trans e2.2.symm) hne
   ·exfalso
    rw [e1.1] at he
    exact hno m2 hm2 he.symm
  ·rename_i e1
   rw [if_neg e1]
   split at he
   ·rename_i e2
    exfalso
    rw [e2.1] at he
    exact hno m1 hm1 he
   ·exact v.one h' hh' m1 m2 hm1 hm2 he hne
theorem va_idle {Q : Qu} {P : Pl} (hr : ∀ row ∈ P, row.length = 4) (v : VaP Q P) {h m : Nat} (hh : h < P.length) (hm : m < 4) : VaP Q (setP P h m (-1)) := by
 have hc := getElem_setP (x := (-1 : Int)) hh hr hm
 refine ⟨fun h' hh' m' hm' => ?_, fun h' hh' m1 m2 hm1 hm2 he hne => ?_⟩
 ·rw [setP_len] at hh'
  rw [hc]
  split
  ·exact .inl rfl
  ·exact v.ok h' hh' m' hm'
 ·rw [setP_len] at hh'
  rw [hc, hc] at he
  rw [hc]
  split
  ·rfl
  ·rename_i e1
   rw [if_neg e1] at he
   split at he
   ·exact he
   ·exact v.one h' hh' m1 m2 hm1 hm2 he hne
theorem va_move {Q : Qu} {P : Pl} (hr : ∀ row ∈ P, row.length = 4) (v : VaP Q P) {h m m0 : Nat} (hh : h < P.length) (hm : m < 4) (hm0 : m0 < 4) {x : Nat} (hx : x < Q.n) (hmn : m < Q.nm) (hmay : Q.may x m h = true)
  (hat : cellP P h m0 = (x : Int)) (hne : m ≠ m0) : VaP Q (setP (setP P h m x) h m0 (-1)) := by
 have v1 := va_idle hr v hh hm0
 have hr1 := setP_rows (m := m0) (x := -1) hh hr
 have v2 := va_set hr1 v1 (h := h) (m := m) (by rw [setP_len]; exact hh) hm hx hmn hmay fun m' hm' he => by
  rw [getElem_setP hh hr hm0] at he
  split at he
  ·omega
  ·rename_i e
   have := v.one h hh m' m0 hm' hm0 (by rw [he, hat]) fun c => e ⟨rfl, c⟩
   omega
 have hr2 := setP_rows (m := m) (x := (x : Int)) hh hr
 refine ⟨fun h' hh' m' hm' => ?_, fun h' hh' m1 m2 hm1 hm2 he hn => ?_⟩
 ·have := v2.ok h' (by simp only [setP_len] at hh' ⊢; exact hh') m' hm'
  have e : cellP (setP (setP P h m x) h m0 (-1)) h' m' = cellP (setP (setP P h m0 (-1)) h m x) h' m' := by
   rw [getElem_setP (by rw [setP_len]; exact hh) hr2 hm0, getElem_setP hh hr hm, getElem_setP (by rw [setP_len]; exact hh) hr1 hm, getElem_setP hh hr hm0]
   split
   ·rename_i e1; rw [if_neg (fun c => hne (c.2.symm.trans e1.2)), ]
   ·rfl
  rw [e]; exact this
 ·have e : ∀ m', cellP (setP (setP P h m x) h m0 (-1)) h' m' = cellP (setP (setP P h m0 (-1)) h m x) h' m' := fun m' => by
   rw [getElem_setP (by rw [setP_len]; exact hh) hr2 hm0, getElem_setP hh hr hm, getElem_setP (by rw [setP_len]; exact hh) hr1 hm, getElem_setP hh hr hm0]
   split
   ·rename_i e1; rw [if_neg (fun c => hne (c.2.symm.trans e1.2)), ]
   ·rfl
  rw [e, e] at he
  rw [e]
  exact v2.one h' (by simp only [setP_len] at hh' ⊢; exact hh') m1 m2 hm1 hm2 he hn
end Go.Ev.Ytijidghjiaiccaa


set_option linter.unusedVariables false
set_option linter.unusedSimpArgs false
namespace Go.Ev.Ytijidghjiaiccaa
structure Cg (Q : Qu) (P P' : Pl) (l : List Nd) : Prop where
 len : P'.length = P.length
 rows : ∀ row ∈ P', row.length = 4
 va : VaP Q P'
 i1 : ∀ m h : Nat, ((-1, (m : Int), (h : Int)) : Nd) ∈ l → cellP P' h m = cellP P h m
 i3 : ∀ (x h m : Nat), (((x : Int), -1, (h : Int)) : Nd) ∈ l → m < 4 → cellP P' h m = (x : Int) → cellP P h m = (x : Int)
structure Gv (Q : Qu) (P P' : Pl) (r0 : Nat) : Prop where
 len : P'.length = P.length
 rows : ∀ row ∈ P', row.length = 4
 va : VaP Q P'
 cnt : ∀ r, cnt (cellP P') P.length r = cnt (cellP P) P.length r + (if r0 = r then 1 else 0)
theorem par2 {Q : Qu} {P : Pl} {s : Nd} {done : List Nd} {bs : List (Nd × Nd)} {todo : List Nd} (b : Bi Q P s done bs todo) {m h : Nat} {p : Nd} (hp : Ok Q P.length p) (hx : ((-1, (m : Int), (h : Int)) : Nd) ∈ nexts Q P p) :
  ∃ x : Nat, x < Q.n ∧ p = ((x : Int), -1, (h : Int)) ∧ m < Q.nm ∧ Q.may x m h = true ∧ h < P.length := by
 rcases hp with ⟨r, hr, rfl⟩ | ⟨r, h', hr, hh, rfl⟩ | ⟨m', h', hm, hh, rfl⟩
 ·rw [nexts0, mem_needs] at hx
  obtain ⟨h2, _, _, he⟩ := hx
  simp only [Prod.mk.injEq] at he; omega
 ·rw [nexts1, mem_seeks] at hx
  rcases hx with ⟨m2, h1, h2, _, he⟩ | ⟨_, he⟩
  ·simp only [Prod.mk.injEq] at he
   have e1 : m = m2 := by omega
   have e2 : h = h' := by omega
   subst e1 e2
   exact ⟨r, hr, rfl, h1, h2, hh⟩
  ·simp only [Prod.mk.injEq] at he; omega
 ·rw [nexts2, mem_taken] at hx
  simp only [Prod.mk.injEq] at hx; omega
theorem par1 {Q : Qu} {P : Pl} {x h : Nat} {p : Nd} (hp : Ok Q P.length p) (hx : (((x : Int), -1, (h : Int)) : Nd) ∈ nexts Q P p) :
  (p = ((x : Int), -1, -1) ∧ onP P x h = -1) ∨ (∃ m : Nat, m < Q.nm ∧ p = (-1, (m : Int), (h : Int)) ∧ cellP P h m = (x : Int)) := by
 rcases hp with ⟨r, hr, rfl⟩ | ⟨r, h', hr, hh, rfl⟩ | ⟨m', h', hm, hh, rfl⟩
 ·rw [nexts0, mem_needs] at hx
  obtain ⟨h2, _, ho, he⟩ := hx
  simp only [Prod.mk.injEq] at he
  have e1 : r = x := by omega
  have e2 : h2 = h := by omega
  subst e1 e2
  exact .inl ⟨rfl, ho⟩
 ·rw [nexts1, mem_seeks] at hx
  rcases hx with ⟨m2, _, _, _, he⟩ | ⟨_, he⟩
  ·simp only [Prod.mk.injEq] at he; omega
  ·simp only [Prod.mk.injEq] at he; omega
 ·rw [nexts2, mem_taken] at hx
  simp only [Prod.mk.injEq] at hx
  have e2 : h' = h := by omega
  subst e2
  exact .inr ⟨m', hm, rfl, hx.1.symm⟩
theorem par0 {Q : Qu} {P : Pl} {x : Nat} {p : Nd} (hp : Ok Q P.length p) (hx : (((x : Int), -1, -1) : Nd) ∈ nexts Q P p) :
  ∃ h : Nat, h < P.length ∧ p = ((x : Int), -1, (h : Int)) ∧ onP P x h ≠ -1 := by
 rcases hp with ⟨r, hr, rfl⟩ | ⟨r, h', hr, hh, rfl⟩ | ⟨m', h', hm, hh, rfl⟩
 ·rw [nexts0, mem_needs] at hx
  obtain ⟨h2, _, ho, he⟩ := hx
  simp only [Prod.mk.injEq] at he; omega
 ·rw [nexts1, mem_seeks] at hx
  rcases hx with ⟨m2, _, _, _, he⟩ | ⟨ho, he⟩
  ·simp only [Prod.mk.injEq] at he; omega
  ·simp only [Prod.mk.injEq] at he
   have e1 : r = x := by omega
   subst e1
   exact ⟨h', hh, rfl, ho⟩
 ·rw [nexts2, mem_taken] at hx
  simp only [Prod.mk.injEq] at hx; omega
theorem Bi.okk {Q : Qu} {P : Pl} {s : Nd} {done : List Nd} {bs : List (Nd × Nd)} {todo : List Nd} (b : Bi Q P s done bs todo) {n p : Nd} (h : look bs n = some p) : Ok Q P.length n := b.ok n (List.mem_map_of_mem (look_mem h))
theorem change_way {Q : Qu} {P : Pl} (sm : Sm Q P) (v : VaP Q P) {r0 : Nat} {done : List Nd} {bs : List (Nd × Nd)} {todo : List Nd} (b : Bi Q P ((r0 : Int), -1, -1) done bs todo) :
  ∀ (k : Nat) (l : List Nd) (P' : Pl) (f : Nat), l.length ≤ k → l.length < f →
   (∀ m h : Nat, h < P.length → m < 4 → Way bs ((r0 : Int), -1, -1) l (-1, (m : Int), (h : Int)) → Cg Q P P' l → cellP P' h m = -1 → (∀ r, cnt (cellP P') P.length r = cnt (cellP P) P.length r) → Gv Q P (changeL bs f P' (-1, (m : Int), (h : Int))) r0) ∧
   (∀ x : Nat, Way bs ((r0 : Int), -1, -1) l ((x : Int), -1, -1) → Cg Q P P' l → (∀ r, cnt (cellP P') P.length r = cnt (cellP P) P.length r + (if x = r then 1 else 0)) → Gv Q P (changeL bs f P' ((x : Int), -1, -1)) r0) := by
 intro k
 induction k using Nat.strongRecOn with
 | ind k ih =>
  intro l P' f hk hf
  have hnm := sm.nm
  refine ⟨fun m h hh hm4 w cg hidle hcnt => ?_, fun x w cg hcnt => ?_⟩
  ·-- a machine of an hour
   obtain ⟨b1, l1, rfl, w1, hl, hne, hni⟩ : ∃ b1 l1, l = b1 :: l1 ∧ Way bs ((r0 : Int), -1, -1) l1 b1 ∧ look bs (-1, (m : Int), (h : Int)) = some b1 ∧ ((-1, (m : Int), (h : Int)) : Nd) ≠ ((r0 : Int), -1, -1) ∧ ((-1, (m : Int), (h : Int)) : Nd) ∉ b1 :: l1 := by
    generalize hn : ((-1, (m : Int), (h : Int)) : Nd) = n at w
    cases w with
    | start h1 => simp only [Prod.mk.injEq] at hn; omega
    | step w1 h1 h2 h3 => exact ⟨_, _, rfl, w1, h1, h2, h3⟩
   obtain ⟨q1, hq1⟩ := w1.known b1 List.mem_cons_self
   obtain ⟨x, hx, rfl, hmn, hmay, _⟩ := par2 b (b.okk hq1) (b.par _ _ hl hne).1
   obtain ⟨pb, l2, rfl, w2, hl2, hne2, hni2⟩ : ∃ pb l2, l1 = pb :: l2 ∧ Way bs ((r0 : Int), -1, -1) l2 pb ∧ look bs ((x : Int), -1, (h : Int)) = some pb ∧ (((x : Int), -1, (h : Int)) : Nd) ≠ ((r0 : Int), -1, -1) ∧ (((x : Int), -1, (h : Int)) : Nd) ∉ pb :: l2 := by
    generalize hn : (((x : Int), -1, (h : Int)) : Nd) = n at w1
    cases w1 with
    | start h1 => simp only [Prod.mk.injEq] at hn; omega
    | step w1 h1 h2 h3 => exact ⟨_, _, rfl, w1, h1, h2, h3⟩
   obtain ⟨q2, hq2⟩ := w2.known pb List.mem_cons_self
   obtain ⟨f, rfl⟩ : ∃ f', f = f' + 2 := ⟨f - 2, by simp only [List.length_cons] at hf; omega⟩
   simp only [List.length_cons] at hk hf
   have hhP : h < P'.length := by rw [cg.len]; exact hh
   have e1 : changeL bs (f + 2) P' (-1, (m : Int), (h : Int)) = changeL bs (f + 1) (setP P' h m (x : Int)) ((x : Int), -1, (h : Int)) := by
    rw [changeL, hl]
    dsimp only
    rw [if_neg (by simp only [Prod.mk.injEq]; omega)]
    unfold stepP
    rw [kind2, if_pos rfl]
    rfl
   rw [e1, changeL, hl2]
   dsimp only
   rcases par1 (b.okk hq2) (b.par _ _ hl2 hne2).1 with ⟨rfl, ho⟩ | ⟨m', hm', rfl, hc⟩
   ·rw [if_neg (by simp only [Prod.mk.injEq]; omega)]
    have e2 : stepP (setP P' h m (x : Int)) ((x : Int), -1, (h : Int)) ((x : Int), -1, -1) = setP P' h m (x : Int) := by
     unfold stepP
     rw [kind1, kind0, if_neg (by omega), if_neg (by omega)]
    rw [e2]
    have hno : ∀ m', m' < 4 → cellP P' h m' ≠ (x : Int) := fun m' hm' he => by
     have := cg.i3 x h m' List.mem_cons_self hm' he
     exact (onP_iff sm hh).1 ho m' hm' this
    refine (ih (l2.length) (by omega) l2 (setP P' h m (x : Int)) f (Nat.le_refl _) (by omega)).2 x w2 ⟨by rw [setP_len, cg.len], setP_rows hhP cg.rows, va_set cg.rows cg.va hhP hm4 hx hmn hmay hno, fun m1 h1 hm1 => ?_, fun y h1 m1 hy hm1 he => ?_⟩ fun r => ?_
    ·rw [getElem_setP hhP cg.rows hm4]
     split
     ·rename_i e
      obtain ⟨rfl, rfl⟩ := e
      exact absurd (List.mem_cons_of_mem _ (List.mem_cons_of_mem _ hm1)) hni
     ·exact cg.i1 m1 h1 (List.mem_cons_of_mem _ (List.mem_cons_of_mem _ hm1))
    ·rw [getElem_setP hhP cg.rows hm4] at he
     split at he
     ·rename_i e
      obtain ⟨rfl, rfl⟩ := e
      have : y = x := by omega
      subst this
      exact absurd (List.mem_cons_of_mem _ hy) hni2
     ·exact cg.i3 y h1 m1 (List.mem_cons_of_mem _ (List.mem_cons_of_mem _ hy)) hm1 he
    ·have := cnt_setP (x := (x : Int)) hhP cg.rows hm4 r
     rw [cg.len, hidle, if_neg (by omega), hcnt r] at this
     rw [Nat.add_zero] at this
     rw [this]
     congr 1
     by_cases hxr : x = r
     ·rw [if_pos hxr, if_pos (by omega)]
     ·rw [if_neg hxr, if_neg (by omega)]
   ·rw [if_neg (by simp only [Prod.mk.injEq]; omega)]
    have e2 : stepP (setP P' h m (x : Int)) ((x : Int), -1, (h : Int)) (-1, (m' : Int), (h : Int)) = setP (setP P' h m (x : Int)) h m' (-1) := by
     unfold stepP
     rw [kind1, kind2, if_neg (by omega), if_pos ⟨rfl, rfl⟩]
     rfl
    rw [e2]
    have hmm : m ≠ m' := fun e => by
     subst e
     exact hni (List.mem_cons_of_mem _ List.mem_cons_self)
    have hat : cellP P' h m' = (x : Int) := by rw [cg.i1 m' h (List.mem_cons_of_mem _ List.mem_cons_self), hc]
    have hr1 := setP_rows (m := m) (x := (x : Int)) hhP cg.rows
    have hhP1 : h < (setP P' h m (x : Int)).length := by rw [setP_len]; exact hhP
    have hcell : ∀ h1 m1, cellP (setP (setP P' h m (x : Int)) h m' (-1)) h1 m1 = if h1 = h ∧ m1 = m' then -1 else if h1 = h ∧ m1 = m then (x : Int) else cellP P' h1 m1 := fun h1 m1 => by
     rw [getElem_setP hhP1 hr1 (by omega), getElem_setP hhP cg.rows hm4]
    refine (ih (l2.length) (by omega) l2 _ f (Nat.le_refl _) (by omega)).1 m' h hh (by omega) w2 ⟨by rw [setP_len, setP_len, cg.len], setP_rows hhP1 hr1, va_move cg.rows cg.va hhP hm4 (by omega) hx hmn hmay hat hmm, fun m1 h1 hm1 => ?_, fun y h1 m1 hy hm1 he => ?_⟩ ?_ fun r => ?_
    ·rw [hcell]
     split
     ·rename_i e
      obtain ⟨rfl, rfl⟩ := e
      cases w2 with
      | step w3 h3 h4 h5 => exact absurd hm1 h5
     ·split
      ·rename_i e
       obtain ⟨rfl, rfl⟩ := e
       exact absurd (List.mem_cons_of_mem _ (List.mem_cons_of_mem _ hm1)) hni
      ·exact cg.i1 m1 h1 (List.mem_cons_of_mem _ (List.mem_cons_of_mem _ hm1))
    ·rw [hcell] at he
     split at he
     ·omega
     ·split at he
      ·rename_i e
       obtain ⟨rfl, rfl⟩ := e
       have : y = x := by omega
       subst this
       exact absurd (List.mem_cons_of_mem _ hy) hni2
      ·exact cg.i3 y h1 m1 (List.mem_cons_of_mem _ (List.mem_cons_of_mem _ hy)) hm1 he
    ·rw [hcell, if_pos ⟨rfl, rfl⟩]
    ·have c1 := cnt_setP (x := (x : Int)) hhP cg.rows hm4 r
     have c2 := cnt_setP (x := (-1 : Int)) (m := m') hhP1 hr1 (by omega) r
     have c3 : cellP (setP P' h m (x : Int)) h m' = (x : Int) := by rw [getElem_setP hhP cg.rows hm4, if_neg (fun e => hmm e.2.symm), hat]
     rw [setP_len, c3, if_neg (show ¬ (-1 : Int) = (r : Int) by omega)] at c2
     rw [hidle, if_neg (show ¬ (-1 : Int) = (r : Int) by omega)] at c1
     rw [cg.len] at c1 c2
     rw [← hcnt r]
     omega
  ·-- a run
   by_cases hxr : x = r0
   ·subst hxr
    obtain ⟨f, rfl⟩ : ∃ f', f = f' + 1 := ⟨f - 1, by omega⟩
    have hl : l = [] := by
     generalize hn : (((x : Int), -1, -1) : Nd) = n at w
     cases w with
     | start h1 => rfl
     | step w1 h1 h2 h3 => exact absurd hn.symm (by rw [← hn] at h2; exact absurd rfl h2)
    subst hl
    have hlk : look bs ((x : Int), -1, -1) = some ((x : Int), -1, -1) := by
     generalize hn : (((x : Int), -1, -1) : Nd) = n at w
     cases w with
     | start h1 => exact hn ▸ h1
    rw [changeL, hlk]
    dsimp only
    rw [if_pos rfl]
    exact ⟨cg.len, cg.rows, cg.va, hcnt⟩
   ·obtain ⟨b1, l1, rfl, w1, hl, hne, hni⟩ : ∃ b1 l1, l = b1 :: l1 ∧ Way bs ((r0 : Int), -1, -1) l1 b1 ∧ look bs ((x : Int), -1, -1) = some b1 ∧ (((x : Int), -1, -1) : Nd) ≠ ((r0 : Int), -1, -1) ∧ (((x : Int), -1, -1) : Nd) ∉ b1 :: l1 := by
     generalize hn : (((x : Int), -1, -1) : Nd) = n at w
     cases w with
     | start h1 => simp only [Prod.mk.injEq] at hn; omega
     | step w1 h1 h2 h3 => exact ⟨_, _, rfl, w1, h1, h2, h3⟩
    obtain ⟨q1, hq1⟩ := w1.known b1 List.mem_cons_self
    obtain ⟨h, hh, rfl, ho⟩ := par0 (b.okk hq1) (b.par _ _ hl hne).1
    obtain ⟨pb, l2, rfl, w2, hl2, hne2, hni2⟩ : ∃ pb l2, l1 = pb :: l2 ∧ Way bs ((r0 : Int), -1, -1) l2 pb ∧ look bs ((x : Int), -1, (h : Int)) = some pb ∧ (((x : Int), -1, (h : Int)) : Nd) ≠ ((r0 : Int), -1, -1) ∧ (((x : Int), -1, (h : Int)) : Nd) ∉ pb :: l2 := by
     generalize hn : (((x : Int), -1, (h : Int)) : Nd) = n at w1
     cases w1 with
     | start h1 => simp only [Prod.mk.injEq] at hn; omega
     | step w1 h1 h2 h3 => exact ⟨_, _, rfl, w1, h1, h2, h3⟩
    obtain ⟨q2, hq2⟩ := w2.known pb List.mem_cons_self
    obtain ⟨f, rfl⟩ : ∃ f', f = f' + 2 := ⟨f - 2, by simp only [List.length_cons] at hf; omega⟩
    simp only [List.length_cons] at hk hf
    have hhP : h < P'.length := by rw [cg.len]; exact hh
    have e1 : changeL bs (f + 2) P' ((x : Int), -1, -1) = changeL bs (f + 1) P' ((x : Int), -1, (h : Int)) := by
     rw [changeL, hl]
     dsimp only
     rw [if_neg (by simp only [Prod.mk.injEq]; omega)]
     unfold stepP
     rw [kind0, if_neg (by omega), if_neg (by omega)]
    rw [e1, changeL, hl2]
    dsimp only
    rcases par1 (b.okk hq2) (b.par _ _ hl2 hne2).1 with ⟨rfl, ho2⟩ | ⟨m', hm', rfl, hc⟩
    ·exact absurd ho2 ho
    ·rw [if_neg (by simp only [Prod.mk.injEq]; omega)]
     have e2 : stepP P' ((x : Int), -1, (h : Int)) (-1, (m' : Int), (h : Int)) = setP P' h m' (-1) := by
      unfold stepP
      rw [kind1, kind2, if_neg (by omega), if_pos ⟨rfl, rfl⟩]
      rfl
     rw [e2]
     have hat : cellP P' h m' = (x : Int) := by rw [cg.i1 m' h (List.mem_cons_of_mem _ List.mem_cons_self), hc]
     refine (ih (l2.length) (by omega) l2 _ f (Nat.le_refl _) (by omega)).1 m' h hh (by omega) w2 ⟨by rw [setP_len, cg.len], setP_rows hhP cg.rows, va_idle cg.rows cg.va hhP (by omega), fun m1 h1 hm1 => ?_, fun y h1 m1 hy hm1 he => ?_⟩ ?_ fun r => ?_
     ·rw [getElem_setP hhP cg.rows (by omega)]
      split
      ·rename_i e
       obtain ⟨rfl, rfl⟩ := e
       cases w2 with
       | step w3 h3 h4 h5 => exact absurd hm1 h5
      ·exact cg.i1 m1 h1 (List.mem_cons_of_mem _ (List.mem_cons_of_mem _ hm1))
     ·rw [getElem_setP hhP cg.rows (by omega)] at he
      split at he
      ·omega
      ·exact cg.i3 y h1 m1 (List.mem_cons_of_mem _ (List.mem_cons_of_mem _ hy)) hm1 he
     ·rw [getElem_setP hhP cg.rows (by omega), if_pos ⟨rfl, rfl⟩]
     ·have c2 := cnt_setP (x := (-1 : Int)) (m := m') hhP cg.rows (by omega) r
      rw [hat, if_neg (show ¬ (-1 : Int) = (r : Int) by omega), cg.len, hcnt r] at c2
      have : (if (x : Int) = (r : Int) then 1 else 0 : Nat) = if x = r then 1 else 0 := by
       by_cases hxr : x = r
       ·rw [if_pos hxr, if_pos (by omega)]
       ·rw [if_neg hxr, if_neg (by omega)]
      omega
end Go.Ev.Ytijidghjiaiccaa


set_option linter.unusedVariables false
set_option linter.unusedSimpArgs false
namespace Go.Ev.Ytijidghjiaiccaa
theorem Way.nodup {bs : List (Nd × Nd)} {s : Nd} {l : List Nd} {n : Nd} (w : Way bs s l n) : (n :: l).Nodup := by
 induction w with
 | start h => simp
 | step w h h2 h3 ih => exact List.nodup_cons.2 ⟨h3, ih⟩
theorem Way.short {Q : Qu} {P : Pl} (sm : Sm Q P) {s : Nd} {done : List Nd} {bs : List (Nd × Nd)} {todo : List Nd} (b : Bi Q P s done bs todo) {l : List Nd} {n : Nd} (w : Way bs s l n) : l.length < 1435 := by
 have hok : ∀ x ∈ n :: l, Ok Q P.length x := fun x hx => by
  obtain ⟨p, hp⟩ := w.known x hx
  exact b.okk hp
 have h1 : ((n :: l).map codeN).Nodup := by
  refine List.Pairwise.map _ (fun _ _ h => h) (List.Pairwise.imp_of_mem (fun {x y} hx hy hne he => hne ?_) w.nodup)
  exact code_inj (ok_bounds sm (hok x hx)) (ok_bounds sm (hok y hy)) he
 have h2 := nodup_lt 1435 _ h1 fun z hz => by
  obtain ⟨x, hx, rfl⟩ := List.mem_map.1 hz
  have := ok_bounds sm (hok x hx)
  unfold codeN
  omega
 rw [List.length_map, List.length_cons] at h2
 omega
def giveL (Q : Qu) (P : Pl) (r : Nat) : Bool × Pl :=
 match bfs Q P 1436 [((((r : Int), -1, -1) : Nd), (((r : Int), -1, -1) : Nd))] [((r : Int), -1, -1)] with
 | some (n, bs) => (true, changeL bs 1436 P n)
 | none => (false, P)
theorem give_law {Q : Qu} {P : Pl} (sm : Sm Q P) (v : VaP Q P) {r : Nat} (hr : r < Q.n) :
  ((giveL Q P r).1 = true ∧ Gv Q P (giveL Q P r).2 r) ∨ ((giveL Q P r).1 = false ∧ (giveL Q P r).2 = P ∧ ∀ hrs : Nat → Nat, (∀ i, i < Q.n → cnt (cellP P) P.length i ≤ hrs i) → cnt (cellP P) P.length r < hrs r → ¬ Feas Q hrs P.length) := by
 unfold giveL
 cases hb : bfs Q P 1436 [((((r : Int), -1, -1) : Nd), (((r : Int), -1, -1) : Nd))] [((r : Int), -1, -1)] with
 | none => exact .inr ⟨rfl, rfl, fun hrs h1 h2 => no_way sm v hr h1 h2 hb⟩
 | some z =>
  obtain ⟨n, bs⟩ := z
  dsimp only
  refine .inl ⟨rfl, ?_⟩
  obtain ⟨hf, hn, done, todo, b⟩ := bfs_some sm v _ _ _ _ _ _ (bi_start hr) hb
  obtain ⟨l, w⟩ := b.way n hn
  have hlen := w.short sm b
  have hk : kindN n = 2 ∧ cellP P n.2.2.toNat n.2.1.toNat = -1 := by
   unfold freeB at hf
   rw [Bool.and_eq_true, beq_iff_eq, beq_iff_eq] at hf
   exact hf
  have hnm := sm.nm
  rcases b.ok n hn with ⟨x, hx, rfl⟩ | ⟨x, h, hx, hh, rfl⟩ | ⟨m, h, hm, hh, rfl⟩
  ·rw [kind0] at hk; omega
  ·rw [kind1] at hk; omega
  ·exact (change_way sm v b l.length l P 1436 (Nat.le_refl _) (by omega)).1 m h hh (by omega) w ⟨rfl, sm.rows, v, fun _ _ _ => rfl, fun _ _ _ _ _ h => h⟩ hk.2 fun _ => rfl
def delL (Q : Qu) : List Nat → Pl → List Nat × Pl
 | [], P => ([], P)
 | r :: rs, P => if (giveL Q P r).1 then delL Q rs (giveL Q P r).2 else (r :: (delL Q rs P).1, (delL Q rs P).2)
theorem del_law {Q : Qu} {hrs : Nat → Nat} : ∀ (left : List Nat) (P : Pl) (kept : Nat → Nat), Sm Q P → VaP Q P → (∀ r ∈ left, r < Q.n) → (∀ r, r < Q.n → cnt (cellP P) P.length r + kept r + left.count r = hrs r) →
  (delL Q left P).2.length = P.length ∧ (∀ row ∈ (delL Q left P).2, row.length = 4) ∧ VaP Q (delL Q left P).2 ∧ (∀ r ∈ (delL Q left P).1, r < Q.n) ∧
  (∀ r, r < Q.n → cnt (cellP (delL Q left P).2) P.length r + kept r + (delL Q left P).1.count r = hrs r) ∧ ((delL Q left P).1 ≠ [] → ¬ Feas Q hrs P.length)
 | [], P, kept, sm, v, hl, hc => ⟨rfl, sm.rows, v, hl, hc, fun h => absurd rfl h⟩
 | r :: rs, P, kept, sm, v, hl, hc => by
  have hr := hl r List.mem_cons_self
  have hrs' : ∀ x ∈ rs, x < Q.n := fun x hx => hl x (List.mem_cons_of_mem _ hx)
  rw [delL]
  rcases give_law sm v hr with ⟨h1, g⟩ | ⟨h1, _, h3⟩
  ·rw [if_pos h1]
   have sm' : Sm Q (giveL Q P r).2 := ⟨sm.n, sm.nm, by rw [g.len]; exact sm.len, g.rows⟩
   obtain ⟨a1, a2, a3, a4, a5, a6⟩ := del_law (hrs := hrs) rs (giveL Q P r).2 kept sm' g.va hrs' fun i hi => by
    rw [g.len, g.cnt i]
    have := hc i hi
    rw [List.count_cons] at this
    by_cases hri : r = i
    ·subst hri
     rw [beq_self_eq_true, if_pos rfl] at this
     rw [if_pos rfl]; omega
    ·rw [if_neg (by rw [beq_iff_eq]; exact hri)] at this
     rw [if_neg hri]; omega
   rw [g.len] at a1 a5 a6
   exact ⟨a1, a2, a3, a4, a5, a6⟩
  ·rw [if_neg (by rw [h1]; simp)]
   obtain ⟨a1, a2, a3, a4, a5, a6⟩ := del_law (hrs := hrs) rs P (fun i => kept i + if r = i then 1 else 0) sm v hrs' fun i hi => by
    have := hc i hi
    rw [List.count_cons] at this
    by_cases hri : r = i
    ·subst hri
     rw [beq_self_eq_true, if_pos rfl] at this
     rw [if_pos rfl]; omega
    ·rw [if_neg (by rw [beq_iff_eq]; exact hri)] at this
     rw [if_neg hri]; omega
   refine ⟨a1, a2, a3, ?_, ?_, fun _ => h3 hrs (fun i hi => ?_) ?_⟩
   ·intro x hx
    rcases List.mem_cons.1 hx with rfl | hx
    ·exact hr
    ·exact a4 x hx
   ·intro i hi
    have := a5 i hi
    dsimp only
    rw [List.count_cons]
    by_cases hri : r = i
    ·subst hri
     rw [if_pos rfl] at this
     rw [beq_self_eq_true, if_pos rfl]
     omega
    ·rw [if_neg hri] at this
     rw [if_neg (by rw [beq_iff_eq]; exact hri)]
     omega
   ·have := hc i hi; omega
   ·have := hc r hr
    rw [List.count_cons, beq_self_eq_true, if_pos rfl] at this
    omega
abbrev idleR : List Int := [-1, -1, -1, -1]
def layL (Q : Qu) : Nat → Pl → List Nat → Option Pl
 | 0, P, left => if left = [] then some P else none
 | f + 1, P, left => if left = [] then some P else layL Q f (delL Q left (P ++ [idleR])).2 (delL Q left (P ++ [idleR])).1
theorem cell_idle (P : Pl) (h m : Nat) : cellP (P ++ [idleR]) h m = cellP P h m := by
 unfold cellP
 rw [List.getElem?_append]
 split
 ·rfl
 ·rename_i hn
  rw [List.getElem?_eq_none (Nat.le_of_not_lt hn)]
  by_cases h0 : h - P.length = 0
  ·rw [h0]
   match m with
   | 0 => rfl
   | 1 => rfl
   | 2 => rfl
   | 3 => rfl
   | m + 4 => rfl
  ·rw [show ([idleR] : Pl)[h - P.length]? = none from List.getElem?_eq_none (by show 1 ≤ _; omega)]
theorem va_row {Q : Qu} {P : Pl} (v : VaP Q P) : VaP Q (P ++ [idleR]) := by
 have hc := cell_idle P
 have hz : ∀ h m, P.length ≤ h → cellP P h m = -1 := fun h m hh => by
  unfold cellP
  rw [List.getElem?_eq_none hh]
  rfl
 refine ⟨fun h hh m hm => ?_, fun h hh m m' hm hm' he hne => ?_⟩
 ·rw [hc]
  by_cases hlt : h < P.length
  ·exact v.ok h hlt m hm
  ·exact .inl (hz h m (by omega))
 ·rw [hc, hc] at he
  rw [hc]
  by_cases hlt : h < P.length
  ·exact v.one h hlt m m' hm hm' he hne
  ·exact hz h m (by omega)
theorem cnt_row (P : Pl) (r : Nat) : cnt (cellP (P ++ [idleR])) (P ++ [idleR]).length r = cnt (cellP P) P.length r := by
 have hc : cellP (P ++ [idleR]) = cellP P := by funext h m; exact cell_idle P h m
 rw [hc, List.length_append, List.length_singleton]
 unfold cnt
 rw [sg]
 have : sg (fun m => at1 (cellP P) P.length m r) 4 = 0 := sg_eq_zero fun m _ => by
  unfold at1 cellP
  rw [List.getElem?_eq_none (Nat.le_refl _), if_neg (by simp)]
 rw [this, Nat.add_zero]
theorem lay_law {Q : Qu} {hrs : Nat → Nat} (hn : Q.n ≤ 6) (hnm : Q.nm ≤ 4) : ∀ (f : Nat) (P : Pl) (left : List Nat), P.length + f = 40 → (∀ row ∈ P, row.length = 4) → VaP Q P → (∀ r ∈ left, r < Q.n) → (∀ r, r < Q.n → cnt (cellP P) P.length r + left.count r = hrs r) →
  (left ≠ [] → ¬ Feas Q hrs P.length) → (P.length = 0 ∨ ¬ Feas Q hrs (P.length - 1)) →
  (∃ P', layL Q f P left = some P' ∧ P'.length ≤ 40 ∧ (∀ row ∈ P', row.length = 4) ∧ VaP Q P' ∧ Feas Q hrs P'.length ∧ (P'.length = 0 ∨ ¬ Feas Q hrs (P'.length - 1))) ∨ (layL Q f P left = none ∧ ¬ Feas Q hrs 40)
 | 0, P, left, hP, hrow, v, hl, hc, hne, h0 => by
  rw [layL]
  by_cases he : left = []
  ·rw [if_pos he]
   refine .inl ⟨P, rfl, by omega, hrow, v, ⟨cellP P, v, fun r hr => ?_⟩, h0⟩
   have := hc r hr
   rw [he, List.count_nil] at this
   omega
  ·rw [if_neg he]
   have := hne he
   rw [show P.length = 40 by omega] at this
   exact .inr ⟨rfl, this⟩
 | f + 1, P, left, hP, hrow, v, hl, hc, hne, h0 => by
  rw [layL]
  by_cases he : left = []
  ·rw [if_pos he]
   refine .inl ⟨P, rfl, by omega, hrow, v, ⟨cellP P, v, fun r hr => ?_⟩, h0⟩
   have := hc r hr
   rw [he, List.count_nil] at this
   omega
  ·rw [if_neg he]
   have hl1 : (P ++ [idleR]).length = P.length + 1 := by simp
   have hrow1 : ∀ row ∈ P ++ [idleR], row.length = 4 := fun row hr => by
    rcases List.mem_append.1 hr with h | h
    ·exact hrow row h
    ·rw [List.mem_singleton] at h; subst h; rfl
   obtain ⟨a1, a2, a3, a4, a5, a6⟩ := del_law (hrs := hrs) left (P ++ [idleR]) (fun _ => 0) ⟨hn, hnm, by omega, hrow1⟩ (va_row v) hl fun r hr => by rw [cnt_row]; exact hc r hr
   refine lay_law hn hnm f _ _ (by rw [a1]; omega) a2 a3 a4 (fun r hr => ?_) (fun h => ?_) ?_
   ·have := a5 r hr
    rw [a1]
    omega
   ·rw [a1]; exact a6 h
   ·rw [a1, hl1]
    exact .inr (by rw [Nat.add_sub_cancel]; exact hne he)
def itemsL (hrs : List Nat) : List Nat := (List.range hrs.length).flatMap fun i => List.replicate ((hrs[i]?).getD 0) i
def earliest (nm : Nat) (may : Nat → Nat → Nat → Bool) (hrs : List Nat) : Option Pl := layL ⟨nm, hrs.length, may⟩ 40 [] (itemsL hrs)
theorem count_items (hrs : List Nat) {r : Nat} (hr : r < hrs.length) : (itemsL hrs).count r = (hrs[r]?).getD 0 := by
 unfold itemsL
 have : ∀ n, ((List.range n).flatMap fun i => List.replicate ((hrs[i]?).getD 0) i).count r = if r < n then (hrs[r]?).getD 0 else 0 := fun n => by
  induction n with
  | zero => simp
  | succ n ih =>
   rw [List.range_succ, List.flatMap_append, List.count_append, ih, List.flatMap_singleton, List.count_replicate]
   by_cases h1 : n = r
   ·subst h1
    simp
   ·have : (n == r) = false := by rw [beq_eq_false_iff_ne]; exact h1
    rw [this]
    by_cases h2 : r < n
    ·rw [if_pos h2, if_pos (show r < n + 1 by omega)]; simp
    ·rw [if_neg h2, if_neg (show ¬ r < n + 1 by omega)]; simp
 rw [this, if_pos hr]
theorem mem_items {hrs : List Nat} {r : Nat} (h : r ∈ itemsL hrs) : r < hrs.length := by
 unfold itemsL at h
 obtain ⟨i, hi, hm⟩ := List.mem_flatMap.1 h
 rw [List.mem_replicate] at hm
 rw [hm.2]
 exact List.mem_range.1 hi
theorem earliest_law {nm : Nat} {may : Nat → Nat → Nat → Bool} {hrs : List Nat} (hn : hrs.length ≤ 6) (hnm : nm ≤ 4) :
  (∃ P, earliest nm may hrs = some P ∧ P.length ≤ 40 ∧ (∀ row ∈ P, row.length = 4) ∧ VaP ⟨nm, hrs.length, may⟩ P ∧ Feas ⟨nm, hrs.length, may⟩ (fun r => (hrs[r]?).getD 0) P.length ∧ (P.length = 0 ∨ ¬ Feas ⟨nm, hrs.length, may⟩ (fun r => (hrs[r]?).getD 0) (P.length - 1))) ∨
  (earliest nm may hrs = none ∧ ¬ Feas ⟨nm, hrs.length, may⟩ (fun r => (hrs[r]?).getD 0) 40) := by
 unfold earliest
 have h0 : ∀ r, cnt (cellP []) 0 r = 0 := fun r => rfl
 by_cases he : itemsL hrs = []
 ·refine lay_law hn hnm 40 [] (itemsL hrs) rfl (by simp) ⟨fun h hh => absurd hh (Nat.not_lt_zero _), fun h hh => absurd hh (Nat.not_lt_zero _)⟩ (fun r hr => mem_items hr) (fun r hr => ?_) (fun h => absurd he h) (.inl rfl)
  show cnt (cellP []) 0 r + _ = _
  rw [h0, Nat.zero_add]; exact count_items hrs hr
 ·refine lay_law hn hnm 40 [] (itemsL hrs) rfl (by simp) ⟨fun h hh => absurd hh (Nat.not_lt_zero _), fun h hh => absurd hh (Nat.not_lt_zero _)⟩ (fun r hr => mem_items hr) (fun r hr => ?_) (fun h => ?_) (.inl rfl)
  ·show cnt (cellP []) 0 r + _ = _
   rw [h0, Nat.zero_add]; exact count_items hrs hr
  ·rintro ⟨c, v, hc⟩
   obtain ⟨r, hr⟩ := List.exists_mem_of_ne_nil _ he
   have h1 := hc r (mem_items hr)
   have h2 : cnt c ([] : Pl).length r = 0 := rfl
   rw [h2] at h1
   dsimp only at h1
   rw [← count_items hrs (mem_items hr)] at h1
   have := List.count_pos_iff.2 hr
   omega
end Go.Ev.Ytijidghjiaiccaa


set_option linter.unusedVariables false
set_option linter.unusedSimpArgs false
set_option maxRecDepth 100000
namespace Go.Ev.Ytijidghjiaiccaa
open Go.Proofs
def inB (n lo hi : Int) : Bool := decide (lo ≤ n) && decide (n ≤ hi)
theorem within_pure (n lo hi : Int) : Pure Try.prog 27 [dI n, dI lo, dI hi] (dB (inB n lo hi)) := by
 refine pure_of pg Try.func27 (by kernel_rfl) ?_
 conv => whnf
 (repeat' (first | (apply kT (by with_reducible first | rfl | assumption); conv => whnf) | (apply kF (by with_reducible first | rfl | assumption); conv => whnf) | (apply kT (by decide); conv => whnf) | (apply kF (by decide); conv => whnf) | (apply kB <;> intro _ <;> conv => whnf) | fail))
 all_goals (rename_i h; unfold inB; rw [h]; rfl)
attribute [local irreducible] Pure Bor Iter inB
theorem hour_pure (n : Int) : Pure Try.prog 28 [dI n] (dB (inB n 0 39)) := by
 refine pure_of pg Try.func28 (by kernel_rfl) ?_
 conv => whnf
 (repeat' (first | (apply kT (by with_reducible first | rfl | assumption); conv => whnf) | (apply kF (by with_reducible first | rfl | assumption); conv => whnf) | (apply kT (by decide); conv => whnf) | (apply kF (by decide); conv => whnf) | (apply kB <;> intro _ <;> conv => whnf) | (refine .inl ⟨_, within_pure .., ?_⟩; conv => whnf) | fail))
 rfl
theorem many_pure (n : Int) : Pure Try.prog 31 [dI n] (dB (inB n 0 40)) := by
 refine pure_of pg Try.func31 (by kernel_rfl) ?_
 conv => whnf
 (repeat' (first | (apply kT (by with_reducible first | rfl | assumption); conv => whnf) | (apply kF (by with_reducible first | rfl | assumption); conv => whnf) | (apply kT (by decide); conv => whnf) | (apply kF (by decide); conv => whnf) | (apply kB <;> intro _ <;> conv => whnf) | (refine .inl ⟨_, within_pure .., ?_⟩; conv => whnf) | fail))
 rfl
abbrev ndD (n : Nd) : List D := [dI n.1, dI n.2.1, dI n.2.2]
theorem kind_pure (n : Nd) : Pure Try.prog 75 [.agg (ndD n)] (dI (kindN n : Nat)) := by
 by_cases h0 : n.2.2 = -1
 ·have f1 : (n.2.2 == -1) = true := by rw [h0]; rfl
  have e : kindN n = 0 := by unfold kindN; rw [if_pos h0]
  rw [e]
  refine pure_of pg Try.func75 (by kernel_rfl) ?_
  conv => whnf
  (repeat' (first | (apply kT (by with_reducible first | rfl | assumption); conv => whnf) | (apply kF (by with_reducible first | rfl | assumption); conv => whnf) | (apply kT (by decide); conv => whnf) | (apply kF (by decide); conv => whnf) | (apply kB <;> intro _ <;> conv => whnf) | fail))
  rfl
 ·have f1 : (n.2.2 == -1) = false := by rw [beq_eq_false_iff_ne]; exact h0
  by_cases h1 : n.2.1 = -1
  ·have f2 : (n.2.1 == -1) = true := by rw [h1]; rfl
   have e : kindN n = 1 := by unfold kindN; rw [if_neg h0, if_pos h1]
   rw [e]
   refine pure_of pg Try.func75 (by kernel_rfl) ?_
   conv => whnf
   (repeat' (first | (apply kT (by with_reducible first | rfl | assumption); conv => whnf) | (apply kF (by with_reducible first | rfl | assumption); conv => whnf) | (apply kT (by decide); conv => whnf) | (apply kF (by decide); conv => whnf) | (apply kB <;> intro _ <;> conv => whnf) | fail))
   rfl
  ·have f2 : (n.2.1 == -1) = false := by rw [beq_eq_false_iff_ne]; exact h1
   have e : kindN n = 2 := by unfold kindN; rw [if_neg h0, if_neg h1]
   rw [e]
   refine pure_of pg Try.func75 (by kernel_rfl) ?_
   conv => whnf
   (repeat' (first | (apply kT (by with_reducible first | rfl | assumption); conv => whnf) | (apply kF (by with_reducible first | rfl | assumption); conv => whnf) | (apply kT (by decide); conv => whnf) | (apply kF (by decide); conv => whnf) | (apply kB <;> intro _ <;> conv => whnf) | fail))
   rfl
abbrev isD (l : List Int) : D := .seq (l.map fun x => [dI x])
theorem onL_at {l : List Int} {r : Int} {k : Nat} (hk : k < l.length) (h1 : ∀ j (h : j < k), l[j]'(by omega) ≠ r) (h2 : l[k] = r) : onL l r = k := by
 have : l.findIdx? (· == r) = some k := by
  rw [List.findIdx?_eq_some_iff_getElem]
  exact ⟨hk, by rw [h2]; simp, fun j hj => by simpa using h1 j hj⟩
 unfold onL
 rw [this]
theorem onL_none {l : List Int} {r : Int} (h : ∀ j (h : j < l.length), l[j] ≠ r) : onL l r = -1 := by
 have : l.findIdx? (· == r) = none := by
  rw [List.findIdx?_eq_none_iff]
  intro x hx
  obtain ⟨j, hj, rfl⟩ := List.getElem_of_mem hx
  simpa using h j hj
 unfold onL
 rw [this]
theorem index_pure (l : List Int) (r : Int) (hl : l.length ≤ 1000) : Pure Try.prog 101 [isD l, dI r] (dI (onL l r)) := by
 have hm : ((l.map fun x => [dI x]).length : Int) = l.length := by rw [List.length_map]
 refine pure_of pg Try.func101 (by kernel_rfl) ?_
 conv => whnf
 (repeat' (first | (apply kT (by with_reducible first | rfl | assumption); conv => whnf) | (apply kF (by with_reducible first | rfl | assumption); conv => whnf) | (apply kT (by decide); conv => whnf) | (apply kF (by decide); conv => whnf) | (apply kB <;> intro _ <;> conv => whnf) | fail))
 refine ⟨[], [0, 1, 7, 8], [], 0, fun m s => ∃ k : Nat, k + m = l.length ∧ (∀ j (h : j < k) (h2 : j < l.length), l[j] ≠ r) ∧ s = ⟨[(0, .d (isD l)), (1, .d (dI r)), (7, .d (dI ((l.map fun x => [dI x]).length : Nat))), (8, .d (dI k))], [], 0⟩, ?_, ?_⟩
 ·conv => whnf
  exact ⟨l.length, 0, by omega, fun j h => by omega, rfl⟩
 ·rintro m _ ⟨k, hk, hno, rfl⟩
  by_cases hkl : k < l.length
  ·have f1 : decide ((k : Int) < ((l.map fun x => [dI x]).length : Int)) = true := decide_eq_true (by rw [hm]; omega)
   have hg : (l.map fun x => [dI x])[k]? = some [dI l[k]] := by rw [List.getElem?_map, List.getElem?_eq_getElem hkl]; rfl
   have w1k : IntKind.i64.wrap ((k : Int) + 1) = ((k + 1 : Nat) : Int) := by rw [wrapI (by omega) (by omega)]; rfl
   by_cases he : l[k] = r
   ·have f2 : (r == l[k]) = true := by rw [he]; simp
    have e := onL_at hkl (fun j hj => hno j hj (by omega)) he
    rw [e]
    conv => whnf
    (repeat' (first | (apply kT (by with_reducible first | rfl | assumption); conv => whnf) | (apply kF (by with_reducible first | rfl | assumption); conv => whnf) | (apply kT (by decide); conv => whnf) | (apply kF (by decide); conv => whnf) | (apply kB <;> intro _ <;> conv => whnf) | fail))
    (refine ⟨k, _, rfl, hg, rfl, ?_⟩; conv => whnf)
    (repeat' (first | (apply kT (by with_reducible first | rfl | assumption); conv => whnf) | (apply kF (by with_reducible first | rfl | assumption); conv => whnf) | (apply kT (by decide); conv => whnf) | (apply kF (by decide); conv => whnf) | (apply kB <;> intro _ <;> conv => whnf) | fail))
    rfl
   ·have f2 : (r == l[k]) = false := by rw [beq_eq_false_iff_ne]; exact fun h => he h.symm
    conv => whnf
    (repeat' (first | (apply kT (by with_reducible first | rfl | assumption); conv => whnf) | (apply kF (by with_reducible first | rfl | assumption); conv => whnf) | (apply kT (by decide); conv => whnf) | (apply kF (by decide); conv => whnf) | (apply kB <;> intro _ <;> conv => whnf) | fail))
    (refine ⟨k, _, rfl, hg, rfl, ?_⟩; conv => whnf)
    (repeat' (first | (apply kT (by with_reducible first | rfl | assumption); conv => whnf) | (apply kF (by with_reducible first | rfl | assumption); conv => whnf) | (apply kT (by decide); conv => whnf) | (apply kF (by decide); conv => whnf) | (apply kB <;> intro _ <;> conv => whnf) | fail))
    refine ⟨m - 1, by omega, k + 1, by omega, fun j hj hjl => ?_, ?_⟩
    ·by_cases h : j < k
     ·exact hno j h hjl
     ·have : j = k := by omega
      subst this
      exact he
    ·rw [w1k]
  ·have f1 : decide ((k : Int) < ((l.map fun x => [dI x]).length : Int)) = false := decide_eq_false (by rw [hm]; omega)
   have e := onL_none (l := l) (r := r) fun j hj => hno j (by omega) hj
   rw [e]
   conv => whnf
   (repeat' (first | (apply kT (by with_reducible first | rfl | assumption); conv => whnf) | (apply kF (by with_reducible first | rfl | assumption); conv => whnf) | (apply kT (by decide); conv => whnf) | (apply kF (by decide); conv => whnf) | (apply kB <;> intro _ <;> conv => whnf) | fail))
   rfl
end Go.Ev.Ytijidghjiaiccaa


set_option linter.unusedVariables false
set_option linter.unusedSimpArgs false
set_option maxRecDepth 100000
namespace Go.Ev.Ytijidghjiaiccaa
open Go.Proofs
attribute [local irreducible] Pure Bor Iter inB
abbrev rowsD (P : Pl) : List (List D) := P.map fun row => row.map fun x => dI x
abbrev layO (a b : List (List D)) (i : Nat) : Ob := .var false 79 [.d (.seq a), .d (.seq b), .own i]
abbrev planO (P : Pl) : Ob := .arr 81 (rowsD P)
abbrev ndO (n : Nd) : Ob := .var false 136 ((ndD n).map A.d)
end Go.Ev.Ytijidghjiaiccaa


set_option linter.unusedVariables false
set_option linter.unusedSimpArgs false
set_option maxRecDepth 100000
namespace Go.Ev.Ytijidghjiaiccaa
open Go.Proofs
attribute [local irreducible] Pure Bor Iter inB
end Go.Ev.Ytijidghjiaiccaa


set_option linter.unusedVariables false
set_option linter.unusedSimpArgs false
set_option maxRecDepth 100000
namespace Go.Ev.Ytijidghjiaiccaa
open Go.Proofs
attribute [local irreducible] Pure Bor Iter inB
abbrev intO (n : Int) : Ob := .var false 3 [.d (dI n)]
abbrev rgD (x : Int × Int) : List D := [dI x.1, dI x.2]
theorem still_bor (t : Int) (x : Int × Int) : Bor tb Try.prog 82 [.d (.agg (rgD x)), .ref 0 0] [intO t] 2 (.d (dB (inB t x.1 x.2))) [(0, intO t)] := by
 refine bor_of pg Try.func82 (by kernel_rfl) ?_
 conv => whnf
 (repeat' (first | (apply kT (by with_reducible first | rfl | assumption); conv => whnf) | (apply kF (by with_reducible first | rfl | assumption); conv => whnf) | (apply kT (by decide); conv => whnf) | (apply kF (by decide); conv => whnf) | (apply kB <;> intro _ <;> conv => whnf) | (refine .inl ⟨_, within_pure .., ?_⟩; conv => whnf) | fail))
 (refine ⟨[], [0], ?_⟩; conv => whnf)
 exact ⟨rfl, rfl⟩
def stI (t : Int) (l : List (Int × Int)) : Int :=
 match l.findIdx? (fun x => inB t x.1 x.2) with
 | some i => (i : Int)
 | none => -1
theorem stI_at {t : Int} {l : List (Int × Int)} {k : Nat} (hk : k < l.length) (h1 : ∀ j (h : j < k), inB t (l[j]'(by omega)).1 (l[j]'(by omega)).2 = false) (h2 : inB t l[k].1 l[k].2 = true) : stI t l = k := by
 have : l.findIdx? (fun x => inB t x.1 x.2) = some k := by
  rw [List.findIdx?_eq_some_iff_getElem]
  exact ⟨hk, h2, fun j hj => by rw [h1 j hj]; simp⟩
 unfold stI
 rw [this]
theorem stI_none {t : Int} {l : List (Int × Int)} (h : ∀ j (h : j < l.length), inB t l[j].1 l[j].2 = false) : stI t l = -1 := by
 have : l.findIdx? (fun x => inB t x.1 x.2) = none := by
  rw [List.findIdx?_eq_none_iff]
  intro x hx
  obtain ⟨j, hj, rfl⟩ := List.getElem_of_mem hx
  rw [h j hj]
 unfold stI
 rw [this]
abbrev rgsD (l : List (Int × Int)) : List (List D) := l.map rgD
theorem index_still (t : Int) (l : List (Int × Int)) (hl : l.length ≤ 1000) : Bor tb Try.prog 86 [.d (.seq (rgsD l)), .fn (.func 82) [] [.ref 0 0]] [intO t] 2 (.d (dI (stI t l))) [(0, intO t)] := by
 have hm : ((rgsD l).length : Int) = l.length := by rw [List.length_map]
 refine bor_of pg Try.func86 (by kernel_rfl) ?_
 conv => whnf
 (repeat' (first | (apply kT (by with_reducible first | rfl | assumption); conv => whnf) | (apply kF (by with_reducible first | rfl | assumption); conv => whnf) | (apply kT (by decide); conv => whnf) | (apply kF (by decide); conv => whnf) | (apply kB <;> intro _ <;> conv => whnf) | fail))
 refine ⟨[], [0, 1, 7, 8], [0], 1, fun m s => ∃ k : Nat, k + m = l.length ∧ (∀ j (h : j < k) (h2 : j < l.length), inB t l[j].1 l[j].2 = false) ∧ s = ⟨[(0, .d (.seq (rgsD l))), (1, .fn (.func 82) [] [.ref 0 0]), (7, .d (dI ((rgsD l).length : Nat))), (8, .d (dI k))], [(0, intO t)], 1⟩, ?_, ?_⟩
 ·conv => whnf
  exact ⟨l.length, 0, by omega, fun j h => by omega, rfl⟩
 ·rintro m _ ⟨k, hk, hno, rfl⟩
  by_cases hkl : k < l.length
  ·have f1 : decide ((k : Int) < ((rgsD l).length : Int)) = true := decide_eq_true (by rw [hm]; omega)
   have hg : (rgsD l)[k]? = some (rgD l[k]) := by rw [List.getElem?_map, List.getElem?_eq_getElem hkl]; rfl
   have w1k : IntKind.i64.wrap ((k : Int) + 1) = ((k + 1 : Nat) : Int) := by rw [wrapI (by omega) (by omega)]; rfl
   have cs := still_bor t l[k]
   by_cases he : inB t l[k].1 l[k].2 = true
   ·have e := stI_at hkl (fun j hj => hno j hj (by omega)) he
    rw [e]
    rw [he] at cs
    conv => whnf
    (repeat' (first | (apply kT (by with_reducible first | rfl | assumption); conv => whnf) | (apply kF (by with_reducible first | rfl | assumption); conv => whnf) | (apply kT (by decide); conv => whnf) | (apply kF (by decide); conv => whnf) | (apply kB <;> intro _ <;> conv => whnf) | fail))
    (refine ⟨k, _, rfl, hg, rfl, ?_⟩; conv => whnf)
    (refine .inr ⟨[0], 2, _, _, cs, ?_⟩; conv => whnf)
    (repeat' (first | (apply kT (by with_reducible first | rfl | assumption); conv => whnf) | (apply kF (by with_reducible first | rfl | assumption); conv => whnf) | (apply kT (by decide); conv => whnf) | (apply kF (by decide); conv => whnf) | (apply kB <;> intro _ <;> conv => whnf) | fail))
    (refine ⟨[], [0], ?_⟩; conv => whnf)
    exact ⟨rfl, rfl⟩
   ·have he := (Bool.not_eq_true _).mp he
    rw [he] at cs
    conv => whnf
    (repeat' (first | (apply kT (by with_reducible first | rfl | assumption); conv => whnf) | (apply kF (by with_reducible first | rfl | assumption); conv => whnf) | (apply kT (by decide); conv => whnf) | (apply kF (by decide); conv => whnf) | (apply kB <;> intro _ <;> conv => whnf) | fail))
    (refine ⟨k, _, rfl, hg, rfl, ?_⟩; conv => whnf)
    (refine .inr ⟨[0], 2, _, _, cs, ?_⟩; conv => whnf)
    (repeat' (first | (apply kT (by with_reducible first | rfl | assumption); conv => whnf) | (apply kF (by with_reducible first | rfl | assumption); conv => whnf) | (apply kT (by decide); conv => whnf) | (apply kF (by decide); conv => whnf) | (apply kB <;> intro _ <;> conv => whnf) | fail))
    refine ⟨m - 1, by omega, k + 1, by omega, fun j hj hjl => ?_, ?_⟩
    ·by_cases h : j < k
     ·exact hno j h hjl
     ·have : j = k := by omega
      subst this
      exact he
    ·rw [w1k]
  ·have f1 : decide ((k : Int) < ((rgsD l).length : Int)) = false := decide_eq_false (by rw [hm]; omega)
   have e := stI_none (t := t) (l := l) fun j hj => hno j (by omega) hj
   rw [e]
   conv => whnf
   (repeat' (first | (apply kT (by with_reducible first | rfl | assumption); conv => whnf) | (apply kF (by with_reducible first | rfl | assumption); conv => whnf) | (apply kT (by decide); conv => whnf) | (apply kF (by decide); conv => whnf) | (apply kB <;> intro _ <;> conv => whnf) | fail))
   (refine ⟨[], [0], ?_⟩; conv => whnf)
   exact ⟨rfl, rfl⟩
theorem contains_still (t : Int) (l : List (Int × Int)) (hl : l.length ≤ 1000) : Bor tb Try.prog 67 [.d (.seq (rgsD l)), .fn (.func 82) [] [.ref 0 0]] [intO t] 2 (.d (dB (decide (stI t l ≥ 0)))) [(0, intO t)] := by
 have ci := index_still t l hl
 refine bor_of pg Try.func67 (by kernel_rfl) ?_
 conv => whnf
 (repeat' (first | (apply kT (by with_reducible first | rfl | assumption); conv => whnf) | (apply kF (by with_reducible first | rfl | assumption); conv => whnf) | (apply kT (by decide); conv => whnf) | (apply kF (by decide); conv => whnf) | (apply kB <;> intro _ <;> conv => whnf) | fail))
 (refine .inr ⟨[0], 2, _, _, ci, ?_⟩; conv => whnf)
 (repeat' (first | (apply kT (by with_reducible first | rfl | assumption); conv => whnf) | (apply kF (by with_reducible first | rfl | assumption); conv => whnf) | (apply kT (by decide); conv => whnf) | (apply kF (by decide); conv => whnf) | (apply kB <;> intro _ <;> conv => whnf) | fail))
 (refine ⟨[], [0], ?_⟩; conv => whnf)
 exact ⟨rfl, rfl⟩
end Go.Ev.Ytijidghjiaiccaa


set_option linter.unusedVariables false
set_option linter.unusedSimpArgs false
set_option maxRecDepth 100000
namespace Go.Ev.Ytijidghjiaiccaa
open Go.Proofs
attribute [local irreducible] Pure Bor Iter inB
structure Rn where
 (hrs ready : Int)
 (on : List Bool)
abbrev bsD (l : List Bool) : D := .seq (l.map fun b => [dB b])
abbrev rnD (r : Rn) : List D := [dI r.hrs, dI r.ready, bsD r.on]
abbrev rnsD (l : List Rn) : List (List D) := l.map rnD
abbrev msD (l : List (List (Int × Int))) : List (List D) := l.map fun x => [.seq (rgsD x)]
structure Que where
 ms : List (List (Int × Int))
 rs : List Rn
abbrev quD (q : Que) : D := .agg [.seq (msD q.ms), .seq (rnsD q.rs)]
def mayQ (q : Que) (r m h : Nat) : Bool :=
 match q.rs[r]?, q.ms[m]? with
 | some x, some l => ((x.on[m]?).getD false && decide (x.ready ≤ (h : Int))) && !decide (stI h l ≥ 0)
 | _, _ => false
theorem may_pure (q : Que) (r m h : Nat) (hr : r < q.rs.length) (hm : m < q.ms.length) (ho : (q.rs[r]).on.length = q.ms.length) (hl : (q.ms[m]).length ≤ 6) : Pure Try.prog 57 [quD q, dI r, dI m, dI h] (dB (mayQ q r m h)) := by
 have hg1 : (rnsD q.rs)[r]? = some (rnD q.rs[r]) := by rw [List.getElem?_map, List.getElem?_eq_getElem hr]; rfl
 have hg2 : (msD q.ms)[m]? = some [.seq (rgsD q.ms[m])] := by rw [List.getElem?_map, List.getElem?_eq_getElem hm]; rfl
 have hg3 : ((q.rs[r]).on.map fun b => [dB b])[m]? = some [dB ((q.rs[r]).on[m]'(by omega))] := by rw [List.getElem?_map, List.getElem?_eq_getElem (by omega)]; rfl
 have e : mayQ q r m h = (((q.rs[r]).on[m]'(by omega) && decide ((q.rs[r]).ready ≤ (h : Int))) && !decide (stI h q.ms[m] ≥ 0)) := by
  unfold mayQ
  rw [List.getElem?_eq_getElem hr, List.getElem?_eq_getElem hm]
  dsimp only
  rw [List.getElem?_eq_getElem (by omega), Option.getD_some]
 rw [e]
 have cs := contains_still h q.ms[m] (by omega)
 rcases Bool.eq_false_or_eq_true ((q.rs[r]).on[m]'(by omega)) with h1 | h1
 ·rcases Bool.eq_false_or_eq_true (decide ((q.rs[r]).ready ≤ (h : Int))) with h2 | h2
  ·rw [h1, h2, Bool.true_and, Bool.true_and]
   refine pure_of pg Try.func57 (by kernel_rfl) ?_
   conv => whnf
   (repeat' (first | (apply kT (by with_reducible first | rfl | assumption); conv => whnf) | (apply kF (by with_reducible first | rfl | assumption); conv => whnf) | (apply kT (by decide); conv => whnf) | (apply kF (by decide); conv => whnf) | (apply kB <;> intro _ <;> conv => whnf) | (refine ⟨r, _, rfl, hg1, rfl, ?_⟩; conv => whnf) | (refine ⟨m, _, rfl, hg3, rfl, ?_⟩; conv => whnf) | (refine ⟨m, _, rfl, hg2, rfl, ?_⟩; conv => whnf) | (refine .inr ⟨[1], 2, _, _, cs, ?_⟩; conv => whnf) | fail))
   rfl
  ·rw [h1, h2, Bool.true_and, Bool.false_and]
   refine pure_of pg Try.func57 (by kernel_rfl) ?_
   conv => whnf
   (repeat' (first | (apply kT (by with_reducible first | rfl | assumption); conv => whnf) | (apply kF (by with_reducible first | rfl | assumption); conv => whnf) | (apply kT (by decide); conv => whnf) | (apply kF (by decide); conv => whnf) | (apply kB <;> intro _ <;> conv => whnf) | (refine ⟨r, _, rfl, hg1, rfl, ?_⟩; conv => whnf) | (refine ⟨m, _, rfl, hg3, rfl, ?_⟩; conv => whnf) | fail))
   rfl
 ·rw [h1, Bool.false_and, Bool.false_and]
  refine pure_of pg Try.func57 (by kernel_rfl) ?_
  conv => whnf
  (repeat' (first | (apply kT (by with_reducible first | rfl | assumption); conv => whnf) | (apply kF (by with_reducible first | rfl | assumption); conv => whnf) | (apply kT (by decide); conv => whnf) | (apply kF (by decide); conv => whnf) | (apply kB <;> intro _ <;> conv => whnf) | (refine ⟨r, _, rfl, hg1, rfl, ?_⟩; conv => whnf) | (refine ⟨m, _, rfl, hg3, rfl, ?_⟩; conv => whnf) | fail))
  rfl
end Go.Ev.Ytijidghjiaiccaa


set_option linter.unusedVariables false
set_option linter.unusedSimpArgs false
set_option maxRecDepth 100000
namespace Go.Ev.Ytijidghjiaiccaa
open Go.Proofs
attribute [local irreducible] Pure Bor Iter inB
abbrev quO (q : Que) : Ob := .var false 37 [.d (.seq (msD q.ms)), .d (.seq (rnsD q.rs))]
abbrev mE (m : Nat) : List D := [dI m]
structure QOK (q : Que) : Prop where
 ons : ∀ r ∈ q.rs, r.on.length = q.ms.length
 few : ∀ l ∈ q.ms, l.length ≤ 6
 nm : q.ms.length ≤ 4
 n : q.rs.length ≤ 6
def mayN (q : Que) (r h : Nat) : List Nat := (List.range q.ms.length).filter fun m => mayQ q r m h
theorem filt_at {p : Nat → Bool} {n k : Nat} (hk : k < n) (hp : p k = true) : ((List.range n).filter p)[((List.range k).filter p).length]? = some k := by
 have e : List.range n = List.range k ++ (k :: List.range' (k + 1) (n - k - 1)) := by
  rw [List.range_eq_range', List.range_eq_range', show n = k + (n - k) by omega, List.range'_append_1.symm]
  congr 1
  ·rw [show k + (n - k) - k - 1 = n - k - 1 by omega, show n - k = (n - k - 1) + 1 by omega, List.range'_succ]
   simp
 rw [e, List.filter_append, List.filter_cons, if_pos hp, List.getElem?_append_right (Nat.le_refl _), Nat.sub_self]
 rfl
theorem filt_succ (p : Nat → Bool) (k : Nat) : (List.range (k + 1)).filter p = (List.range k).filter p ++ (if p k = true then [k] else []) := by
 rw [List.range_succ, List.filter_append, List.filter_cons, List.filter_nil]
theorem machines_iter (q : Que) (hq : QOK q) (r h : Nat) (hr : r < q.rs.length) (hh : h ≤ 40) (t : Nat) :
  Iter tb Try.prog 102 [.own 0, .ref 1 0, .ref 2 0, .ref 3 0] [quO q, intO r, intO h] ((mayN q r h).map mE) t [(1, quO q), (2, intO r), (3, intO h)] := by
 obtain ⟨els, hels⟩ : ∃ els, els = (mayN q r h).map mE := ⟨_, rfl⟩
 have hlen : els.length = ((List.range q.ms.length).filter fun m => mayQ q r m h).length := by rw [hels, List.length_map]; rfl
 have hel : ∀ k, k < q.ms.length → mayQ q r k h = true → els[((List.range k).filter fun m => mayQ q r m h).length]? = some (mE k) := fun k hk hp => by
  rw [hels, List.getElem?_map]
  unfold mayN
  rw [filt_at (p := fun m => mayQ q r m h) hk hp]
  rfl
 have hm : ((msD q.ms).length : Int) = q.ms.length := by rw [List.length_map]
 obtain ⟨n, hn⟩ : ∃ n, n = min (t + 1) els.length := ⟨_, rfl⟩
 have hnm := hq.nm
 rw [← hels]
 refine iter_of pg Try.func102 (by kernel_rfl) ?_
 rw [← hn]
 conv => whnf
 refine ⟨[], [0, 1, 2, 3, 5, 11, 12], [0, 1, 2, 3], 4, fun m s => ∃ k : Nat, k + m = q.ms.length ∧ ((List.range k).filter fun m => mayQ q r m h).length ≤ t ∧ s = ⟨[(0, .own 0), (1, .ref 1 0), (2, .ref 2 0), (3, .ref 3 0), (5, .d (.fn (.func 57) [quD q] [])), (11, .d (dI (msD q.ms).length)), (12, .d (dI k))], [(0, .env ((List.range k).filter fun m => mayQ q r m h).length), (1, quO q), (2, intO r), (3, intO h)], 4⟩, ?_, ?_⟩
 ·conv => whnf
  exact ⟨q.ms.length, 0, by omega, Nat.zero_le _, rfl⟩
 ·rintro m _ ⟨k, hk, hkt, rfl⟩
  by_cases hkl : k < q.ms.length
  ·have f1 : decide ((k : Int) < ((msD q.ms).length : Int)) = true := decide_eq_true (by rw [hm]; omega)
   have cm := may_pure q r k h hr hkl (hq.ons _ (List.getElem_mem hr)) (hq.few _ (List.getElem_mem hkl))
   have hs := filt_succ (fun m => mayQ q r m h) k
   have w1k : IntKind.i64.wrap ((k : Int) + 1) = ((k + 1 : Nat) : Int) := by rw [wrapI (by omega) (by omega)]; rfl
   generalize hj : ((List.range k).filter fun m => mayQ q r m h).length = j at *
   cases hp : mayQ q r k h with
   | false =>
    rw [if_neg (by rw [hp]; simp), List.append_nil] at hs
    rw [hp] at cm
    conv => whnf
    (repeat' (first | (apply kT (by with_reducible first | rfl | assumption); conv => whnf) | (apply kF (by with_reducible first | rfl | assumption); conv => whnf) | (apply kT (by decide); conv => whnf) | (apply kF (by decide); conv => whnf) | (apply kB <;> intro _ <;> conv => whnf) | (refine .inl ⟨_, cm, ?_⟩; conv => whnf) | fail))
    refine ⟨m - 1, by omega, k + 1, by omega, by rw [hs, hj]; exact hkt, ?_⟩
    rw [w1k, hs, hj]
   | true =>
    rw [if_pos (by rw [hp])] at hs
    rw [hp] at cm
    have hs2 : ((List.range (k + 1)).filter fun m => mayQ q r m h).length = j + 1 := by rw [hs, List.length_append, hj]; rfl
    have hek := hel k hkl hp
    rw [hj] at hek
    by_cases hjt : j < t
    ·have g1 : (!decide (j < t)) = false := by rw [decide_eq_true hjt]; rfl
     conv => whnf
     (repeat' (first | (apply kT (by with_reducible first | rfl | assumption); conv => whnf) | (apply kF (by with_reducible first | rfl | assumption); conv => whnf) | (apply kT (by decide); conv => whnf) | (apply kF (by decide); conv => whnf) | (apply kB <;> intro _ <;> conv => whnf) | (refine .inl ⟨_, cm, ?_⟩; conv => whnf) | fail))
     (refine ⟨decide (j < t), ⟨hkt, hek, rfl⟩, ?_⟩; conv => whnf)
     (repeat' (first | (apply kT (by with_reducible first | rfl | assumption); conv => whnf) | (apply kF (by with_reducible first | rfl | assumption); conv => whnf) | (apply kT (by decide); conv => whnf) | (apply kF (by decide); conv => whnf) | (apply kB <;> intro _ <;> conv => whnf) | fail))
     refine ⟨m - 1, by omega, k + 1, by omega, by rw [hs2]; omega, ?_⟩
     rw [w1k, hs2]
    ·have g1 : (!decide (j < t)) = true := by rw [decide_eq_false hjt]; rfl
     have hjl : j < els.length := (List.getElem?_eq_some_iff.1 hek).1
     have e : j + 1 = n := by rw [hn]; omega
     conv => whnf
     (repeat' (first | (apply kT (by with_reducible first | rfl | assumption); conv => whnf) | (apply kF (by with_reducible first | rfl | assumption); conv => whnf) | (apply kT (by decide); conv => whnf) | (apply kF (by decide); conv => whnf) | (apply kB <;> intro _ <;> conv => whnf) | (refine .inl ⟨_, cm, ?_⟩; conv => whnf) | fail))
     (refine ⟨decide (j < t), ⟨hkt, hek, rfl⟩, ?_⟩; conv => whnf)
     (repeat' (first | (apply kT (by with_reducible first | rfl | assumption); conv => whnf) | (apply kF (by with_reducible first | rfl | assumption); conv => whnf) | (apply kT (by decide); conv => whnf) | (apply kF (by decide); conv => whnf) | (apply kB <;> intro _ <;> conv => whnf) | fail))
     (refine ⟨[0, 1, 2, 3], ?_⟩; conv => whnf)
     rw [e]
  ·have f1 : decide ((k : Int) < ((msD q.ms).length : Int)) = false := decide_eq_false (by rw [hm]; omega)
   have ek : k = q.ms.length := by omega
   conv => whnf
   (apply kF (f1); conv => whnf)
   (refine ⟨[0, 1, 2, 3], ?_⟩; conv => whnf)
   have e : ((List.range k).filter fun m => mayQ q r m h).length = n := by rw [hn, hlen, ← ek]; omega
   rw [e]
theorem machines_bor (q : Que) (r h : Nat) : Bor tb Try.prog 99 [quD q |> .d, .d (dI r), .d (dI h)] [] 3 (.fn (.func 102) [] [.ref 0 0, .ref 1 0, .ref 2 0]) [(0, quO q), (1, intO r), (2, intO h)] := by
 refine bor_of pg Try.func99 (by kernel_rfl) ?_
 conv => whnf
 (repeat' (first | (apply kT (by with_reducible first | rfl | assumption); conv => whnf) | (apply kF (by with_reducible first | rfl | assumption); conv => whnf) | (apply kT (by decide); conv => whnf) | (apply kF (by decide); conv => whnf) | (apply kB <;> intro _ <;> conv => whnf) | fail))
 (refine ⟨[], [0, 1, 2], ?_⟩; conv => whnf)
 exact ⟨rfl, rfl⟩
end Go.Ev.Ytijidghjiaiccaa


set_option linter.unusedVariables false
set_option linter.unusedSimpArgs false
set_option maxRecDepth 100000
namespace Go.Ev.Ytijidghjiaiccaa
open Go.Proofs
attribute [local irreducible] Pure Bor Iter inB
abbrev quQ (q : Que) : Qu := ⟨q.ms.length, q.rs.length, fun r m h => mayQ q r m h⟩
abbrev layQ (q : Que) (i : Nat) : Ob := layO (msD q.ms) (rnsD q.rs) i
theorem getE' {l : List Nat} {i : Nat} {ds : List D} (h : (l.map mE)[i]? = some ds) : ∃ hi : i < l.length, ds = mE l[i] := by
 rw [List.getElem?_map] at h
 obtain ⟨m, hm, rfl⟩ := Option.map_eq_some_iff.1 h
 obtain ⟨hi, rfl⟩ := List.getElem?_eq_some_iff.1 hm
 exact ⟨hi, rfl⟩
theorem cell_row {P : Pl} (hP : ∀ row ∈ P, row.length = 4) {h m : Nat} (hh : h < P.length) (hm : m < 4) : ∃ x0 x1 x2 x3, (rowsD P)[h]? = some [dI x0, dI x1, dI x2, dI x3] ∧ [dI x0, dI x1, dI x2, dI x3][0 + m * 1]? = some (dI (cellP P h m)) := by
 have hrow : P[h].length = 4 := hP _ (List.getElem_mem hh)
 have hg : (rowsD P)[h]? = some (P[h].map fun x => dI x) := by rw [List.getElem?_map, List.getElem?_eq_getElem hh]; rfl
 have hc : (P[h].map fun x => dI x)[0 + m * 1]? = some (dI (cellP P h m)) := by
  unfold cellP
  rw [List.getElem?_map, Nat.zero_add, Nat.mul_one, List.getElem?_eq_getElem hh, Option.getD_some, List.getElem?_eq_getElem (by omega), Option.getD_some]; rfl
 obtain ⟨x0, x1, x2, x3, hx⟩ : ∃ x0 x1 x2 x3, P[h] = [x0, x1, x2, x3] := by
  match hq : P[h], hrow with
  | [x0, x1, x2, x3], _ => exact ⟨x0, x1, x2, x3, rfl⟩
 rw [hx] at hg hc
 exact ⟨x0, x1, x2, x3, hg, hc⟩
def skL (q : Que) (P : Pl) (r h i : Nat) : List Nd := (((mayN q r h).take i).filter fun m => cellP P h m != (r : Int)).map fun m : Nat => ((-1, (m : Int), (h : Int)) : Nd)
theorem skL_succ (q : Que) (P : Pl) (r h : Nat) {i : Nat} (hi : i < (mayN q r h).length) : skL q P r h (i + 1) = skL q P r h i ++ (if (cellP P h (mayN q r h)[i] != (r : Int)) = true then [(-1, ((mayN q r h)[i] : Int), (h : Int))] else []) := by
 unfold skL
 rw [List.take_add_one, List.getElem?_eq_getElem hi, List.filter_append, List.map_append]
 congr 1
 rw [Option.toList_some, List.filter_cons, List.filter_nil]
 split <;> rfl
theorem mayN_lt {q : Que} {r h m : Nat} (hm : m ∈ mayN q r h) : m < q.ms.length := List.mem_range.1 (List.mem_filter.1 hm).1
theorem mayN_len (q : Que) (r h : Nat) : (mayN q r h).length ≤ q.ms.length := by
 have := List.length_filter_le (fun m => mayQ q r m h) (List.range q.ms.length)
 rwa [List.length_range] at this
theorem skL_len (q : Que) (P : Pl) (r h i : Nat) : (skL q P r h i).length ≤ (mayN q r h).length := by
 unfold skL
 rw [List.length_map]
 refine Nat.le_trans (List.length_filter_le _ _) ?_
 rw [List.length_take]
 omega
attribute [local irreducible] skL mayN
end Go.Ev.Ytijidghjiaiccaa


set_option linter.unusedVariables false
set_option linter.unusedSimpArgs false
set_option maxRecDepth 100000
namespace Go.Ev.Ytijidghjiaiccaa
open Go.Proofs
def mpE (bs : List (Nd × Nd)) : List (D × D) := bs.map fun p => (.agg (ndD p.1), .agg (ndD p.2))
theorem keyEq_nd (a b : Nd) : keyEq (.agg (ndD a)) (.agg (ndD b)) = decide (a = b) := by
 obtain ⟨a1, a2, a3⟩ := a
 obtain ⟨b1, b2, b3⟩ := b
 show (match eqC [dI a1, dI a2, dI a3] [dI b1, dI b2, dI b3] with | some q => q | none => false) = _
 have : eqC [dI a1, dI a2, dI a3] [dI b1, dI b2, dI b3] = some (a1 == b1 && (a2 == b2 && (a3 == b3 && true))) := rfl
 rw [this]
 simp only [Prod.mk.injEq, Bool.and_true]
 by_cases h1 : a1 = b1 <;> by_cases h2 : a2 = b2 <;> by_cases h3 : a3 = b3 <;> simp [h1, h2, h3]
theorem mapGet_look : ∀ (bs : List (Nd × Nd)) (n : Nd), mapGet (mpE bs) (.agg (ndD n)) = (look bs n).map fun b => D.agg (ndD b)
 | [], n => rfl
 | p :: r, n => by
  have ih := mapGet_look r n
  show (bif keyEq (.agg (ndD n)) (.agg (ndD p.1)) then some (.agg (ndD p.2)) else mapGet (mpE r) (.agg (ndD n))) = _
  rw [keyEq_nd, look, ih]
  by_cases h : n = p.1
  ·rw [decide_eq_true h, cond_true, if_pos h]; rfl
  ·rw [decide_eq_false h, cond_false, if_neg h]
theorem mapSet_new : ∀ (bs : List (Nd × Nd)) (n b : Nd), look bs n = none → mapSet (mpE bs) (.agg (ndD n)) (.agg (ndD b)) = mpE (bs ++ [(n, b)])
 | [], n, b, _ => rfl
 | p :: r, n, b, h => by
  rw [look] at h
  split at h
  ·cases h
  ·rename_i hne
   have ih := mapSet_new r n b h
   show (bif keyEq (.agg (ndD n)) (.agg (ndD p.1)) then _ else (D.agg (ndD p.1), D.agg (ndD p.2)) :: mapSet (mpE r) (.agg (ndD n)) (.agg (ndD b))) = _
   rw [keyEq_nd, decide_eq_false hne, cond_false, ih]
   rfl
abbrev eqN (a b : Nd) : Bool := a.1 == b.1 && (a.2.1 == b.2.1 && (a.2.2 == b.2.2 && true))
theorem eqN_iff {a b : Nd} : eqN a b = true ↔ a = b := by
 obtain ⟨a1, a2, a3⟩ := a
 obtain ⟨b1, b2, b3⟩ := b
 show (a1 == b1 && (a2 == b2 && (a3 == b3 && true))) = true ↔ _
 simp only [Prod.mk.injEq, Bool.and_true, Bool.and_eq_true, beq_iff_eq]
theorem change_end {bs : List (Nd × Nd)} {f : Nat} {P : Pl} {n : Nd} (h : look bs n = some n) : changeL bs (f + 1) P n = P := by rw [changeL, h]; simp
theorem change_step {bs : List (Nd × Nd)} {f : Nat} {P : Pl} {n b : Nd} (h : look bs n = some b) (hn : n ≠ b) : changeL bs (f + 1) P n = changeL bs f (stepP P n b) b := by rw [changeL, h]; simp [hn]
theorem setP_rowsD {P : Pl} {h m : Nat} {x x0 x1 x2 x3 : Int} (hh : h < P.length) (hm : m < 4) (hg : (rowsD P)[h]? = some [dI x0, dI x1, dI x2, dI x3]) :
  (rowsD P).set h (([dI x0, dI x1, dI x2, dI x3] : List D).take (0 + m * 1) ++ [dI x] ++ ([dI x0, dI x1, dI x2, dI x3] : List D).drop (0 + m * 1 + [dI x].length)) = rowsD (setP P h m x) := by
 have hr : P[h].map (fun x => dI x) = [dI x0, dI x1, dI x2, dI x3] := by
  rw [List.getElem?_map, List.getElem?_eq_getElem hh] at hg
  exact Option.some.inj hg
 have hs : ∀ l : List D, m < l.length → l.take (0 + m * 1) ++ [dI x] ++ l.drop (0 + m * 1 + [dI x].length) = l.set m (dI x) := fun l hl => by
  rw [Nat.zero_add, Nat.mul_one, List.set_eq_take_append_cons_drop, if_pos hl, List.append_assoc]; rfl
 rw [hs [dI x0, dI x1, dI x2, dI x3] (show m < 4 from hm), ← hr]
 unfold setP rowsD
 rw [List.getElem?_eq_getElem hh, Option.getD_some, List.map_set, List.map_set]
attribute [local irreducible] Pure Bor Iter inB mpE changeL stepP kindN
abbrev mpO (bs : List (Nd × Nd)) : Ob := .map 136 136 (mpE bs)
theorem change_bor (q : Que) (hq : QOK q) (bs : List (Nd × Nd)) (s : Nd) (H : Nat) (hH : H ≤ 40) : ∀ (P : Pl) (l : List Nd) (n : Nd) (f : Nat), P.length = H → (∀ row ∈ P, row.length = 4) → Way bs s l n → (∀ x ∈ n :: l, Ok (quQ q) H x) → l.length < f →
  Bor tb Try.prog 76 [.ref 0 0, .d (.agg (ndD n)), .own 2] [layQ q 1, planO P, mpO bs] 4 (.d (.tup [])) [(0, layQ q 1), (1, planO (changeL bs f P n)), (2, mpO bs)] := by
 intro P l n f hPl hP hw hok hf
 have hnm := hq.nm
 have hqn := hq.n
 refine bor_of pg Try.func76 (by kernel_rfl) ?_
 conv => whnf
 refine ⟨[], [0, 2, 4], [0, 1, 2, 3], 4, fun j t => ∃ (P' : Pl) (l' : List Nd) (n' : Nd) (f' : Nat), l'.length = j ∧ P'.length = H ∧ (∀ row ∈ P', row.length = 4) ∧ Way bs s l' n' ∧ (∀ x ∈ n' :: l', Ok (quQ q) H x) ∧ j < f' ∧ changeL bs f P n = changeL bs f' P' n' ∧
  t = ⟨[(0, .ref 0 0), (2, .own 2), (4, .ref 3 0)], [(0, layQ q 1), (1, planO P'), (2, mpO bs), (3, ndO n')], 4⟩, ?_, ?_⟩
 ·conv => whnf
  exact ⟨l.length, P, l, n, f, rfl, hPl, hP, hw, hok, hf, rfl, rfl⟩
 ·rintro j _ ⟨P', l', n', f', hj, hPl', hP', hw', hok', hf', hch, rfl⟩
  obtain ⟨f'', rfl⟩ : ∃ f'', f' = f'' + 1 := ⟨f' - 1, by omega⟩
  have hmg := mapGet_look bs n'
  cases hw' with
  | start h =>
   rw [change_end h] at hch
   rw [h] at hmg
   have g1 : (!eqN s s) = false := by rw [eqN_iff.2 rfl]; rfl
   rw [hch]
   conv => whnf
   (repeat' (first | (apply kT (by with_reducible first | rfl | assumption); conv => whnf) | (apply kF (by with_reducible first | rfl | assumption); conv => whnf) | (apply kT (by decide); conv => whnf) | (apply kF (by decide); conv => whnf) | (apply kB <;> intro _ <;> conv => whnf) | (refine ⟨_, hmg, ?_⟩; conv => whnf) | (refine ⟨rfl, rfl, _, rfl, ?_⟩; conv => whnf) | fail))
   (refine ⟨[], [0, 1, 2], ?_⟩; conv => whnf)
   exact ⟨rfl, rfl⟩
  | step w h hns hnot =>
   rename_i l'' p
   have hne : n' ≠ p := fun e => hnot (by rw [e]; exact List.mem_cons_self)
   rw [change_step h hne] at hch
   rw [h] at hmg
   have g1 : (!eqN n' p) = true := by
    cases e : eqN n' p with
    | false => rfl
    | true => exact absurd (eqN_iff.1 e) hne
   have ck := kind_pure n'
   have ckp := kind_pure p
   rw [List.length_cons] at hj
   have hok2 : ∀ x ∈ p :: l'', Ok (quQ q) H x := fun x hx => hok' x (List.mem_cons_of_mem _ hx)
   rcases hok' n' List.mem_cons_self with ⟨x, hx, rfl⟩ | ⟨x, h', hx, hh, rfl⟩ | ⟨m, h', hm, hh, rfl⟩
   ·-- a run
    have k0 := kind0 (x : Int)
    rw [k0] at ck
    conv => whnf
    (repeat' (first | (apply kT (by with_reducible first | rfl | assumption); conv => whnf) | (apply kF (by with_reducible first | rfl | assumption); conv => whnf) | (apply kT (by decide); conv => whnf) | (apply kF (by decide); conv => whnf) | (apply kB <;> intro _ <;> conv => whnf) | (refine .inl ⟨_, ck, ?_⟩; conv => whnf) | (refine .inl ⟨_, ckp, ?_⟩; conv => whnf) | (refine ⟨_, hmg, ?_⟩; conv => whnf) | fail))
    refine ⟨j - 1, by omega, P', l'', _, f'', by omega, hPl', hP', w, hok2, by omega, ?_, rfl⟩
    rw [hch]
    congr 1
    unfold stepP
    rw [k0]
    simp
   ·-- a run at an hour
    have k1 := kind1 (x : Int) h'
    rw [k1] at ck
    rcases hok2 p List.mem_cons_self with ⟨y, hy, rfl⟩ | ⟨y, h2, hy, hh2, rfl⟩ | ⟨m, h2, hm, hh2, rfl⟩
    ·have kp := kind0 (y : Int)
     rw [kp] at ckp
     conv => whnf
     (repeat' (first | (apply kT (by with_reducible first | rfl | assumption); conv => whnf) | (apply kF (by with_reducible first | rfl | assumption); conv => whnf) | (apply kT (by decide); conv => whnf) | (apply kF (by decide); conv => whnf) | (apply kB <;> intro _ <;> conv => whnf) | (refine .inl ⟨_, ck, ?_⟩; conv => whnf) | (refine .inl ⟨_, ckp, ?_⟩; conv => whnf) | (refine ⟨_, hmg, ?_⟩; conv => whnf) | fail))
     refine ⟨j - 1, by omega, P', l'', _, f'', by omega, hPl', hP', w, hok2, by omega, ?_, rfl⟩
     rw [hch]
     congr 1
     unfold stepP
     rw [k1, kp]
     simp
    ·have kp := kind1 (y : Int) h2
     rw [kp] at ckp
     conv => whnf
     (repeat' (first | (apply kT (by with_reducible first | rfl | assumption); conv => whnf) | (apply kF (by with_reducible first | rfl | assumption); conv => whnf) | (apply kT (by decide); conv => whnf) | (apply kF (by decide); conv => whnf) | (apply kB <;> intro _ <;> conv => whnf) | (refine .inl ⟨_, ck, ?_⟩; conv => whnf) | (refine .inl ⟨_, ckp, ?_⟩; conv => whnf) | (refine ⟨_, hmg, ?_⟩; conv => whnf) | fail))
     refine ⟨j - 1, by omega, P', l'', _, f'', by omega, hPl', hP', w, hok2, by omega, ?_, rfl⟩
     rw [hch]
     congr 1
     unfold stepP
     rw [k1, kp]
     simp
    ·have kp := kind2 (-1) m h2
     rw [kp] at ckp
     have hm4 : m < 4 := Nat.lt_of_lt_of_le hm hnm
     obtain ⟨x0, x1, x2, x3, hg, hc⟩ := cell_row hP' (h := h') (m := m) (by omega) hm4
     have hset := setP_rowsD (x := -1) (by omega) hm4 hg
     have hst : stepP P' ((x : Int), -1, (h' : Int)) (-1, (m : Int), (h2 : Int)) = setP P' h' m (-1) := by
      unfold stepP
      rw [k1, kp]
      simp
     rw [hst] at hch
     conv => whnf
     (repeat' (first | (apply kT (by with_reducible first | rfl | assumption); conv => whnf) | (apply kF (by with_reducible first | rfl | assumption); conv => whnf) | (apply kT (by decide); conv => whnf) | (apply kF (by decide); conv => whnf) | (apply kB <;> intro _ <;> conv => whnf) | (refine .inl ⟨_, ck, ?_⟩; conv => whnf) | (refine .inl ⟨_, ckp, ?_⟩; conv => whnf) | (refine ⟨_, hmg, ?_⟩; conv => whnf) | (refine ⟨h', rfl, by rw [List.length_map]; omega, ?_⟩; conv => whnf) | (refine ⟨m, rfl, hm4, ?_⟩; conv => whnf) | fail))
     (refine ⟨_, hg, rfl, by show 0 + m * 1 + 1 ≤ 4; omega, _, hset, ?_⟩; conv => whnf)
     (repeat' (first | (apply kT (by with_reducible first | rfl | assumption); conv => whnf) | (apply kF (by with_reducible first | rfl | assumption); conv => whnf) | (apply kT (by decide); conv => whnf) | (apply kF (by decide); conv => whnf) | (apply kB <;> intro _ <;> conv => whnf) | fail))
     refine ⟨j - 1, by omega, setP P' h' m (-1), l'', _, f'', by omega, by rw [setP_len]; exact hPl', setP_rows (by omega) hP', w, hok2, by omega, hch, rfl⟩
   ·-- a machine of an hour
    have k2 := kind2 (-1) m h'
    rw [k2] at ck
    have hm4 : m < 4 := Nat.lt_of_lt_of_le hm hnm
    obtain ⟨x0, x1, x2, x3, hg, hc⟩ := cell_row hP' (h := h') (m := m) (by omega) hm4
    have hset := setP_rowsD (x := p.1) (by omega) hm4 hg
    have hst : stepP P' (-1, (m : Int), (h' : Int)) p = setP P' h' m p.1 := by
     unfold stepP
     rw [k2]
     simp
    rw [hst] at hch
    conv => whnf
    (repeat' (first | (apply kT (by with_reducible first | rfl | assumption); conv => whnf) | (apply kF (by with_reducible first | rfl | assumption); conv => whnf) | (apply kT (by decide); conv => whnf) | (apply kF (by decide); conv => whnf) | (apply kB <;> intro _ <;> conv => whnf) | (refine .inl ⟨_, ck, ?_⟩; conv => whnf) | (refine .inl ⟨_, ckp, ?_⟩; conv => whnf) | (refine ⟨_, hmg, ?_⟩; conv => whnf) | (refine ⟨h', rfl, by rw [List.length_map]; omega, ?_⟩; conv => whnf) | (refine ⟨m, rfl, hm4, ?_⟩; conv => whnf) | fail))
    (refine ⟨_, hg, rfl, by show 0 + m * 1 + 1 ≤ 4; omega, _, hset, ?_⟩; conv => whnf)
    (repeat' (first | (apply kT (by with_reducible first | rfl | assumption); conv => whnf) | (apply kF (by with_reducible first | rfl | assumption); conv => whnf) | (apply kT (by decide); conv => whnf) | (apply kF (by decide); conv => whnf) | (apply kB <;> intro _ <;> conv => whnf) | fail))
    refine ⟨j - 1, by omega, setP P' h' m p.1, l'', _, f'', by omega, by rw [setP_len]; exact hPl', setP_rows (by omega) hP', w, hok2, by omega, hch, rfl⟩
end Go.Ev.Ytijidghjiaiccaa


set_option linter.unusedVariables false
set_option linter.unusedSimpArgs false
set_option maxRecDepth 100000
namespace Go.Ev.Ytijidghjiaiccaa
open Go.Proofs
attribute [local irreducible] Pure Bor Iter inB skL mayN
abbrev lvD (q : Que) (P : Pl) : D := .iptr [.seq (msD q.ms), .seq (rnsD q.rs), .seq (rowsD P)]
theorem row_at {P : Pl} (hP : ∀ row ∈ P, row.length = 4) {h : Nat} (hh : h < P.length) : ∃ x0 x1 x2 x3, P[h] = [x0, x1, x2, x3] ∧ (rowsD P)[h]? = some [dI x0, dI x1, dI x2, dI x3] := by
 have hrow : P[h].length = 4 := hP _ (List.getElem_mem hh)
 have hg : (rowsD P)[h]? = some (P[h].map fun x => dI x) := by rw [List.getElem?_map, List.getElem?_eq_getElem hh]; rfl
 obtain ⟨x0, x1, x2, x3, hx⟩ : ∃ x0 x1 x2 x3, P[h] = [x0, x1, x2, x3] := by
  match hq : P[h], hrow with
  | [x0, x1, x2, x3], _ => exact ⟨x0, x1, x2, x3, rfl⟩
 rw [hx] at hg
 exact ⟨x0, x1, x2, x3, hx, hg⟩
theorem on_view (q : Que) (P : Pl) (hP : ∀ row ∈ P, row.length = 4) (r : Int) (h : Nat) (hh : h < P.length) : Pure Try.prog 98 [lvD q P, dI r, dI h] (dI (onP P r h)) := by
 obtain ⟨x0, x1, x2, x3, hx, hg⟩ := row_at hP hh
 have hix := index_pure P[h] r (by rw [hx]; show 4 ≤ 1000; omega)
 have e : onP P r h = onL P[h] r := by unfold onP; rw [List.getElem?_eq_getElem hh]; rfl
 rw [e]
 rw [hx] at hix ⊢
 refine pure_of pg Try.func98 (by kernel_rfl) ?_
 conv => whnf
 (repeat' (first | (apply kT (by with_reducible first | rfl | assumption); conv => whnf) | (apply kF (by with_reducible first | rfl | assumption); conv => whnf) | (apply kT (by decide); conv => whnf) | (apply kF (by decide); conv => whnf) | (apply kB <;> intro _ <;> conv => whnf) | (refine ⟨h, _, rfl, hg, rfl, ?_⟩; conv => whnf) | fail))
 (refine ⟨by decide, [[dI x0], [dI x1], [dI x2], [dI x3]], rfl, by simp, rfl, rfl, by show 4 * 1 ≤ 4; omega, ?_⟩; conv => whnf)
 (repeat' (first | (apply kT (by with_reducible first | rfl | assumption); conv => whnf) | (apply kF (by with_reducible first | rfl | assumption); conv => whnf) | (apply kT (by decide); conv => whnf) | (apply kF (by decide); conv => whnf) | (apply kB <;> intro _ <;> conv => whnf) | (refine .inl ⟨_, hix, ?_⟩; conv => whnf) | fail))
 rfl
theorem needs_view (q : Que) (P : Pl) (hP : ∀ row ∈ P, row.length = 4) (hl : P.length ≤ 40) (n : Nd) : Bor tb Try.prog 91 [.d (lvD q P), .d (.agg (ndD n))] [] 1 (.own 0) [(0, .arr 136 ((needsL P n.1).map ndD))] := by
 have hm : ((rowsD P).length : Int) = P.length := by rw [List.length_map]
 refine bor_ofOV pg Try.func91 (by kernel_rfl) ?_
 conv => whnf
 (repeat' (first | (apply kT (by with_reducible first | rfl | assumption); conv => whnf) | (apply kF (by with_reducible first | rfl | assumption); conv => whnf) | (apply kT (by decide); conv => whnf) | (apply kF (by decide); conv => whnf) | (apply kB <;> intro _ <;> conv => whnf) | fail))
 refine ⟨[.own 4 136], [0, 3, 4, 10, 11], [0, 1], 2, fun m s => ∃ k : Nat, k + m = P.length ∧ s = ⟨[(0, .d (lvD q P)), (3, .ref 0 0), (4, .own 1), (10, .d (dI ((rowsD P).length : Nat))), (11, .d (dI k))],
  [(0, ndO n), (1, .arr 136 ((((List.range k).filter fun h => onP P n.1 h == -1).map fun h : Nat => ((n.1, -1, (h : Int)) : Nd)).map ndD))], 2⟩, ?_, ?_⟩
 ·conv => whnf
  exact ⟨P.length, 0, by omega, rfl⟩
 ·rintro m _ ⟨k, hk, rfl⟩
  by_cases hkl : k < P.length
  ·have f1 : decide ((k : Int) < ((rowsD P).length : Int)) = true := decide_eq_true (by rw [hm]; omega)
   have w1k : IntKind.i64.wrap ((k : Int) + 1) = ((k + 1 : Nat) : Int) := by rw [wrapI (by omega) (by omega)]; rfl
   have co := on_view q P hP n.1 k hkl
   have hfl : ((((List.range k).filter fun h => onP P n.1 h == -1).map fun h : Nat => ((n.1, -1, (h : Int)) : Nd)).map ndD).length ≤ k := by
    rw [List.length_map, List.length_map]
    have := List.length_filter_le (fun h => onP P n.1 h == -1) (List.range k)
    rwa [List.length_range] at this
   have hst := filt_succ (fun h => onP P n.1 h == -1) k
   by_cases ho : onP P n.1 k = -1
   ·have f2 : (onP P n.1 k == -1) = true := by rw [ho]; rfl
    rw [if_pos f2] at hst
    conv => whnf
    (repeat' (first | (apply kT (by with_reducible first | rfl | assumption); conv => whnf) | (apply kF (by with_reducible first | rfl | assumption); conv => whnf) | (apply kT (by decide); conv => whnf) | (apply kF (by decide); conv => whnf) | (apply kB <;> intro _ <;> conv => whnf) | (refine .inl ⟨_, co, ?_⟩; conv => whnf) | fail))
    (refine .l ?_; conv => whnf)
    (refine ⟨fun el he => by rw [List.mem_singleton.1 he]; rfl, by show (_ + 1) * 24 ≤ _; omega, ?_⟩; conv => whnf)
    (repeat' (first | (apply kT (by with_reducible first | rfl | assumption); conv => whnf) | (apply kF (by with_reducible first | rfl | assumption); conv => whnf) | (apply kT (by decide); conv => whnf) | (apply kF (by decide); conv => whnf) | (apply kB <;> intro _ <;> conv => whnf) | fail))
    refine ⟨m - 1, by omega, k + 1, by omega, ?_⟩
    rw [hst, w1k, List.map_append, List.map_append]
    rfl
   ·have f2 : (onP P n.1 k == -1) = false := by rw [beq_eq_false_iff_ne]; exact ho
    rw [if_neg (by rw [f2]; simp), List.append_nil] at hst
    conv => whnf
    (repeat' (first | (apply kT (by with_reducible first | rfl | assumption); conv => whnf) | (apply kF (by with_reducible first | rfl | assumption); conv => whnf) | (apply kT (by decide); conv => whnf) | (apply kF (by decide); conv => whnf) | (apply kB <;> intro _ <;> conv => whnf) | (refine .inl ⟨_, co, ?_⟩; conv => whnf) | fail))
    refine ⟨m - 1, by omega, k + 1, by omega, ?_⟩
    rw [hst, w1k]
    rfl
  ·have f1 : decide ((k : Int) < ((rowsD P).length : Int)) = false := decide_eq_false (by rw [hm]; omega)
   have hkP : k = P.length := by omega
   subst hkP
   conv => whnf
   (repeat' (first | (apply kT (by with_reducible first | rfl | assumption); conv => whnf) | (apply kF (by with_reducible first | rfl | assumption); conv => whnf) | (apply kT (by decide); conv => whnf) | (apply kF (by decide); conv => whnf) | (apply kB <;> intro _ <;> conv => whnf) | fail))
   refine ⟨[], [.rex], ?_⟩
   conv => whnf
   (refine ⟨[1], ?_⟩; conv => whnf)
   (refine ⟨[0], ?_⟩; conv => whnf)
   exact ⟨rfl, rfl⟩
theorem taken_view (q : Que) (P : Pl) (hP : ∀ row ∈ P, row.length = 4) (r : Int) (m h : Nat) (hm : m < 4) (hh : h < P.length) : Bor tb Try.prog 93 [.d (lvD q P), .d (.agg (ndD (r, (m : Int), (h : Int))))] [] 1 (.own 0) [(0, .arr 136 ((takenL P m h).map ndD))] := by
 obtain ⟨x0, x1, x2, x3, hg, hc⟩ := cell_row hP hh hm
 rw [Nat.zero_add] at hc
 refine bor_ofOV pg Try.func93 (by kernel_rfl) ?_
 conv => whnf
 (repeat' (first | (apply kT (by with_reducible first | rfl | assumption); conv => whnf) | (apply kF (by with_reducible first | rfl | assumption); conv => whnf) | (apply kT (by decide); conv => whnf) | (apply kF (by decide); conv => whnf) | (apply kB <;> intro _ <;> conv => whnf) | (refine ⟨h, _, rfl, hg, rfl, ?_⟩; conv => whnf) | (refine ⟨m, rfl, hm, ?_⟩; conv => whnf) | (refine ⟨_, hc, ?_⟩; conv => whnf) | fail))
 (refine .r ⟨by decide, ?_⟩; conv => whnf)
 (repeat' (first | (apply kT (by with_reducible first | rfl | assumption); conv => whnf) | (apply kF (by with_reducible first | rfl | assumption); conv => whnf) | (apply kT (by decide); conv => whnf) | (apply kF (by decide); conv => whnf) | (apply kB <;> intro _ <;> conv => whnf) | fail))
 refine ⟨[], [.rex], ?_⟩
 conv => whnf
 (refine ⟨[113], ?_⟩; conv => whnf)
 (refine ⟨[0], ?_⟩; conv => whnf)
 unfold takenL
 exact ⟨rfl, rfl⟩
theorem seeks_view (q : Que) (hq : QOK q) (P : Pl) (hP : ∀ row ∈ P, row.length = 4) (hl : P.length ≤ 40) (r h : Nat) (hr : r < q.rs.length) (hh : h < P.length) :
  Bor tb Try.prog 92 [.d (lvD q P), .d (.agg (ndD ((r : Int), -1, (h : Int))))] [] 1 (.own 0) [(0, .arr 136 ((seeksL (quQ q) P r h).map ndD))] := by
 have cm := machines_bor q r h
 have co := on_view q P hP r h hh
 have hit := machines_iter q hq r h hr (by omega) (mayN q r h).length
 have hnm := hq.nm
 have hml := mayN_len q r h
 have hsk : seeksL (quQ q) P r h = skL q P r h (mayN q r h).length ++ (if onP P r h ≠ -1 then [((r : Int), -1, -1)] else []) := by
  unfold seeksL skL mayN
  rw [List.take_length]
 rw [hsk]
 refine bor_ofOV pg Try.func92 (by kernel_rfl) ?_
 conv => whnf
 (repeat' (first | (apply kT (by with_reducible first | rfl | assumption); conv => whnf) | (apply kF (by with_reducible first | rfl | assumption); conv => whnf) | (apply kT (by decide); conv => whnf) | (apply kF (by decide); conv => whnf) | (apply kB <;> intro _ <;> conv => whnf) | fail))
 (refine .inr ⟨[], 3, _, _, cm, ?_⟩; conv => whnf)
 refine ⟨[67, 68, 69], [2, 3, 4], [0, 1, 2], _, _, _, fun i ob n => i ≤ (mayN q r h).length ∧
  ((skL q P r h i = [] ∧ n = 76 ∧ ob = [(0, .var false 74 [.d (lvD q P)]), (1, ndO ((r : Int), -1, (h : Int))), (2, .var false 138 [.d (.v (.slice none 0 0))])]) ∨
   (skL q P r h i ≠ [] ∧ n = 181 ∧ ob = [(0, .var false 74 [.d (lvD q P)]), (1, ndO ((r : Int), -1, (h : Int))), (2, .var false 138 [.own 180]), (180, .arr 136 ((skL q P r h i).map ndD))])), hit, ?_⟩
 conv => whnf
 refine ⟨⟨Nat.zero_le _, .inl ⟨by unfold skL; rw [List.take_zero]; rfl, rfl, rfl⟩⟩, ?_, ?_⟩
 ·rintro i ds _ _ hi hile ⟨_, hst⟩
  obtain ⟨hil, rfl⟩ := getE' hi
  have hs := skL_succ q P r h hil
  have hm := mayN_lt (List.getElem_mem hil)
  have hskl := skL_len q P r h i
  obtain ⟨x0, x1, x2, x3, hg, hc⟩ := cell_row hP hh (m := (mayN q r h)[i]) (by omega)
  refine ⟨rfl, ?_⟩
  rw [Nat.zero_add] at hc
  generalize (mayN q r h)[i] = mayI at *
  rcases hst with ⟨h0, rfl, rfl⟩ | ⟨h0, rfl, rfl⟩
  ·rcases Bool.eq_false_or_eq_true (cellP P h mayI != (r : Int)) with g1 | g1
   ·rw [if_pos g1] at hs
    conv => whnf
    (repeat' (first | (apply kT (by with_reducible first | rfl | assumption); conv => whnf) | (apply kF (by with_reducible first | rfl | assumption); conv => whnf) | (apply kT (by decide); conv => whnf) | (apply kF (by decide); conv => whnf) | (apply kB <;> intro _ <;> conv => whnf) | (refine ⟨h, _, rfl, hg, rfl, ?_⟩; conv => whnf) | (refine ⟨mayI, rfl, by omega, ?_⟩; conv => whnf) | (refine ⟨_, hc, ?_⟩; conv => whnf) | fail))
    (refine .l ?_; conv => whnf)
    (refine ⟨fun el he => by rw [List.mem_singleton.1 he]; rfl, by simp only [List.length_map, List.length_singleton]; show 1 * 24 ≤ _; omega, ?_⟩; conv => whnf)
    (repeat' (first | (apply kT (by with_reducible first | rfl | assumption); conv => whnf) | (apply kF (by with_reducible first | rfl | assumption); conv => whnf) | (apply kT (by decide); conv => whnf) | (apply kF (by decide); conv => whnf) | (apply kB <;> intro _ <;> conv => whnf) | fail))
    (refine ⟨[0, 1, 2, 180], 181, rfl, ?_⟩; conv => whnf)
    refine ⟨hil, hil, .inr ⟨?_, rfl, ?_⟩⟩
    ·rw [hs]; simp
    ·rw [hs, List.map_append]
     rw [h0]; rfl
   ·rw [if_neg (by rw [g1]; simp), List.append_nil] at hs
    conv => whnf
    (repeat' (first | (apply kT (by with_reducible first | rfl | assumption); conv => whnf) | (apply kF (by with_reducible first | rfl | assumption); conv => whnf) | (apply kT (by decide); conv => whnf) | (apply kF (by decide); conv => whnf) | (apply kB <;> intro _ <;> conv => whnf) | (refine ⟨h, _, rfl, hg, rfl, ?_⟩; conv => whnf) | (refine ⟨mayI, rfl, by omega, ?_⟩; conv => whnf) | (refine ⟨_, hc, ?_⟩; conv => whnf) | fail))
    (refine ⟨[0, 1, 2], 76, rfl, ?_⟩; conv => whnf)
    refine ⟨hil, hil, .inl ⟨by rw [hs]; exact h0, rfl, rfl⟩⟩
  ·rcases Bool.eq_false_or_eq_true (cellP P h mayI != (r : Int)) with g1 | g1
   ·rw [if_pos g1] at hs
    conv => whnf
    (repeat' (first | (apply kT (by with_reducible first | rfl | assumption); conv => whnf) | (apply kF (by with_reducible first | rfl | assumption); conv => whnf) | (apply kT (by decide); conv => whnf) | (apply kF (by decide); conv => whnf) | (apply kB <;> intro _ <;> conv => whnf) | (refine ⟨h, _, rfl, hg, rfl, ?_⟩; conv => whnf) | (refine ⟨mayI, rfl, by omega, ?_⟩; conv => whnf) | (refine ⟨_, hc, ?_⟩; conv => whnf) | fail))
    (refine .l ?_; conv => whnf)
    (refine ⟨fun el he => by rw [List.mem_singleton.1 he]; rfl, by simp only [List.length_map, List.length_singleton]; show (_ + 1) * 24 ≤ _; omega, ?_⟩; conv => whnf)
    (repeat' (first | (apply kT (by with_reducible first | rfl | assumption); conv => whnf) | (apply kF (by with_reducible first | rfl | assumption); conv => whnf) | (apply kT (by decide); conv => whnf) | (apply kF (by decide); conv => whnf) | (apply kB <;> intro _ <;> conv => whnf) | fail))
    (refine ⟨[0, 1, 2, 180], 181, rfl, ?_⟩; conv => whnf)
    refine ⟨hil, hil, .inr ⟨?_, rfl, ?_⟩⟩
    ·rw [hs]; simp
    ·rw [hs, List.map_append]
     rfl
   ·rw [if_neg (by rw [g1]; simp), List.append_nil] at hs
    conv => whnf
    (repeat' (first | (apply kT (by with_reducible first | rfl | assumption); conv => whnf) | (apply kF (by with_reducible first | rfl | assumption); conv => whnf) | (apply kT (by decide); conv => whnf) | (apply kF (by decide); conv => whnf) | (apply kB <;> intro _ <;> conv => whnf) | (refine ⟨h, _, rfl, hg, rfl, ?_⟩; conv => whnf) | (refine ⟨mayI, rfl, by omega, ?_⟩; conv => whnf) | (refine ⟨_, hc, ?_⟩; conv => whnf) | fail))
    (refine ⟨[0, 1, 2, 180], 181, rfl, ?_⟩; conv => whnf)
    refine ⟨hil, hil, .inr ⟨by rw [hs]; exact h0, rfl, ?_⟩⟩
    rw [hs]
    rfl
 ·rintro _ _ _ ⟨_, hst⟩
  rw [List.length_map] at hst
  have hskl := skL_len q P r h (mayN q r h).length
  rcases hst with ⟨h0, rfl, rfl⟩ | ⟨h0, rfl, rfl⟩
  ·rw [h0]
   by_cases ho : onP P r h = -1
   ·have g2 : (onP P r h != -1) = false := by rw [ho]; rfl
    rw [if_neg (by rw [ho]; simp), List.append_nil]
    conv => whnf
    (refine .inl ⟨_, co, ?_⟩; conv => whnf)
    (repeat' (first | (apply kT (by with_reducible first | rfl | assumption); conv => whnf) | (apply kF (by with_reducible first | rfl | assumption); conv => whnf) | (apply kT (by decide); conv => whnf) | (apply kF (by decide); conv => whnf) | (apply kB <;> intro _ <;> conv => whnf) | fail))
    refine ⟨[.cown 2 0 136], [.rex], ?_⟩
    conv => whnf
    (refine ⟨[76, 2], ?_⟩; conv => whnf)
    (refine ⟨[0], ?_⟩; conv => whnf)
    exact ⟨rfl, rfl⟩
   ·have g2 : (onP P r h != -1) = true := by rw [bne_iff_ne]; exact ho
    rw [if_pos ho]
    conv => whnf
    (refine .inl ⟨_, co, ?_⟩; conv => whnf)
    (repeat' (first | (apply kT (by with_reducible first | rfl | assumption); conv => whnf) | (apply kF (by with_reducible first | rfl | assumption); conv => whnf) | (apply kT (by decide); conv => whnf) | (apply kF (by decide); conv => whnf) | (apply kB <;> intro _ <;> conv => whnf) | fail))
    (refine .l ?_; conv => whnf)
    (refine ⟨fun el he => by rw [List.mem_singleton.1 he]; rfl, by simp only [List.length_map, List.length_singleton]; show 1 * 24 ≤ _; omega, ?_⟩; conv => whnf)
    (repeat' (first | (apply kT (by with_reducible first | rfl | assumption); conv => whnf) | (apply kF (by with_reducible first | rfl | assumption); conv => whnf) | (apply kT (by decide); conv => whnf) | (apply kF (by decide); conv => whnf) | (apply kB <;> intro _ <;> conv => whnf) | fail))
    refine ⟨[], [.rex], ?_⟩
    conv => whnf
    (refine ⟨[76, 2], ?_⟩; conv => whnf)
    (refine ⟨[0], ?_⟩; conv => whnf)
    exact ⟨rfl, rfl⟩
  ·generalize skL q P r h (mayN q r h).length = F at *
   by_cases ho : onP P r h = -1
   ·have g2 : (onP P r h != -1) = false := by rw [ho]; rfl
    rw [if_neg (by rw [ho]; simp), List.append_nil]
    conv => whnf
    (refine .inl ⟨_, co, ?_⟩; conv => whnf)
    (repeat' (first | (apply kT (by with_reducible first | rfl | assumption); conv => whnf) | (apply kF (by with_reducible first | rfl | assumption); conv => whnf) | (apply kT (by decide); conv => whnf) | (apply kF (by decide); conv => whnf) | (apply kB <;> intro _ <;> conv => whnf) | fail))
    refine ⟨[], [.rex], ?_⟩
    conv => whnf
    (refine ⟨[180, 2], ?_⟩; conv => whnf)
    (refine ⟨[0], ?_⟩; conv => whnf)
    exact ⟨rfl, rfl⟩
   ·have g2 : (onP P r h != -1) = true := by rw [bne_iff_ne]; exact ho
    rw [if_pos ho]
    conv => whnf
    (refine .inl ⟨_, co, ?_⟩; conv => whnf)
    (repeat' (first | (apply kT (by with_reducible first | rfl | assumption); conv => whnf) | (apply kF (by with_reducible first | rfl | assumption); conv => whnf) | (apply kT (by decide); conv => whnf) | (apply kF (by decide); conv => whnf) | (apply kB <;> intro _ <;> conv => whnf) | fail))
    (refine .l ?_; conv => whnf)
    (refine ⟨fun el he => by rw [List.mem_singleton.1 he]; rfl, by simp only [List.length_map, List.length_singleton]; show (_ + 1) * 24 ≤ _; omega, ?_⟩; conv => whnf)
    (repeat' (first | (apply kT (by with_reducible first | rfl | assumption); conv => whnf) | (apply kF (by with_reducible first | rfl | assumption); conv => whnf) | (apply kT (by decide); conv => whnf) | (apply kF (by decide); conv => whnf) | (apply kB <;> intro _ <;> conv => whnf) | fail))
    refine ⟨[], [.rex], ?_⟩
    conv => whnf
    (refine ⟨[180, 2], ?_⟩; conv => whnf)
    (refine ⟨[0], ?_⟩; conv => whnf)
    rw [List.map_append]; exact ⟨rfl, rfl⟩
end Go.Ev.Ytijidghjiaiccaa


set_option linter.unusedVariables false
set_option linter.unusedSimpArgs false
set_option maxRecDepth 100000
namespace Go.Ev.Ytijidghjiaiccaa
open Go.Proofs
theorem bfs_nil (Q : Qu) (P : Pl) (f : Nat) (bs : List (Nd × Nd)) : bfs Q P f bs [] = none := by cases f <;> rfl
theorem bfs_free {Q : Qu} {P : Pl} {f : Nat} {bs : List (Nd × Nd)} {n : Nd} {todo : List Nd} (h : freeB P n = true) : bfs Q P (f + 1) bs (n :: todo) = some (n, bs) := by rw [bfs, if_pos h]
theorem bfs_go {Q : Qu} {P : Pl} {f : Nat} {bs : List (Nd × Nd)} {n : Nd} {todo : List Nd} (h : freeB P n = false) : bfs Q P (f + 1) bs (n :: todo) = bfs Q P f (visit n (nexts Q P n) bs todo).1 (visit n (nexts Q P n) bs todo).2 := by
 rw [bfs, if_neg (by rw [h]; simp)]
theorem visit_app (n x : Nd) : ∀ (l : List Nd) (bs : List (Nd × Nd)) (todo : List Nd), visit n (l ++ [x]) bs todo = match look (visit n l bs todo).1 x with
  | some _ => visit n l bs todo
  | none => ((visit n l bs todo).1 ++ [(x, n)], (visit n l bs todo).2 ++ [x])
 | [], bs, todo => by rw [List.nil_append, visit, visit, visit]; cases look bs x <;> rfl
 | y :: l, bs, todo => by
  rw [List.cons_append, visit, visit]
  cases look bs y with
  | some p => exact visit_app n x l bs todo
  | none => exact visit_app n x l _ _
theorem visit_len (n : Nd) : ∀ (l : List Nd) (bs : List (Nd × Nd)) (todo : List Nd), (visit n l bs todo).2.length ≤ todo.length + l.length
 | [], bs, todo => Nat.le_refl _
 | y :: l, bs, todo => by
  rw [visit, List.length_cons]
  cases look bs y with
  | some p => have := visit_len n l bs todo; dsimp only; omega
  | none =>
   have := visit_len n l (bs ++ [(y, n)]) (todo ++ [y])
   rw [List.length_append, List.length_singleton] at this
   dsimp only
   omega
theorem visit_take {n : Nd} {xs : List Nd} {i : Nat} (hi : i < xs.length) (bs : List (Nd × Nd)) (todo : List Nd) : visit n (xs.take (i + 1)) bs todo = match look (visit n (xs.take i) bs todo).1 xs[i] with
  | some _ => visit n (xs.take i) bs todo
  | none => ((visit n (xs.take i) bs todo).1 ++ [(xs[i], n)], (visit n (xs.take i) bs todo).2 ++ [xs[i]]) := by
 rw [List.take_add_one, List.getElem?_eq_getElem hi]
 exact visit_app n xs[i] _ bs todo
theorem visit_nil (n : Nd) (bs : List (Nd × Nd)) (todo : List Nd) : visit n [] bs todo = (bs, todo) := rfl
theorem nexts_len {q : Que} (hq : QOK q) {P : Pl} (hl : P.length ≤ 40) (n : Nd) : (nexts (quQ q) P n).length ≤ 100 := by
 have hnm := hq.nm
 unfold nexts
 split
 ·unfold needsL
  rw [List.length_map]
  have := List.length_filter_le (fun h => onP P n.1 h == -1) (List.range P.length)
  rw [List.length_range] at this
  omega
 ·split
  ·unfold seeksL
   rw [List.length_append, List.length_map]
   have h1 := List.length_filter_le (fun m => cellP P n.2.2.toNat m != (n.1.toNat : Int)) ((List.range (quQ q).nm).filter fun m => (quQ q).may n.1.toNat m n.2.2.toNat)
   have h2 := List.length_filter_le (fun m => (quQ q).may n.1.toNat m n.2.2.toNat) (List.range (quQ q).nm)
   rw [List.length_range] at h2
   have h3 : (quQ q).nm = q.ms.length := rfl
   have : ∀ (c : Prop) [Decidable c] (x : Nd), (if c then [x] else []).length ≤ 1 := fun c _ x => by split <;> simp
   have := this (onP P (n.1.toNat : Int) n.2.2.toNat ≠ -1) ((n.1.toNat : Int), -1, -1)
   omega
  ·unfold takenL
   simp
abbrev fnE (k : Nat) : List D := [.fn (.func k) [] []]
theorem steps_pure : Pure Try.prog 77 [] (.seq [fnE 91, fnE 92, fnE 93]) := by
 refine pure_of pg Try.func77 (by kernel_rfl) ?_
 conv => whnf
 (repeat' (first | (apply kT (by with_reducible first | rfl | assumption); conv => whnf) | (apply kF (by with_reducible first | rfl | assumption); conv => whnf) | (apply kT (by decide); conv => whnf) | (apply kF (by decide); conv => whnf) | (apply kB <;> intro _ <;> conv => whnf) | fail))
 (refine .l ?_; conv => whnf)
 rfl
theorem getnd (l : List Nd) (i : Nat) (h : i < l.length) : (l.map ndD)[i]? = some (ndD l[i]) := by simp [h]
theorem ndFlat (l : List Nd) : ∀ el ∈ l.map ndD, ∀ d ∈ el, flatD d = true := fun el h d hd => by
 obtain ⟨n, _, rfl⟩ := List.mem_map.1 h
 simp only [List.mem_cons, List.not_mem_nil, or_false] at hd
 rcases hd with rfl | rfl | rfl <;> rfl
theorem giveL_none {Q : Qu} {P : Pl} {r : Nat} (h : bfs Q P 1436 [((((r : Int), -1, -1) : Nd), (((r : Int), -1, -1) : Nd))] [((r : Int), -1, -1)] = none) : giveL Q P r = (false, P) := by unfold giveL; rw [h]
theorem giveL_some {Q : Qu} {P : Pl} {r : Nat} {n : Nd} {bs : List (Nd × Nd)} (h : bfs Q P 1436 [((((r : Int), -1, -1) : Nd), (((r : Int), -1, -1) : Nd))] [((r : Int), -1, -1)] = some (n, bs)) : giveL Q P r = (true, changeL bs 1436 P n) := by unfold giveL; rw [h]
theorem free2 {P : Pl} (m h : Nat) : freeB P (-1, (m : Int), (h : Int)) = (cellP P h m == -1) := by unfold freeB; rw [kind2]; simp
theorem free1 {P : Pl} (r : Int) (h : Nat) : freeB P (r, -1, (h : Int)) = false := by unfold freeB; rw [kind1]; rfl
theorem free0 {P : Pl} (r : Int) : freeB P (r, -1, -1) = false := by unfold freeB; rw [kind0]; rfl
attribute [local irreducible] Pure Bor Iter inB mpE changeL kindN bfs visit nexts giveL needsL seeksL takenL
set_option maxHeartbeats 4000000 in
theorem give_bor (q : Que) (hq : QOK q) (P : Pl) (hP : ∀ row ∈ P, row.length = 4) (hl : P.length ≤ 40) (v : VaP (quQ q) P) (r : Nat) (hr : r < q.rs.length) :
  Bor tb Try.prog 48 [.ref 0 0, .d (dI r)] [layQ q 1, planO P] 5 (.d (dB (giveL (quQ q) P r).1)) [(0, layQ q 1), (1, planO (giveL (quQ q) P r).2)] := by
 have hnm := hq.nm
 have hqn := hq.n
 have sm : Sm (quQ q) P := ⟨hq.n, hq.nm, hl, hP⟩
 refine bor_of pg Try.func48 (by kernel_rfl) ?_
 conv => whnf
 (repeat' (first | (apply kT (by with_reducible first | rfl | assumption); conv => whnf) | (apply kF (by with_reducible first | rfl | assumption); conv => whnf) | (apply kT (by decide); conv => whnf) | (apply kF (by decide); conv => whnf) | (apply kB <;> intro _ <;> conv => whnf) | (refine ⟨mpE [(((r : Int), -1, -1), ((r : Int), -1, -1))], by unfold mpE; rfl, ?_⟩; conv => whnf) | fail))
 (refine .r ⟨by decide, ?_⟩; conv => whnf)
 refine ⟨[], [0, 6, 7], [0, 1, 3, 4], 5, fun m t => ∃ (done : List Nd) (bs : List (Nd × Nd)) (todo : List Nd), done.length + m = 1436 ∧ Bi (quQ q) P ((r : Int), -1, -1) done bs todo ∧
  bfs (quQ q) P 1436 [((((r : Int), -1, -1) : Nd), (((r : Int), -1, -1) : Nd))] [((r : Int), -1, -1)] = bfs (quQ q) P m bs todo ∧
  t = ⟨[(0, .ref 0 0), (6, .own 3), (7, .own 4)], [(0, layQ q 1), (1, planO P), (3, mpO bs), (4, .arr 136 (todo.map ndD))], 5⟩, ?_, ?_⟩
 ·conv => whnf
  exact ⟨1436, [], _, [((r : Int), -1, -1)], by simp, bi_start hr, rfl, rfl⟩
 ·rintro m _ ⟨done, bs, todo, hdm, hb, hbf, rfl⟩
  have hsmall := hb.small sm
  have hmt : ((todo.map ndD).length : Int) = todo.length := by rw [List.length_map]
  cases todo with
  | nil =>
   have g1 : decide ((([] : List Nd).map ndD).length > (0 : Int)) = false := rfl
   rw [bfs_nil] at hbf
   have hg := giveL_none hbf
   rw [hg]
   conv => whnf
   (repeat' (first | (apply kT (by with_reducible first | rfl | assumption); conv => whnf) | (apply kF (by with_reducible first | rfl | assumption); conv => whnf) | (apply kT (by decide); conv => whnf) | (apply kF (by decide); conv => whnf) | (apply kB <;> intro _ <;> conv => whnf) | fail))
   (refine ⟨[], [0, 1], ?_⟩; conv => whnf)
   exact ⟨rfl, rfl⟩
  | cons n rest =>
   have g1 : decide ((((n :: rest).map ndD).length : Int) > 0) = true := decide_eq_true (by rw [hmt, List.length_cons]; omega)
   rw [List.length_cons] at hsmall
   obtain ⟨f, rfl⟩ : ∃ f, m = f + 1 := ⟨m - 1, by omega⟩
   have hnk : n ∈ bs.map (·.1) := by rw [hb.keys]; exact List.mem_append_right _ List.mem_cons_self
   have hnok := hb.ok n hnk
   have ck := kind_pure n
   have hxl := nexts_len hq hl n
   have hvl := fun i => visit_len n ((nexts (quQ q) P n).take i) bs rest
   have hb2 : freeB P n = false → Bi (quQ q) P ((r : Int), -1, -1) (done ++ [n]) (visit n (nexts (quQ q) P n) bs rest).1 (visit n (nexts (quQ q) P n) bs rest).2 := fun hf => by
    have b' : Bi (quQ q) P ((r : Int), -1, -1) (done ++ [n]) bs rest := { hb with keys := by rw [hb.keys, List.append_assoc]; rfl }
    exact (visit_bi hf (nexts (quQ q) P n) bs rest b' hnk fun x hx => ⟨hx, nexts_ok sm v hnok hf x hx⟩).1
   have h1r : ((n :: rest).map ndD).drop 1 = rest.map ndD := rfl
   have hg0 : ((n :: rest).map ndD)[0]? = some (ndD n) := rfl
   rcases hnok with ⟨x, hx, rfl⟩ | ⟨x, h, hx, hh, rfl⟩ | ⟨mm, h, hmm, hh, rfl⟩
   ·have k0 := kind0 (x : Int)
    rw [k0] at ck
    have hf := free0 (P := P) (x : Int)
    rw [bfs_go hf] at hbf
    have hb2 := hb2 hf
    have cn := needs_view q P hP hl ((x : Int), -1, -1)
    rw [show needsL P ((x : Int), -1, -1).1 = nexts (quQ q) P ((x : Int), -1, -1) from (nexts0 _ _ _).symm] at cn
    conv => whnf
    (repeat' (first | (apply kT (by with_reducible first | rfl | assumption); conv => whnf) | (apply kF (by with_reducible first | rfl | assumption); conv => whnf) | (apply kT (by decide); conv => whnf) | (apply kF (by decide); conv => whnf) | (apply kB <;> intro _ <;> conv => whnf) | (refine .inl ⟨_, ck, ?_⟩; conv => whnf) | fail))
    (refine ⟨0, rfl, by rw [List.length_map, List.length_cons]; omega, ?_⟩; conv => whnf)
    (refine ⟨_, hg0, ?_⟩; conv => whnf)
    (refine ⟨rfl, ?_⟩; conv => whnf)
    (repeat' (first | (apply kT (by with_reducible first | rfl | assumption); conv => whnf) | (apply kF (by with_reducible first | rfl | assumption); conv => whnf) | (apply kT (by decide); conv => whnf) | (apply kF (by decide); conv => whnf) | (apply kB <;> intro _ <;> conv => whnf) | fail))
    (refine ⟨1, rfl, by rw [List.length_map, List.length_cons]; omega, .l ⟨rest.map ndD, rfl, ?_⟩⟩; conv => whnf)
    (repeat' (first | (apply kT (by with_reducible first | rfl | assumption); conv => whnf) | (apply kF (by with_reducible first | rfl | assumption); conv => whnf) | (apply kT (by decide); conv => whnf) | (apply kF (by decide); conv => whnf) | (apply kB <;> intro _ <;> conv => whnf) | (refine .inl ⟨_, ck, ?_⟩; conv => whnf) | fail))
    (refine .inl ⟨_, steps_pure, ?_⟩; conv => whnf)
    (repeat' (first | (apply kT (by with_reducible first | rfl | assumption); conv => whnf) | (apply kF (by with_reducible first | rfl | assumption); conv => whnf) | (apply kT (by decide); conv => whnf) | (apply kF (by decide); conv => whnf) | (apply kB <;> intro _ <;> conv => whnf) | (refine .inl ⟨_, ck, ?_⟩; conv => whnf) | fail))
    (refine ⟨0, _, rfl, rfl, rfl, ?_⟩; conv => whnf)
    (repeat' (first | (apply kT (by with_reducible first | rfl | assumption); conv => whnf) | (apply kF (by with_reducible first | rfl | assumption); conv => whnf) | (apply kT (by decide); conv => whnf) | (apply kF (by decide); conv => whnf) | (apply kB <;> intro _ <;> conv => whnf) | fail))
    (refine .inl (.inr ⟨[lvD q P, .agg (ndD ((x : Int), -1, -1))], 136, _, rfl, ⟨_, _, rfl, ⟨_, rfl, ⟨_, rfl, ⟨_, rfl, rfl⟩⟩⟩, ⟨_, rfl, rfl⟩⟩, cn, ndFlat _, ?_⟩); conv => whnf)
    (repeat' (first | (apply kT (by with_reducible first | rfl | assumption); conv => whnf) | (apply kF (by with_reducible first | rfl | assumption); conv => whnf) | (apply kT (by decide); conv => whnf) | (apply kF (by decide); conv => whnf) | (apply kB <;> intro _ <;> conv => whnf) | fail))
    generalize nexts (quQ q) P ((x : Int), -1, -1) = xs at *
    have hmx : ((xs.map ndD).length : Int) = xs.length := by rw [List.length_map]
    refine ⟨[], [0, 6, 7, 8, 58, 59, 60], [0, 1, 3, 4, 5, 206], 207, fun j t => ∃ i : Nat, i + j = xs.length ∧
     t = ⟨[(0, .ref 0 0), (6, .own 3), (7, .own 4), (8, .ref 5 0), (58, .own 206), (59, .d (dI (xs.map ndD).length)), (60, .d (dI i))],
      [(0, layQ q 1), (1, planO P), (3, mpO (visit ((x : Int), -1, -1) (xs.take i) bs rest).1), (4, .arr 136 ((visit ((x : Int), -1, -1) (xs.take i) bs rest).2.map ndD)), (5, ndO ((x : Int), -1, -1)), (206, .arr 136 (xs.map ndD))], 207⟩, ?_, ?_⟩
    ·conv => whnf
     refine ⟨xs.length, 0, by omega, ?_⟩
     rw [List.take_zero, visit_nil]
     rfl
    ·rintro j _ ⟨i, hi, rfl⟩
     rcases Decidable.em (i < xs.length) with hil | hil
     ·have k1 : decide ((i : Int) < ((xs.map ndD).length : Int)) = true := decide_eq_true (by rw [hmx]; omega)
      have hvt := visit_take (n := ((x : Int), -1, -1)) hil bs rest
      have hvl := hvl i
      have hml := mapGet_look (visit ((x : Int), -1, -1) (xs.take i) bs rest).1 xs[i]
      have hms := mapSet_new (visit ((x : Int), -1, -1) (xs.take i) bs rest).1 xs[i] ((x : Int), -1, -1)
      rw [List.length_take] at hvl
      have w1i : IntKind.i64.wrap ((i : Int) + 1) = ((i + 1 : Nat) : Int) := by rw [wrapI (by omega) (by omega)]; rfl
      have hgx := getnd xs i hil
      generalize xs[i] = y at *
      cases hlk : look (visit ((x : Int), -1, -1) (xs.take i) bs rest).1 y with
      | some p =>
       rw [hlk] at hvt hml
       conv => whnf
       (repeat' (first | (apply kT (by with_reducible first | rfl | assumption); conv => whnf) | (apply kF (by with_reducible first | rfl | assumption); conv => whnf) | (apply kT (by decide); conv => whnf) | (apply kF (by decide); conv => whnf) | (apply kB <;> intro _ <;> conv => whnf) | (refine ⟨i, rfl, by rw [List.length_map]; exact hil, ?_⟩; conv => whnf) | (refine ⟨_, hgx, ?_⟩; conv => whnf) | (refine ⟨rfl, ?_⟩; conv => whnf) | (refine ⟨_, hml, ?_⟩; conv => whnf) | fail))
       refine ⟨j - 1, by omega, i + 1, by omega, ?_⟩
       rw [hvt, w1i]
       rfl
      | none =>
       rw [hlk] at hvt hml
       have hms := hms hlk
       conv => whnf
       (repeat' (first | (apply kT (by with_reducible first | rfl | assumption); conv => whnf) | (apply kF (by with_reducible first | rfl | assumption); conv => whnf) | (apply kT (by decide); conv => whnf) | (apply kF (by decide); conv => whnf) | (apply kB <;> intro _ <;> conv => whnf) | (refine ⟨i, rfl, by rw [List.length_map]; exact hil, ?_⟩; conv => whnf) | (refine ⟨_, hgx, ?_⟩; conv => whnf) | (refine ⟨rfl, ?_⟩; conv => whnf) | (refine ⟨_, hml, ?_⟩; conv => whnf) | (refine ⟨_, hms, ?_⟩; conv => whnf) | fail))
       (refine .l ?_; conv => whnf)
       (refine ⟨fun el he => by rw [List.mem_singleton.1 he]; rfl, by rw [List.length_map]; show (_ + 1) * 24 ≤ _; omega, ?_⟩; conv => whnf)
       (repeat' (first | (apply kT (by with_reducible first | rfl | assumption); conv => whnf) | (apply kF (by with_reducible first | rfl | assumption); conv => whnf) | (apply kT (by decide); conv => whnf) | (apply kF (by decide); conv => whnf) | (apply kB <;> intro _ <;> conv => whnf) | fail))
       refine ⟨j - 1, by omega, i + 1, by omega, ?_⟩
       rw [hvt, w1i, List.map_append]
       rfl
     ·have k1 : decide ((i : Int) < ((xs.map ndD).length : Int)) = false := decide_eq_false (by rw [hmx]; omega)
      have ei : xs.take i = xs := List.take_of_length_le (by omega)
      rw [ei]
      conv => whnf
      (repeat' (first | (apply kT (by with_reducible first | rfl | assumption); conv => whnf) | (apply kF (by with_reducible first | rfl | assumption); conv => whnf) | (apply kT (by decide); conv => whnf) | (apply kF (by decide); conv => whnf) | (apply kB <;> intro _ <;> conv => whnf) | fail))
      exact ⟨f, by omega, done ++ [((x : Int), -1, -1)], _, _, by rw [List.length_append, List.length_singleton]; omega, hb2, hbf, rfl⟩
   ·have k0 := kind1 (x : Int) h
    rw [k0] at ck
    have hf := free1 (P := P) (x : Int) h
    rw [bfs_go hf] at hbf
    have hb2 := hb2 hf
    have cn := seeks_view q hq P hP hl x h hx hh
    rw [← nexts1] at cn
    conv => whnf
    (repeat' (first | (apply kT (by with_reducible first | rfl | assumption); conv => whnf) | (apply kF (by with_reducible first | rfl | assumption); conv => whnf) | (apply kT (by decide); conv => whnf) | (apply kF (by decide); conv => whnf) | (apply kB <;> intro _ <;> conv => whnf) | (refine .inl ⟨_, ck, ?_⟩; conv => whnf) | fail))
    (refine ⟨0, rfl, by rw [List.length_map, List.length_cons]; omega, ?_⟩; conv => whnf)
    (refine ⟨_, hg0, ?_⟩; conv => whnf)
    (refine ⟨rfl, ?_⟩; conv => whnf)
    (repeat' (first | (apply kT (by with_reducible first | rfl | assumption); conv => whnf) | (apply kF (by with_reducible first | rfl | assumption); conv => whnf) | (apply kT (by decide); conv => whnf) | (apply kF (by decide); conv => whnf) | (apply kB <;> intro _ <;> conv => whnf) | fail))
    (refine ⟨1, rfl, by rw [List.length_map, List.length_cons]; omega, .l ⟨rest.map ndD, rfl, ?_⟩⟩; conv => whnf)
    (repeat' (first | (apply kT (by with_reducible first | rfl | assumption); conv => whnf) | (apply kF (by with_reducible first | rfl | assumption); conv => whnf) | (apply kT (by decide); conv => whnf) | (apply kF (by decide); conv => whnf) | (apply kB <;> intro _ <;> conv => whnf) | (refine .inl ⟨_, ck, ?_⟩; conv => whnf) | fail))
    (refine .inl ⟨_, steps_pure, ?_⟩; conv => whnf)
    (repeat' (first | (apply kT (by with_reducible first | rfl | assumption); conv => whnf) | (apply kF (by with_reducible first | rfl | assumption); conv => whnf) | (apply kT (by decide); conv => whnf) | (apply kF (by decide); conv => whnf) | (apply kB <;> intro _ <;> conv => whnf) | (refine .inl ⟨_, ck, ?_⟩; conv => whnf) | fail))
    (refine ⟨1, _, rfl, rfl, rfl, ?_⟩; conv => whnf)
    (repeat' (first | (apply kT (by with_reducible first | rfl | assumption); conv => whnf) | (apply kF (by with_reducible first | rfl | assumption); conv => whnf) | (apply kT (by decide); conv => whnf) | (apply kF (by decide); conv => whnf) | (apply kB <;> intro _ <;> conv => whnf) | fail))
    (refine .inl (.inr ⟨[lvD q P, .agg (ndD ((x : Int), -1, (h : Int)))], 136, _, rfl, ⟨_, _, rfl, ⟨_, rfl, ⟨_, rfl, ⟨_, rfl, rfl⟩⟩⟩, ⟨_, rfl, rfl⟩⟩, cn, ndFlat _, ?_⟩); conv => whnf)
    (repeat' (first | (apply kT (by with_reducible first | rfl | assumption); conv => whnf) | (apply kF (by with_reducible first | rfl | assumption); conv => whnf) | (apply kT (by decide); conv => whnf) | (apply kF (by decide); conv => whnf) | (apply kB <;> intro _ <;> conv => whnf) | fail))
    generalize nexts (quQ q) P ((x : Int), -1, (h : Int)) = xs at *
    have hmx : ((xs.map ndD).length : Int) = xs.length := by rw [List.length_map]
    refine ⟨[], [0, 6, 7, 8, 58, 59, 60], [0, 1, 3, 4, 5, 206], 207, fun j t => ∃ i : Nat, i + j = xs.length ∧
     t = ⟨[(0, .ref 0 0), (6, .own 3), (7, .own 4), (8, .ref 5 0), (58, .own 206), (59, .d (dI (xs.map ndD).length)), (60, .d (dI i))],
      [(0, layQ q 1), (1, planO P), (3, mpO (visit ((x : Int), -1, (h : Int)) (xs.take i) bs rest).1), (4, .arr 136 ((visit ((x : Int), -1, (h : Int)) (xs.take i) bs rest).2.map ndD)), (5, ndO ((x : Int), -1, (h : Int))), (206, .arr 136 (xs.map ndD))], 207⟩, ?_, ?_⟩
    ·conv => whnf
     refine ⟨xs.length, 0, by omega, ?_⟩
     rw [List.take_zero, visit_nil]
     rfl
    ·rintro j _ ⟨i, hi, rfl⟩
     rcases Decidable.em (i < xs.length) with hil | hil
     ·have k1 : decide ((i : Int) < ((xs.map ndD).length : Int)) = true := decide_eq_true (by rw [hmx]; omega)
      have hvt := visit_take (n := ((x : Int), -1, (h : Int))) hil bs rest
      have hvl := hvl i
      have hml := mapGet_look (visit ((x : Int), -1, (h : Int)) (xs.take i) bs rest).1 xs[i]
      have hms := mapSet_new (visit ((x : Int), -1, (h : Int)) (xs.take i) bs rest).1 xs[i] ((x : Int), -1, (h : Int))
      rw [List.length_take] at hvl
      have w1i : IntKind.i64.wrap ((i : Int) + 1) = ((i + 1 : Nat) : Int) := by rw [wrapI (by omega) (by omega)]; rfl
      have hgx := getnd xs i hil
      generalize xs[i] = y at *
      cases hlk : look (visit ((x : Int), -1, (h : Int)) (xs.take i) bs rest).1 y with
      | some p =>
       rw [hlk] at hvt hml
       conv => whnf
       (repeat' (first | (apply kT (by with_reducible first | rfl | assumption); conv => whnf) | (apply kF (by with_reducible first | rfl | assumption); conv => whnf) | (apply kT (by decide); conv => whnf) | (apply kF (by decide); conv => whnf) | (apply kB <;> intro _ <;> conv => whnf) | (refine ⟨i, rfl, by rw [List.length_map]; exact hil, ?_⟩; conv => whnf) | (refine ⟨_, hgx, ?_⟩; conv => whnf) | (refine ⟨rfl, ?_⟩; conv => whnf) | (refine ⟨_, hml, ?_⟩; conv => whnf) | fail))
       refine ⟨j - 1, by omega, i + 1, by omega, ?_⟩
       rw [hvt, w1i]
       rfl
      | none =>
       rw [hlk] at hvt hml
       have hms := hms hlk
       conv => whnf
       (repeat' (first | (apply kT (by with_reducible first | rfl | assumption); conv => whnf) | (apply kF (by with_reducible first | rfl | assumption); conv => whnf) | (apply kT (by decide); conv => whnf) | (apply kF (by decide); conv => whnf) | (apply kB <;> intro _ <;> conv => whnf) | (refine ⟨i, rfl, by rw [List.length_map]; exact hil, ?_⟩; conv => whnf) | (refine ⟨_, hgx, ?_⟩; conv => whnf) | (refine ⟨rfl, ?_⟩; conv => whnf) | (refine ⟨_, hml, ?_⟩; conv => whnf) | (refine ⟨_, hms, ?_⟩; conv => whnf) | fail))
       (refine .l ?_; conv => whnf)
       (refine ⟨fun el he => by rw [List.mem_singleton.1 he]; rfl, by rw [List.length_map]; show (_ + 1) * 24 ≤ _; omega, ?_⟩; conv => whnf)
       (repeat' (first | (apply kT (by with_reducible first | rfl | assumption); conv => whnf) | (apply kF (by with_reducible first | rfl | assumption); conv => whnf) | (apply kT (by decide); conv => whnf) | (apply kF (by decide); conv => whnf) | (apply kB <;> intro _ <;> conv => whnf) | fail))
       refine ⟨j - 1, by omega, i + 1, by omega, ?_⟩
       rw [hvt, w1i, List.map_append]
       rfl
     ·have k1 : decide ((i : Int) < ((xs.map ndD).length : Int)) = false := decide_eq_false (by rw [hmx]; omega)
      have ei : xs.take i = xs := List.take_of_length_le (by omega)
      rw [ei]
      conv => whnf
      (repeat' (first | (apply kT (by with_reducible first | rfl | assumption); conv => whnf) | (apply kF (by with_reducible first | rfl | assumption); conv => whnf) | (apply kT (by decide); conv => whnf) | (apply kF (by decide); conv => whnf) | (apply kB <;> intro _ <;> conv => whnf) | fail))
      exact ⟨f, by omega, done ++ [((x : Int), -1, (h : Int))], _, _, by rw [List.length_append, List.length_singleton]; omega, hb2, hbf, rfl⟩
   ·have k0 := kind2 (-1) mm h
    rw [k0] at ck
    have hm4 : mm < 4 := Nat.lt_of_lt_of_le hmm hnm
    have hfe := free2 (P := P) mm h
    obtain ⟨x0, x1, x2, x3, hg, hc⟩ := cell_row hP hh hm4
    cases hf : freeB P (-1, (mm : Int), (h : Int)) with
    | false =>
     rw [hf] at hfe
     have hfe := hfe.symm
     rw [bfs_go hf] at hbf
     have hb2 := hb2 hf
     have cn := taken_view q P hP (-1) mm h hm4 hh
     rw [show takenL P mm h = nexts (quQ q) P (-1, (mm : Int), (h : Int)) from (nexts2 _ _ _ _ _).symm] at cn
     conv => whnf
     (repeat' (first | (apply kT (by with_reducible first | rfl | assumption); conv => whnf) | (apply kF (by with_reducible first | rfl | assumption); conv => whnf) | (apply kT (by decide); conv => whnf) | (apply kF (by decide); conv => whnf) | (apply kB <;> intro _ <;> conv => whnf) | (refine .inl ⟨_, ck, ?_⟩; conv => whnf) | fail))
     (refine ⟨0, rfl, by rw [List.length_map, List.length_cons]; omega, ?_⟩; conv => whnf)
     (refine ⟨_, hg0, ?_⟩; conv => whnf)
     (refine ⟨rfl, ?_⟩; conv => whnf)
     (repeat' (first | (apply kT (by with_reducible first | rfl | assumption); conv => whnf) | (apply kF (by with_reducible first | rfl | assumption); conv => whnf) | (apply kT (by decide); conv => whnf) | (apply kF (by decide); conv => whnf) | (apply kB <;> intro _ <;> conv => whnf) | fail))
     (refine ⟨1, rfl, by rw [List.length_map, List.length_cons]; omega, .l ⟨rest.map ndD, rfl, ?_⟩⟩; conv => whnf)
     (repeat' (first | (apply kT (by with_reducible first | rfl | assumption); conv => whnf) | (apply kF (by with_reducible first | rfl | assumption); conv => whnf) | (apply kT (by decide); conv => whnf) | (apply kF (by decide); conv => whnf) | (apply kB <;> intro _ <;> conv => whnf) | (refine .inl ⟨_, ck, ?_⟩; conv => whnf) | (refine ⟨h, rfl, by rw [List.length_map]; exact hh, ?_⟩; conv => whnf) | (refine ⟨mm, rfl, hm4, ?_⟩; conv => whnf) | (refine ⟨_, hg, ?_⟩; conv => whnf) | (refine ⟨_, hc, ?_⟩; conv => whnf) | fail))
     (refine .inl ⟨_, steps_pure, ?_⟩; conv => whnf)
     (repeat' (first | (apply kT (by with_reducible first | rfl | assumption); conv => whnf) | (apply kF (by with_reducible first | rfl | assumption); conv => whnf) | (apply kT (by decide); conv => whnf) | (apply kF (by decide); conv => whnf) | (apply kB <;> intro _ <;> conv => whnf) | (refine .inl ⟨_, ck, ?_⟩; conv => whnf) | fail))
     (refine ⟨2, _, rfl, rfl, rfl, ?_⟩; conv => whnf)
     (repeat' (first | (apply kT (by with_reducible first | rfl | assumption); conv => whnf) | (apply kF (by with_reducible first | rfl | assumption); conv => whnf) | (apply kT (by decide); conv => whnf) | (apply kF (by decide); conv => whnf) | (apply kB <;> intro _ <;> conv => whnf) | fail))
     (refine .inl (.inr ⟨[lvD q P, .agg (ndD ((-1 : Int), (mm : Int), (h : Int)))], 136, _, rfl, ⟨_, _, rfl, ⟨_, rfl, ⟨_, rfl, ⟨_, rfl, rfl⟩⟩⟩, ⟨_, rfl, rfl⟩⟩, cn, ndFlat _, ?_⟩); conv => whnf)
     (repeat' (first | (apply kT (by with_reducible first | rfl | assumption); conv => whnf) | (apply kF (by with_reducible first | rfl | assumption); conv => whnf) | (apply kT (by decide); conv => whnf) | (apply kF (by decide); conv => whnf) | (apply kB <;> intro _ <;> conv => whnf) | fail))
     generalize nexts (quQ q) P ((-1 : Int), (mm : Int), (h : Int)) = xs at *
     have hmx : ((xs.map ndD).length : Int) = xs.length := by rw [List.length_map]
     refine ⟨[], [0, 6, 7, 8, 58, 59, 60], [0, 1, 3, 4, 5, 206], 207, fun j t => ∃ i : Nat, i + j = xs.length ∧
      t = ⟨[(0, .ref 0 0), (6, .own 3), (7, .own 4), (8, .ref 5 0), (58, .own 206), (59, .d (dI (xs.map ndD).length)), (60, .d (dI i))],
       [(0, layQ q 1), (1, planO P), (3, mpO (visit ((-1 : Int), (mm : Int), (h : Int)) (xs.take i) bs rest).1), (4, .arr 136 ((visit ((-1 : Int), (mm : Int), (h : Int)) (xs.take i) bs rest).2.map ndD)), (5, ndO ((-1 : Int), (mm : Int), (h : Int))), (206, .arr 136 (xs.map ndD))], 207⟩, ?_, ?_⟩
     ·conv => whnf
      refine ⟨xs.length, 0, by omega, ?_⟩
      rw [List.take_zero, visit_nil]
      rfl
     ·rintro j _ ⟨i, hi, rfl⟩
      rcases Decidable.em (i < xs.length) with hil | hil
      ·have k1 : decide ((i : Int) < ((xs.map ndD).length : Int)) = true := decide_eq_true (by rw [hmx]; omega)
       have hvt := visit_take (n := ((-1 : Int), (mm : Int), (h : Int))) hil bs rest
       have hvl := hvl i
       have hml := mapGet_look (visit ((-1 : Int), (mm : Int), (h : Int)) (xs.take i) bs rest).1 xs[i]
       have hms := mapSet_new (visit ((-1 : Int), (mm : Int), (h : Int)) (xs.take i) bs rest).1 xs[i] ((-1 : Int), (mm : Int), (h : Int))
       rw [List.length_take] at hvl
       have w1i : IntKind.i64.wrap ((i : Int) + 1) = ((i + 1 : Nat) : Int) := by rw [wrapI (by omega) (by omega)]; rfl
       have hgx := getnd xs i hil
       generalize xs[i] = y at *
       cases hlk : look (visit ((-1 : Int), (mm : Int), (h : Int)) (xs.take i) bs rest).1 y with
       | some p =>
        rw [hlk] at hvt hml
        conv => whnf
        (repeat' (first | (apply kT (by with_reducible first | rfl | assumption); conv => whnf) | (apply kF (by with_reducible first | rfl | assumption); conv => whnf) | (apply kT (by decide); conv => whnf) | (apply kF (by decide); conv => whnf) | (apply kB <;> intro _ <;> conv => whnf) | (refine ⟨i, rfl, by rw [List.length_map]; exact hil, ?_⟩; conv => whnf) | (refine ⟨_, hgx, ?_⟩; conv => whnf) | (refine ⟨rfl, ?_⟩; conv => whnf) | (refine ⟨_, hml, ?_⟩; conv => whnf) | fail))
        refine ⟨j - 1, by omega, i + 1, by omega, ?_⟩
        rw [hvt, w1i]
        rfl
       | none =>
        rw [hlk] at hvt hml
        have hms := hms hlk
        conv => whnf
        (repeat' (first | (apply kT (by with_reducible first | rfl | assumption); conv => whnf) | (apply kF (by with_reducible first | rfl | assumption); conv => whnf) | (apply kT (by decide); conv => whnf) | (apply kF (by decide); conv => whnf) | (apply kB <;> intro _ <;> conv => whnf) | (refine ⟨i, rfl, by rw [List.length_map]; exact hil, ?_⟩; conv => whnf) | (refine ⟨_, hgx, ?_⟩; conv => whnf) | (refine ⟨rfl, ?_⟩; conv => whnf) | (refine ⟨_, hml, ?_⟩; conv => whnf) | (refine ⟨_, hms, ?_⟩; conv => whnf) | fail))
        (refine .l ?_; conv => whnf)
        (refine ⟨fun el he => by rw [List.mem_singleton.1 he]; rfl, by rw [List.length_map]; show (_ + 1) * 24 ≤ _; omega, ?_⟩; conv => whnf)
        (repeat' (first | (apply kT (by with_reducible first | rfl | assumption); conv => whnf) | (apply kF (by with_reducible first | rfl | assumption); conv => whnf) | (apply kT (by decide); conv => whnf) | (apply kF (by decide); conv => whnf) | (apply kB <;> intro _ <;> conv => whnf) | fail))
        refine ⟨j - 1, by omega, i + 1, by omega, ?_⟩
        rw [hvt, w1i, List.map_append]
        rfl
      ·have k1 : decide ((i : Int) < ((xs.map ndD).length : Int)) = false := decide_eq_false (by rw [hmx]; omega)
       have ei : xs.take i = xs := List.take_of_length_le (by omega)
       rw [ei]
       conv => whnf
       (repeat' (first | (apply kT (by with_reducible first | rfl | assumption); conv => whnf) | (apply kF (by with_reducible first | rfl | assumption); conv => whnf) | (apply kT (by decide); conv => whnf) | (apply kF (by decide); conv => whnf) | (apply kB <;> intro _ <;> conv => whnf) | fail))
       exact ⟨f, by omega, done ++ [((-1 : Int), (mm : Int), (h : Int))], _, _, by rw [List.length_append, List.length_singleton]; omega, hb2, hbf, rfl⟩
    | true =>
     rw [hf] at hfe
     have hfe := hfe.symm
     rw [bfs_free hf] at hbf
     have hgs := giveL_some hbf
     obtain ⟨l, w⟩ := hb.way _ hnk
     have hws := w.short sm hb
     have cch := change_bor q hq bs ((r : Int), -1, -1) P.length hl P l (-1, (mm : Int), (h : Int)) 1436 rfl hP w (fun y hy => by
      obtain ⟨p, hp⟩ := w.known y hy
      exact hb.okk hp) (by omega)
     rw [hgs]
     conv => whnf
     (repeat' (first | (apply kT (by with_reducible first | rfl | assumption); conv => whnf) | (apply kF (by with_reducible first | rfl | assumption); conv => whnf) | (apply kT (by decide); conv => whnf) | (apply kF (by decide); conv => whnf) | (apply kB <;> intro _ <;> conv => whnf) | (refine .inl ⟨_, ck, ?_⟩; conv => whnf) | fail))
     (refine ⟨0, rfl, by rw [List.length_map, List.length_cons]; omega, ?_⟩; conv => whnf)
     (refine ⟨_, hg0, ?_⟩; conv => whnf)
     (refine ⟨rfl, ?_⟩; conv => whnf)
     (repeat' (first | (apply kT (by with_reducible first | rfl | assumption); conv => whnf) | (apply kF (by with_reducible first | rfl | assumption); conv => whnf) | (apply kT (by decide); conv => whnf) | (apply kF (by decide); conv => whnf) | (apply kB <;> intro _ <;> conv => whnf) | fail))
     (refine ⟨1, rfl, by rw [List.length_map, List.length_cons]; omega, .l ⟨rest.map ndD, rfl, ?_⟩⟩; conv => whnf)
     (repeat' (first | (apply kT (by with_reducible first | rfl | assumption); conv => whnf) | (apply kF (by with_reducible first | rfl | assumption); conv => whnf) | (apply kT (by decide); conv => whnf) | (apply kF (by decide); conv => whnf) | (apply kB <;> intro _ <;> conv => whnf) | (refine .inl ⟨_, ck, ?_⟩; conv => whnf) | (refine ⟨h, rfl, by rw [List.length_map]; exact hh, ?_⟩; conv => whnf) | (refine ⟨mm, rfl, hm4, ?_⟩; conv => whnf) | (refine ⟨_, hg, ?_⟩; conv => whnf) | (refine ⟨_, hc, ?_⟩; conv => whnf) | fail))
     (refine .inr ⟨[0, 1, 3], 4, _, _, cch, ?_⟩; conv => whnf)
     (repeat' (first | (apply kT (by with_reducible first | rfl | assumption); conv => whnf) | (apply kF (by with_reducible first | rfl | assumption); conv => whnf) | (apply kT (by decide); conv => whnf) | (apply kF (by decide); conv => whnf) | (apply kB <;> intro _ <;> conv => whnf) | fail))
     (refine ⟨[], [0, 1], ?_⟩; conv => whnf)
     exact ⟨rfl, rfl⟩
end Go.Ev.Ytijidghjiaiccaa


set_option linter.unusedVariables false
set_option linter.unusedSimpArgs false
set_option maxRecDepth 100000
namespace Go.Ev.Ytijidghjiaiccaa
open Go.Proofs
attribute [local irreducible] Pure Bor Iter inB
def idC : Nat → List A
 | 0 => [.d (dI 0), .d (dI 0), .d (dI 0), .d (dI 0)]
 | 1 => [.d (dI (-1)), .d (dI 0), .d (dI 0), .d (dI 0)]
 | 2 => [.d (dI (-1)), .d (dI (-1)), .d (dI 0), .d (dI 0)]
 | 3 => [.d (dI (-1)), .d (dI (-1)), .d (dI (-1)), .d (dI 0)]
 | _ => [.d (dI (-1)), .d (dI (-1)), .d (dI (-1)), .d (dI (-1))]
theorem idle_pure : Pure Try.prog 46 [] (.agg [dI (-1), dI (-1), dI (-1), dI (-1)]) := by
 refine pure_of pg Try.func46 (by kernel_rfl) ?_
 conv => whnf
 (repeat' (first | (apply kT (by with_reducible first | rfl | assumption); conv => whnf) | (apply kF (by with_reducible first | rfl | assumption); conv => whnf) | (apply kT (by decide); conv => whnf) | (apply kF (by decide); conv => whnf) | (apply kB <;> intro _ <;> conv => whnf) | fail))
 refine ⟨[], [0, 2], [0], 1, fun m s => ∃ k : Nat, k + m = 4 ∧ s = ⟨[(0, .ref 0 0), (2, .d (dI k))], [(0, .var false 81 (idC k))], 1⟩, ?_, ?_⟩
 ·conv => whnf
  exact ⟨4, 0, rfl, rfl⟩
 ·rintro m _ ⟨k, hk, rfl⟩
  rcases (by omega : k = 0 ∨ k = 1 ∨ k = 2 ∨ k = 3 ∨ k = 4) with rfl | rfl | rfl | rfl | rfl
  ·conv => whnf
   (repeat' (first | (apply kT (by with_reducible first | rfl | assumption); conv => whnf) | (apply kF (by with_reducible first | rfl | assumption); conv => whnf) | (apply kT (by decide); conv => whnf) | (apply kF (by decide); conv => whnf) | (apply kB <;> intro _ <;> conv => whnf) | (refine ⟨0, rfl, by decide, ?_⟩; conv => whnf) | fail))
   exact ⟨m - 1, by omega, 1, by omega, rfl⟩
  ·conv => whnf
   (repeat' (first | (apply kT (by with_reducible first | rfl | assumption); conv => whnf) | (apply kF (by with_reducible first | rfl | assumption); conv => whnf) | (apply kT (by decide); conv => whnf) | (apply kF (by decide); conv => whnf) | (apply kB <;> intro _ <;> conv => whnf) | (refine ⟨1, rfl, by decide, ?_⟩; conv => whnf) | fail))
   exact ⟨m - 1, by omega, 2, by omega, rfl⟩
  ·conv => whnf
   (repeat' (first | (apply kT (by with_reducible first | rfl | assumption); conv => whnf) | (apply kF (by with_reducible first | rfl | assumption); conv => whnf) | (apply kT (by decide); conv => whnf) | (apply kF (by decide); conv => whnf) | (apply kB <;> intro _ <;> conv => whnf) | (refine ⟨2, rfl, by decide, ?_⟩; conv => whnf) | fail))
   exact ⟨m - 1, by omega, 3, by omega, rfl⟩
  ·conv => whnf
   (repeat' (first | (apply kT (by with_reducible first | rfl | assumption); conv => whnf) | (apply kF (by with_reducible first | rfl | assumption); conv => whnf) | (apply kT (by decide); conv => whnf) | (apply kF (by decide); conv => whnf) | (apply kB <;> intro _ <;> conv => whnf) | (refine ⟨3, rfl, by decide, ?_⟩; conv => whnf) | fail))
   exact ⟨m - 1, by omega, 4, by omega, rfl⟩
  ·conv => whnf
   (repeat' (first | (apply kT (by with_reducible first | rfl | assumption); conv => whnf) | (apply kF (by with_reducible first | rfl | assumption); conv => whnf) | (apply kT (by decide); conv => whnf) | (apply kF (by decide); conv => whnf) | (apply kB <;> intro _ <;> conv => whnf) | fail))
   rfl
abbrev uI (n : Nat) : D := .v (.int .u64 n)
theorem tup2 {a b c d : Int} (h1 : a = c) (h2 : b = d) : D.tup [D.v (.int .u64 a), D.v (.int .u64 b)] = D.tup [D.v (.int .u64 c), D.v (.int .u64 d)] := by rw [h1, h2]
theorem mul64_pure (n : Nat) (hn : n ≤ 40) : Pure Try.prog 90 [uI 1, uI n] (.tup [uI 0, uI n]) := by
 refine pure_of pg Try.func90 (by kernel_rfl) ?_
 conv => whnf
 (repeat' (first | (apply kT (by with_reducible first | rfl | assumption); conv => whnf) | (apply kF (by with_reducible first | rfl | assumption); conv => whnf) | (apply kT (by decide); conv => whnf) | (apply kF (by decide); conv => whnf) | (apply kB <;> intro _ <;> conv => whnf) | (refine ⟨by decide, ?_⟩; conv => whnf) | fail))
 refine tup2 ?_ ?_
 ·revert n; decide
 ·revert n; decide
theorem mul_pure (n : Nat) (hn : n ≤ 40) : Pure Try.prog 73 [uI 1, uI n] (.tup [uI 0, uI n]) := by
 have c := mul64_pure n hn
 refine pure_of pg Try.func73 (by kernel_rfl) ?_
 conv => whnf
 (repeat' (first | (apply kT (by with_reducible first | rfl | assumption); conv => whnf) | (apply kF (by with_reducible first | rfl | assumption); conv => whnf) | (apply kT (by decide); conv => whnf) | (apply kF (by decide); conv => whnf) | (apply kB <;> intro _ <;> conv => whnf) | (refine .inl ⟨_, c, ?_⟩; conv => whnf) | fail))
 rfl
theorem repeat_bor (x : Int) (n : Nat) (hn : n ≤ 40) : Bor tb Try.prog 45 [.d (isD [x]), .d (dI n)] [] 1 (.own 0) [(0, .arr 3 (List.replicate n [dI x]))] := by
 have wu : IntKind.u64.wrap (n : Int) = n := by revert n; decide
 have wi : IntKind.i64.wrap (n : Int) = n := by revert n; decide
 have cm := mul_pure n hn
 have cm' : Pure Try.prog 73 [.v (.int .u64 (IntKind.u64.wrap ((([x].map fun x => [dI x]).length : Nat) : Int))), .v (.int .u64 (IntKind.u64.wrap n))] (.tup [uI 0, uI n]) := by rw [wu]; exact cm
 have f1 : decide ((n : Int) < 0) = false := decide_eq_false (by omega)
 have f2 : decide ((n : Int) > 9223372036854775807) = false := decide_eq_false (by omega)
 have f3 : decide (((0 : Nat) : Int) > 0) = false := rfl
 refine bor_ofOV pg Try.func45 (by kernel_rfl) ?_
 conv => whnf
 (repeat' (first | (apply kT (by with_reducible first | rfl | assumption); conv => whnf) | (apply kF (by with_reducible first | rfl | assumption); conv => whnf) | (apply kT (by decide); conv => whnf) | (apply kF (by decide); conv => whnf) | (apply kB <;> intro _ <;> conv => whnf) | (refine .inl ⟨_, cm', ?_⟩; conv => whnf) | fail))
 (refine ⟨n, wi, wi, by show n * 8 ≤ _; omega, by omega, List.replicate n [dI 0], rfl, ?_⟩; conv => whnf)
 have hcp : List.take (List.replicate n [dI 0]).length [[dI x]] ++ List.drop [[dI x]].length (List.replicate n [dI 0]) = List.replicate (min n 1) [dI x] ++ List.replicate (n - 1) [dI 0] := by
  rw [List.length_replicate, List.drop_replicate]
  congr 1
  rcases Nat.eq_zero_or_pos n with h0 | h0
  ·rw [h0]; rfl
  ·rw [Nat.min_eq_right h0, List.take_of_length_le (by exact h0)]; rfl
 (refine ⟨fun el h => by rw [List.mem_singleton.1 h]; rfl, _, hcp, ?_⟩; conv => whnf)
 refine ⟨[], [7, 8], [0], 1, fun m s => ∃ k : Nat, k + m = n ∧ (0 < k ∨ n = 0) ∧ s = ⟨[(7, .own 0), (8, .d (dI k))], [(0, .arr 3 (List.replicate k [dI x] ++ List.replicate (n - k) [dI 0]))], 1⟩, ?_, ?_⟩
 ·conv => whnf
  refine ⟨n - min n 1, min n 1, by omega, by omega, ?_⟩
  rw [List.length_replicate]
  have e : n - min n 1 = n - 1 := by omega
  rw [e]
  rfl
 ·rintro m _ ⟨k, hk, hk0, rfl⟩
  have hlen : (List.replicate k [dI x] ++ List.replicate (n - k) [dI 0]).length = n := by rw [List.length_append, List.length_replicate, List.length_replicate]; omega
  rcases Decidable.em (k < n) with hkn | hkn
  ·have g1 : decide ((k : Int) < ((List.replicate k [dI x] ++ List.replicate (n - k) [dI 0]).length : Int)) = true := decide_eq_true (by rw [hlen]; omega)
   have htk : (List.replicate k [dI x] ++ List.replicate (n - k) [dI 0]).take k = List.replicate k [dI x] := by
    rw [List.take_append_of_le_length (by rw [List.length_replicate]; omega), List.take_of_length_le (by rw [List.length_replicate]; omega)]
   have hmin : min ((List.replicate k [dI x] ++ List.replicate (n - k) [dI 0]).length - k) (List.replicate k [dI x]).length = min (n - k) k := by rw [hlen, List.length_replicate]
   have hres : (List.replicate k [dI x] ++ List.replicate (n - k) [dI 0]).take k ++ ((List.replicate k [dI x] ++ List.replicate (n - k) [dI 0]).take k).take ((List.replicate k [dI x] ++ List.replicate (n - k) [dI 0]).length - k) ++ (List.replicate k [dI x] ++ List.replicate (n - k) [dI 0]).drop (k + (((List.replicate k [dI x] ++ List.replicate (n - k) [dI 0]).take k).take ((List.replicate k [dI x] ++ List.replicate (n - k) [dI 0]).length - k)).length) = List.replicate (k + min (n - k) k) [dI x] ++ List.replicate (n - (k + min (n - k) k)) [dI 0] := by
    rw [htk, hlen, List.take_replicate, List.length_replicate, List.drop_append, List.drop_of_length_le (by rw [List.length_replicate]; omega), List.nil_append, List.length_replicate, List.drop_replicate, ← List.replicate_append_replicate]
    congr 2
    omega
   have hb : (List.replicate k [dI x] ++ List.replicate (n - k) [dI 0]).length = n := hlen
   have wk : IntKind.i64.wrap ((k : Int) + ((min (n - k) k : Nat) : Int)) = ((k + min (n - k) k : Nat) : Int) := by
    have hb2 : k + min (n - k) k ≤ 40 := by omega
    have e9 : (k : Int) + ((min (n - k) k : Nat) : Int) = ((k + min (n - k) k : Nat) : Int) := by omega
    rw [e9]
    exact (show ∀ z : Nat, z ≤ 40 → IntKind.i64.wrap ((z : Nat) : Int) = (z : Int) by decide) _ hb2
   have hrb : List.take k (List.replicate k [dI x] ++ List.replicate (n - k) [dI 0]) = List.replicate k [dI x] := htk
   generalize List.replicate k [dI x] ++ List.replicate (n - k) [dI 0] = B at *
   conv => whnf
   (repeat' (first | (apply kT (by with_reducible first | rfl | assumption); conv => whnf) | (apply kF (by with_reducible first | rfl | assumption); conv => whnf) | (apply kT (by decide); conv => whnf) | (apply kF (by decide); conv => whnf) | (apply kB <;> intro _ <;> conv => whnf) | fail))
   (refine ⟨k, rfl, by omega, .r ?_⟩; conv => whnf)
   (repeat' (first | (apply kT (by with_reducible first | rfl | assumption); conv => whnf) | (apply kF (by with_reducible first | rfl | assumption); conv => whnf) | (apply kT (by decide); conv => whnf) | (apply kF (by decide); conv => whnf) | (apply kB <;> intro _ <;> conv => whnf) | fail))
   (refine ⟨k, rfl, by omega, .r ?_⟩; conv => whnf)
   (repeat' (first | (apply kT (by with_reducible first | rfl | assumption); conv => whnf) | (apply kF (by with_reducible first | rfl | assumption); conv => whnf) | (apply kT (by decide); conv => whnf) | (apply kF (by decide); conv => whnf) | (apply kB <;> intro _ <;> conv => whnf) | fail))
   (refine ⟨k, rfl, by omega, fun el h => by rw [hrb] at h; rw [List.eq_of_mem_replicate h]; rfl, _, hres, ?_⟩; conv => whnf)
   (repeat' (first | (apply kT (by with_reducible first | rfl | assumption); conv => whnf) | (apply kF (by with_reducible first | rfl | assumption); conv => whnf) | (apply kT (by decide); conv => whnf) | (apply kF (by decide); conv => whnf) | (apply kB <;> intro _ <;> conv => whnf) | fail))
   have he : min (B.length - k) (List.take k B).length = min (n - k) k := by rw [hrb, hb, List.length_replicate]
   refine ⟨n - (k + min (n - k) k), by omega, k + min (n - k) k, by omega, by omega, ?_⟩
   rw [he, wk]
  ·have ekn : k = n := by omega
   subst ekn
   have g1 : decide ((k : Int) < ((List.replicate k [dI x] ++ List.replicate (k - k) [dI 0]).length : Int)) = false := decide_eq_false (by rw [hlen]; omega)
   conv => whnf
   (repeat' (first | (apply kT (by with_reducible first | rfl | assumption); conv => whnf) | (apply kF (by with_reducible first | rfl | assumption); conv => whnf) | (apply kT (by decide); conv => whnf) | (apply kF (by decide); conv => whnf) | (apply kB <;> intro _ <;> conv => whnf) | fail))
   refine ⟨[], [], ?_⟩
   conv => whnf
   (refine ⟨[0], ?_⟩; conv => whnf)
   rw [Nat.sub_self, List.replicate_zero, List.append_nil]
   exact ⟨rfl, rfl⟩
end Go.Ev.Ytijidghjiaiccaa


set_option linter.unusedVariables false
set_option linter.unusedSimpArgs false
set_option maxRecDepth 100000
namespace Go.Ev.Ytijidghjiaiccaa
open Go.Proofs
abbrev rnC (l : List Nat) : List (List D) := l.map fun r : Nat => [dI (r : Int)]
abbrev rnO (l : List Nat) : Ob := .arr 3 (rnC l)
abbrev lfD (l : List Nat) : List D := l.map fun r : Nat => dI (r : Int)
abbrev rnW (l : List Nat) : Ob := .arw 3 ((lfD l).map A.d)
theorem rnC_eq (l : List Nat) : rnC l = (lfD l).map fun d => [d] := by simp
theorem inv_d (ρ : List Nat) : ∀ ds : List D, invAL ρ (ds.map A.d) = ds.map A.d
 | [] => rfl
 | d :: ds => by
  show A.d d :: invAL ρ (ds.map A.d) = _
  rw [inv_d ρ ds]; rfl
theorem clr_d (js : List Nat) : ∀ ds : List D, clrAL js (ds.map A.d) = ds.map A.d
 | [] => rfl
 | d :: ds => by
  show A.d d :: clrAL js (ds.map A.d) = _
  rw [clr_d js ds]; rfl
theorem only_d (os : List Nat) : ∀ ds : List D, A.onlyL os (ds.map A.d) = true
 | [] => rfl
 | d :: ds => by
  show (true && A.onlyL os (ds.map A.d)) = true
  rw [only_d os ds]; rfl
theorem out_d (ρ : List Nat) (n : Nat) : ∀ ds : List D, outAL ρ n (ds.map A.d) = ds.map A.d
 | [] => rfl
 | d :: ds => by
  show A.d d :: outAL ρ n (ds.map A.d) = _
  rw [out_d ρ n ds]; rfl
def ixG (Q : Qu) (P : Pl) : List Nat → Nat → Int
 | [], _ => -1
 | r :: rs, k => if (giveL Q P r).1 then k else ixG Q P rs (k + 1)
def plG (Q : Qu) (P : Pl) : List Nat → Pl
 | [] => P
 | r :: rs => if (giveL Q P r).1 then (giveL Q P r).2 else plG Q P rs
theorem giveL_no {Q : Qu} {P : Pl} {r : Nat} (h : (giveL Q P r).1 = false) : (giveL Q P r).2 = P := by
 unfold giveL at h ⊢
 cases hb : bfs Q P 1436 [((((r : Int), -1, -1) : Nd), (((r : Int), -1, -1) : Nd))] [((r : Int), -1, -1)] with
 | none => rfl
 | some z => rw [hb] at h; cases h
theorem ixG_none {Q : Qu} {P : Pl} : ∀ (l : List Nat) (k : Nat), (∀ j (h : j < l.length), (giveL Q P l[j]).1 = false) → ixG Q P l k = -1 ∧ plG Q P l = P
 | [], k, _ => ⟨rfl, rfl⟩
 | r :: rs, k, h => by
  have h0 : (giveL Q P r).1 = false := h 0 (by simp)
  rw [ixG, plG, if_neg (by rw [h0]; simp), if_neg (by rw [h0]; simp)]
  exact ixG_none rs (k + 1) fun j hj => h (j + 1) (by simpa using hj)
theorem ixG_some {Q : Qu} {P : Pl} : ∀ (l : List Nat) (k i : Nat) (hi : i < l.length), (∀ j (h : j < i) (h2 : j < l.length), (giveL Q P l[j]).1 = false) → (giveL Q P l[i]).1 = true → ixG Q P l k = ((k + i : Nat) : Int) ∧ plG Q P l = (giveL Q P l[i]).2
 | r :: rs, k, 0, hi, _, h1 => by
  have h1 : (giveL Q P r).1 = true := h1
  rw [ixG, plG, if_pos h1, if_pos h1]
  exact ⟨rfl, rfl⟩
 | r :: rs, k, i + 1, hi, h, h1 => by
  have h0 : (giveL Q P r).1 = false := h 0 (by omega) (by simp)
  rw [ixG, plG, if_neg (by rw [h0]; simp), if_neg (by rw [h0]; simp)]
  have hi : i < rs.length := by simpa using hi
  obtain ⟨e1, e2⟩ := ixG_some rs (k + 1) i hi (fun j hj h2 => h (j + 1) (by omega) (by simpa using h2)) h1
  exact ⟨by rw [e1]; congr 1; omega, e2⟩
theorem getrn (l : List Nat) (i : Nat) (h : i < l.length) : ((lfD l).map A.d)[i]? = some (.d (dI l[i])) := by simp [h]
attribute [local irreducible] Pure Bor Iter inB giveL bfs ixG plG
theorem index_bor (q : Que) (hq : QOK q) (P : Pl) (hP : ∀ row ∈ P, row.length = 4) (hl : P.length ≤ 40) (v : VaP (quQ q) P) (l : List Nat) (hr : ∀ r ∈ l, r < q.rs.length) (hll : l.length ≤ 1000) :
  Bor tb Try.prog 74 [.own 2, .fn (.func 48) [.ref 0 0] []] [layQ q 1, planO P, rnW l] 3 (.d (dI (ixG (quQ q) P l 0))) [(0, layQ q 1), (1, planO (plG (quQ q) P l)), (2, rnW l)] := by
 have hlr : ((lfD l).map A.d).length = l.length := by simp
 refine bor_of pg Try.func74 (by kernel_rfl) ?_
 conv => whnf
 (repeat' (first | (apply kT (by with_reducible first | rfl | assumption); conv => whnf) | (apply kF (by with_reducible first | rfl | assumption); conv => whnf) | (apply kT (by decide); conv => whnf) | (apply kF (by decide); conv => whnf) | (apply kB <;> intro _ <;> conv => whnf) | fail))
 refine ⟨[], [0, 1, 7, 8], [0, 1, 2], 3, fun m s => ∃ k : Nat, k + m = l.length ∧ (∀ j (h : j < k) (h2 : j < l.length), (giveL (quQ q) P l[j]).1 = false) ∧ s = ⟨[(0, .own 2), (1, .fn (.func 48) [.ref 0 0] []), (7, .d (dI (((lfD l).map A.d).length : Nat))), (8, .d (dI k))], [(0, layQ q 1), (1, planO P), (2, rnW l)], 3⟩, ?_, ?_⟩
 ·conv => whnf
  refine ⟨only_d _ _, ?_⟩
  conv => whnf
  exact ⟨l.length, 0, by omega, fun j h => absurd h (Nat.not_lt_zero _), rfl⟩
 ·rintro m _ ⟨k, hk, hno, rfl⟩
  rcases Decidable.em (k < l.length) with hkn | hkn
  ·have g1 : decide ((k : Int) < (((lfD l).map A.d).length : Int)) = true := decide_eq_true (by rw [hlr]; omega)
   have hg := getrn l k hkn
   have cg := give_bor q hq P hP hl v l[k] (hr _ (List.getElem_mem hkn))
   have wk : IntKind.i64.wrap ((k : Int) + 1) = ((k + 1 : Nat) : Int) := by
    rw [wrapI (by omega) (by omega)]; omega
   cases hgv : (giveL (quQ q) P l[k]).1 with
   | true =>
    obtain ⟨e1, e2⟩ := ixG_some (Q := quQ q) (P := P) l 0 k hkn hno hgv
    rw [hgv] at cg
    rw [Nat.zero_add] at e1
    rw [e1, e2]
    conv => whnf
    (repeat' (first | (apply kT (by with_reducible first | rfl | assumption); conv => whnf) | (apply kF (by with_reducible first | rfl | assumption); conv => whnf) | (apply kT (by decide); conv => whnf) | (apply kF (by decide); conv => whnf) | (apply kB <;> intro _ <;> conv => whnf) | fail))
    (refine ⟨k, rfl, by rw [hlr]; exact hkn, ?_⟩; conv => whnf)
    (repeat' (first | (apply kT (by with_reducible first | rfl | assumption); conv => whnf) | (apply kF (by with_reducible first | rfl | assumption); conv => whnf) | (apply kT (by decide); conv => whnf) | (apply kF (by decide); conv => whnf) | (apply kB <;> intro _ <;> conv => whnf) | fail))
    (refine ⟨_, hg, ?_⟩; conv => whnf)
    (repeat' (first | (apply kT (by with_reducible first | rfl | assumption); conv => whnf) | (apply kF (by with_reducible first | rfl | assumption); conv => whnf) | (apply kT (by decide); conv => whnf) | (apply kF (by decide); conv => whnf) | (apply kB <;> intro _ <;> conv => whnf) | fail))
    (refine .inr ⟨[0, 1], 5, _, _, cg, ?_⟩; conv => whnf)
    (refine ⟨_, clr_d _ _, ?_⟩; conv => whnf)
    (repeat' (first | (apply kT (by with_reducible first | rfl | assumption); conv => whnf) | (apply kF (by with_reducible first | rfl | assumption); conv => whnf) | (apply kT (by decide); conv => whnf) | (apply kF (by decide); conv => whnf) | (apply kB <;> intro _ <;> conv => whnf) | fail))
    (refine ⟨[], [0, 1, 2], ?_⟩; conv => whnf)
    (refine ⟨only_d _ _, ?_⟩; conv => whnf)
    refine ⟨?_, ?_⟩
    ·skip
     rfl
    ·rfl
   | false =>
    have e2 := giveL_no hgv
    rw [hgv, e2] at cg
    conv => whnf
    (repeat' (first | (apply kT (by with_reducible first | rfl | assumption); conv => whnf) | (apply kF (by with_reducible first | rfl | assumption); conv => whnf) | (apply kT (by decide); conv => whnf) | (apply kF (by decide); conv => whnf) | (apply kB <;> intro _ <;> conv => whnf) | fail))
    (refine ⟨k, rfl, by rw [hlr]; exact hkn, ?_⟩; conv => whnf)
    (repeat' (first | (apply kT (by with_reducible first | rfl | assumption); conv => whnf) | (apply kF (by with_reducible first | rfl | assumption); conv => whnf) | (apply kT (by decide); conv => whnf) | (apply kF (by decide); conv => whnf) | (apply kB <;> intro _ <;> conv => whnf) | fail))
    (refine ⟨_, hg, ?_⟩; conv => whnf)
    (repeat' (first | (apply kT (by with_reducible first | rfl | assumption); conv => whnf) | (apply kF (by with_reducible first | rfl | assumption); conv => whnf) | (apply kT (by decide); conv => whnf) | (apply kF (by decide); conv => whnf) | (apply kB <;> intro _ <;> conv => whnf) | fail))
    (refine .inr ⟨[0, 1], 5, _, _, cg, ?_⟩; conv => whnf)
    (refine ⟨_, clr_d _ _, ?_⟩; conv => whnf)
    (repeat' (first | (apply kT (by with_reducible first | rfl | assumption); conv => whnf) | (apply kF (by with_reducible first | rfl | assumption); conv => whnf) | (apply kT (by decide); conv => whnf) | (apply kF (by decide); conv => whnf) | (apply kB <;> intro _ <;> conv => whnf) | fail))
    refine ⟨only_d _ _, ?_⟩
    conv => whnf
    refine ⟨m - 1, by omega, k + 1, by omega, fun j hj h2 => ?_, by rw [wk]; rfl⟩
    rcases Nat.lt_succ_iff_lt_or_eq.1 hj with h | rfl
    ·exact hno j h h2
    ·exact hgv
  ·have ekn : k = l.length := by omega
   have g1 : decide ((k : Int) < (((lfD l).map A.d).length : Int)) = false := decide_eq_false (by rw [hlr]; omega)
   obtain ⟨e1, e2⟩ := ixG_none (Q := quQ q) (P := P) l 0 fun j h => hno j (by omega) h
   rw [e1, e2]
   conv => whnf
   (repeat' (first | (apply kT (by with_reducible first | rfl | assumption); conv => whnf) | (apply kF (by with_reducible first | rfl | assumption); conv => whnf) | (apply kT (by decide); conv => whnf) | (apply kF (by decide); conv => whnf) | (apply kB <;> intro _ <;> conv => whnf) | fail))
   (refine ⟨[], [0, 1, 2], ?_⟩; conv => whnf)
   (refine ⟨only_d _ _, ?_⟩; conv => whnf)
   exact ⟨rfl, rfl⟩
theorem del_head (Q : Qu) (P : Pl) : ∀ (l : List Nat) (i : Nat) (hi : i < l.length), (∀ j (h : j < i) (h2 : j < l.length), (giveL Q P l[j]).1 = false) → (giveL Q P l[i]).1 = true →
  delL Q l P = (l.take i ++ (delL Q (l.drop (i + 1)) (giveL Q P l[i]).2).1, (delL Q (l.drop (i + 1)) (giveL Q P l[i]).2).2)
 | r :: rs, 0, hi, _, h1 => by
  have h1 : (giveL Q P r).1 = true := h1
  rw [delL, if_pos h1]
  rfl
 | r :: rs, i + 1, hi, h, h1 => by
  have h0 : (giveL Q P r).1 = false := h 0 (by omega) (by simp)
  have hi : i < rs.length := by simpa using hi
  rw [delL, if_neg (by rw [h0]; simp), del_head Q P rs i hi (fun j hj h2 => h (j + 1) (by omega) (by simpa using h2)) h1]
  rfl
theorem del_none (Q : Qu) (P : Pl) : ∀ (l : List Nat), (∀ j (h : j < l.length), (giveL Q P l[j]).1 = false) → delL Q l P = (l, P)
 | [], _ => rfl
 | r :: rs, h => by
  have h0 : (giveL Q P r).1 = false := h 0 (by simp)
  rw [delL, if_neg (by rw [h0]; simp), del_none Q P rs fun j hj => h (j + 1) (by simpa using hj)]
theorem first_give (Q : Qu) (P : Pl) : ∀ (l : List Nat), (∀ j (h : j < l.length), (giveL Q P l[j]).1 = false) ∨ ∃ i, ∃ hi : i < l.length, (∀ j (h : j < i) (h2 : j < l.length), (giveL Q P l[j]).1 = false) ∧ (giveL Q P l[i]).1 = true
 | [] => .inl fun j h => absurd h (Nat.not_lt_zero _)
 | r :: rs => by
  cases hr : (giveL Q P r).1 with
  | true => exact .inr ⟨0, by simp, fun j h => absurd h (Nat.not_lt_zero _), hr⟩
  | false =>
   rcases first_give Q P rs with h | ⟨i, hi, h, h1⟩
   ·refine .inl fun j hj => ?_
    match j, hj with
    | 0, _ => exact hr
    | j + 1, hj => exact h j (by simpa using hj)
   ·refine .inr ⟨i + 1, by simpa using hi, fun j hj h2 => ?_, h1⟩
    match j, hj, h2 with
    | 0, _, _ => exact hr
    | j + 1, hj, h2 => exact h j (by omega) (by simpa using h2)
theorem giveL_len {q : Que} (hq : QOK q) {P : Pl} (hP : ∀ row ∈ P, row.length = 4) (hl : P.length ≤ 40) (v : VaP (quQ q) P) {r : Nat} (hr : r < q.rs.length) :
  (∀ row ∈ (giveL (quQ q) P r).2, row.length = 4) ∧ (giveL (quQ q) P r).2.length ≤ 40 ∧ VaP (quQ q) (giveL (quQ q) P r).2 := by
 rcases give_law (Q := quQ q) ⟨hq.n, hq.nm, hl, hP⟩ v hr with ⟨_, g⟩ | ⟨_, e, _⟩
 ·exact ⟨g.rows, by rw [g.len]; exact hl, g.va⟩
 ·rw [e]; exact ⟨hP, hl, v⟩
theorem set_kept (kept junk : List Nat) (v : Nat) (rest : List Nat) (j : Nat) (js : List Nat) (hj : junk = j :: js) :
  (rnC (kept ++ junk ++ v :: rest)).set kept.length [dI (v : Int)] = rnC ((kept ++ [v]) ++ (js ++ [v]) ++ rest) := by
 subst hj
 simp [List.set_append]
theorem del_nil (Q : Qu) (P : Pl) : delL Q [] P = ([], P) := by rw [delL]
theorem del_yes {Q : Qu} {P : Pl} {x : Nat} (rest : List Nat) (h : (giveL Q P x).1 = true) : delL Q (x :: rest) P = delL Q rest (giveL Q P x).2 := by rw [delL, if_pos h]
theorem del_no {Q : Qu} {P : Pl} {x : Nat} (rest : List Nat) (h : (giveL Q P x).1 = false) : delL Q (x :: rest) P = (x :: (delL Q rest P).1, (delL Q rest P).2) := by rw [delL, if_neg (by rw [h]; simp)]
attribute [local irreducible] delL
set_option maxHeartbeats 1000000 in
theorem del_bor (q : Que) (hq : QOK q) (P : Pl) (hP : ∀ row ∈ P, row.length = 4) (hl : P.length ≤ 40) (v : VaP (quQ q) P) (l : List Nat) (hr : ∀ r ∈ l, r < q.rs.length) (hll : l.length ≤ 1000) :
  Bor tb Try.prog 47 [.own 2, .fn (.func 48) [.ref 0 0] []] [layQ q 1, planO P, rnO l] 3 (.own 2) [(0, layQ q 1), (1, planO (delL (quQ q) l P).2), (2, rnO (delL (quQ q) l P).1)] := by
 have hlr : (rnC l).length = l.length := by simp
 have ci := index_bor q hq P hP hl v l hr hll
 rcases first_give (quQ q) P l with hno | ⟨i, hi, hno, hgi⟩
 ·obtain ⟨e1, e2⟩ := ixG_none (Q := quQ q) (P := P) l 0 hno
  rw [e1, e2] at ci
  rw [del_none _ _ l hno]
  refine bor_ofOV pg Try.func47 (by kernel_rfl) ?_
  conv => whnf
  (repeat' (first | (apply kT (by with_reducible first | rfl | assumption); conv => whnf) | (apply kF (by with_reducible first | rfl | assumption); conv => whnf) | (apply kT (by decide); conv => whnf) | (apply kF (by decide); conv => whnf) | (apply kB <;> intro _ <;> conv => whnf) | fail))
  (refine .inp (.inr (.inl ⟨2, 3, rnC l, lfD l, rfl, rnC_eq l, [0, 1, 2], 3, _, _, [layQ q 1, planO P, rnW l], by show [layQ q 1, planO P, Ob.arw 3 (invAL [0, 1, 2] ((lfD l).map A.d))] = _; rw [inv_d], ci, ?_⟩)); conv => whnf)
  (refine ⟨(lfD l).map A.d, out_d _ _ _, ?_⟩; conv => whnf)
  (refine ⟨rfl, ?_⟩; conv => whnf)
  (repeat' (first | (apply kT (by with_reducible first | rfl | assumption); conv => whnf) | (apply kF (by with_reducible first | rfl | assumption); conv => whnf) | (apply kT (by decide); conv => whnf) | (apply kF (by decide); conv => whnf) | (apply kB <;> intro _ <;> conv => whnf) | fail))
  refine ⟨[], [], ?_⟩
  conv => whnf
  (refine ⟨[0, 1, 2], ?_⟩; conv => whnf)
  exact ⟨rfl, rfl⟩
 ·obtain ⟨e1, e2⟩ := ixG_some (Q := quQ q) (P := P) l 0 i hi hno hgi
  rw [e1, e2, Nat.zero_add] at ci
  have g0 : ((i : Int) == -1) = false := by rw [beq_eq_false_iff_ne]; omega
  refine bor_ofOV pg Try.func47 (by kernel_rfl) ?_
  conv => whnf
  (repeat' (first | (apply kT (by with_reducible first | rfl | assumption); conv => whnf) | (apply kF (by with_reducible first | rfl | assumption); conv => whnf) | (apply kT (by decide); conv => whnf) | (apply kF (by decide); conv => whnf) | (apply kB <;> intro _ <;> conv => whnf) | fail))
  (refine .inp (.inr (.inl ⟨2, 3, rnC l, lfD l, rfl, rnC_eq l, [0, 1, 2], 3, _, _, [layQ q 1, planO P, rnW l], by show [layQ q 1, planO P, Ob.arw 3 (invAL [0, 1, 2] ((lfD l).map A.d))] = _; rw [inv_d], ci, ?_⟩)); conv => whnf)
  (refine ⟨(lfD l).map A.d, out_d _ _ _, ?_⟩; conv => whnf)
  (refine ⟨rfl, ?_⟩; conv => whnf)
  (repeat' (first | (apply kT (by with_reducible first | rfl | assumption); conv => whnf) | (apply kF (by with_reducible first | rfl | assumption); conv => whnf) | (apply kT (by decide); conv => whnf) | (apply kF (by decide); conv => whnf) | (apply kB <;> intro _ <;> conv => whnf) | fail))
  have ws : ∀ z : Nat, z ≤ 1000 → IntKind.i64.wrap ((z : Int) + 1) = ((z + 1 : Nat) : Int) := fun z hz => by
   rw [wrapI (by omega) (by omega)]; omega
  obtain ⟨hP1, hl1, v1⟩ := giveL_len hq hP hl v (hr _ (List.getElem_mem hi))
  refine ⟨[], [0, 1, 5, 6], [0, 1, 2], 3, fun m s => ∃ (kept junk rest : List Nat) (P' : Pl), rest.length = m ∧ kept.length + junk.length + rest.length = l.length ∧ junk ≠ [] ∧
   (∀ row ∈ P', row.length = 4) ∧ P'.length ≤ 40 ∧ VaP (quQ q) P' ∧ (∀ r ∈ rest, r < q.rs.length) ∧
   delL (quQ q) l P = (kept ++ (delL (quQ q) rest P').1, (delL (quQ q) rest P').2) ∧
   s = ⟨[(0, .own 2), (1, .fn (.func 48) [.ref 0 0] []), (5, .d (dI (kept.length : Nat))), (6, .d (dI ((kept.length + junk.length : Nat) : Int)))], [(0, layQ q 1), (1, planO P'), (2, rnO (kept ++ junk ++ rest))], 3⟩, ?_, ?_⟩
  ·conv => whnf
   refine ⟨l.length - (i + 1), l.take i, [l[i]], l.drop (i + 1), (giveL (quQ q) P l[i]).2, by simp, by simp; omega, by simp, hP1, hl1, v1, fun r hr' => hr r (List.mem_of_mem_drop hr'), del_head _ _ l i hi hno hgi, ?_⟩
   have q1 : (l.take i).length = i := by rw [List.length_take]; omega
   have q2 : l.take i ++ [l[i]] ++ l.drop (i + 1) = l := by simp
   rw [q1, q2, ws i (by omega)]
   rfl
  ·rintro m _ ⟨kept, junk, rest, P', hm, hlen, hj, hP', hl', v', hr', hd, rfl⟩
   have hbl : (rnC (kept ++ junk ++ rest)).length = l.length := by rw [← hlen]; simp; omega
   cases rest with
   | nil =>
    have hd0 := del_nil (quQ q) P'
    rw [hd0] at hd
    rw [hd]
    have g1 : decide (((kept.length + junk.length : Nat) : Int) < ((rnC (kept ++ junk ++ [])).length : Int)) = false := decide_eq_false (by rw [hbl]; simp at hlen; omega)
    conv => whnf
    (repeat' (first | (apply kT (by with_reducible first | rfl | assumption); conv => whnf) | (apply kF (by with_reducible first | rfl | assumption); conv => whnf) | (apply kT (by decide); conv => whnf) | (apply kF (by decide); conv => whnf) | (apply kB <;> intro _ <;> conv => whnf) | fail))
    (refine ⟨kept.length, rfl, by rw [hbl]; simp at hlen; omega, .r ?_⟩; conv => whnf)
    (repeat' (first | (apply kT (by with_reducible first | rfl | assumption); conv => whnf) | (apply kF (by with_reducible first | rfl | assumption); conv => whnf) | (apply kT (by decide); conv => whnf) | (apply kF (by decide); conv => whnf) | (apply kB <;> intro _ <;> conv => whnf) | fail))
    have hc0 : (rnC (kept ++ junk ++ [])).take kept.length = rnC kept := by simp
    have hc1 : (rnC (kept ++ junk ++ [])).take kept.length ++ List.replicate ((rnC (kept ++ junk ++ [])).length - kept.length) [dI 0] ++ (rnC (kept ++ junk ++ [])).drop (kept.length + ((rnC (kept ++ junk ++ [])).length - kept.length)) = rnC kept ++ List.replicate ((rnC (kept ++ junk ++ [])).length - kept.length) [dI 0] := by
     rw [hc0, List.drop_of_length_le (by omega), List.append_nil]
    (refine ⟨kept.length, rfl, by rw [hbl]; simp at hlen; omega, _, hc1, ?_⟩; conv => whnf)
    (repeat' (first | (apply kT (by with_reducible first | rfl | assumption); conv => whnf) | (apply kF (by with_reducible first | rfl | assumption); conv => whnf) | (apply kT (by decide); conv => whnf) | (apply kF (by decide); conv => whnf) | (apply kB <;> intro _ <;> conv => whnf) | fail))
    have hc2 : (rnC kept ++ List.replicate ((rnC (kept ++ junk ++ [])).length - kept.length) [dI 0]).take kept.length = rnC kept := by simp
    (refine ⟨kept.length, rfl, by simp, .l ⟨_, hc2, ?_⟩⟩; conv => whnf)
    (repeat' (first | (apply kT (by with_reducible first | rfl | assumption); conv => whnf) | (apply kF (by with_reducible first | rfl | assumption); conv => whnf) | (apply kT (by decide); conv => whnf) | (apply kF (by decide); conv => whnf) | (apply kB <;> intro _ <;> conv => whnf) | fail))
    refine ⟨[], [], ?_⟩
    conv => whnf
    (refine ⟨[0, 1, 2], ?_⟩; conv => whnf)
    rw [List.append_nil]
    exact ⟨rfl, rfl⟩
   | cons x rest =>
    have g1 : decide (((kept.length + junk.length : Nat) : Int) < ((rnC (kept ++ junk ++ x :: rest)).length : Int)) = true := decide_eq_true (by rw [hbl]; simp at hlen; omega)
    have hg : (rnC (kept ++ junk ++ x :: rest))[kept.length + junk.length]? = some [dI (x : Int)] := by
     simp [List.getElem?_append]
    have cg := give_bor q hq P' hP' hl' v' x (hr' x List.mem_cons_self)
    have w1 := ws (kept.length + junk.length) (by omega)
    have w2 := ws kept.length (by omega)
    cases hgv : (giveL (quQ q) P' x).1 with
    | true =>
     rw [hgv] at cg
     obtain ⟨hP2, hl2, v2⟩ := giveL_len hq hP' hl' v' (hr' x List.mem_cons_self)
     have hd2 := del_yes rest hgv
     rw [hd2] at hd
     conv => whnf
     (repeat' (first | (apply kT (by with_reducible first | rfl | assumption); conv => whnf) | (apply kF (by with_reducible first | rfl | assumption); conv => whnf) | (apply kT (by decide); conv => whnf) | (apply kF (by decide); conv => whnf) | (apply kB <;> intro _ <;> conv => whnf) | fail))
     (refine ⟨kept.length + junk.length, rfl, by rw [hbl]; simp at hlen; omega, ?_⟩; conv => whnf)
     (repeat' (first | (apply kT (by with_reducible first | rfl | assumption); conv => whnf) | (apply kF (by with_reducible first | rfl | assumption); conv => whnf) | (apply kT (by decide); conv => whnf) | (apply kF (by decide); conv => whnf) | (apply kB <;> intro _ <;> conv => whnf) | fail))
     (refine ⟨_, hg, _, rfl, ?_⟩; conv => whnf)
     (repeat' (first | (apply kT (by with_reducible first | rfl | assumption); conv => whnf) | (apply kF (by with_reducible first | rfl | assumption); conv => whnf) | (apply kT (by decide); conv => whnf) | (apply kF (by decide); conv => whnf) | (apply kB <;> intro _ <;> conv => whnf) | fail))
     (refine .inr ⟨[0, 1], 5, _, _, cg, ?_⟩; conv => whnf)
     (repeat' (first | (apply kT (by with_reducible first | rfl | assumption); conv => whnf) | (apply kF (by with_reducible first | rfl | assumption); conv => whnf) | (apply kT (by decide); conv => whnf) | (apply kF (by decide); conv => whnf) | (apply kB <;> intro _ <;> conv => whnf) | fail))
     refine ⟨rest.length, by rw [← hm]; simp, kept, junk ++ [x], rest, _, rfl, by simp at hlen ⊢; omega, by simp, hP2, hl2, v2, fun r h => hr' r (List.mem_cons_of_mem _ h), hd, ?_⟩
     have e9 : kept ++ (junk ++ [x]) ++ rest = kept ++ junk ++ x :: rest := by simp
     have e8 : kept.length + (junk ++ [x]).length = kept.length + junk.length + 1 := by simp; omega
     rw [w1, e9, e8]
     rfl
    | false =>
     have e3 := giveL_no hgv
     rw [hgv, e3] at cg
     have hd2 := del_no rest hgv
     rw [hd2] at hd
     obtain ⟨y, ys, rfl⟩ : ∃ y ys, junk = y :: ys := by cases junk with
      | nil => exact absurd rfl hj
      | cons y ys => exact ⟨y, ys, rfl⟩
     have hst := set_kept kept (y :: ys) x rest y ys rfl
     conv => whnf
     (repeat' (first | (apply kT (by with_reducible first | rfl | assumption); conv => whnf) | (apply kF (by with_reducible first | rfl | assumption); conv => whnf) | (apply kT (by decide); conv => whnf) | (apply kF (by decide); conv => whnf) | (apply kB <;> intro _ <;> conv => whnf) | fail))
     (refine ⟨kept.length + (y :: ys).length, rfl, by rw [hbl]; simp at hlen ⊢; omega, ?_⟩; conv => whnf)
     (repeat' (first | (apply kT (by with_reducible first | rfl | assumption); conv => whnf) | (apply kF (by with_reducible first | rfl | assumption); conv => whnf) | (apply kT (by decide); conv => whnf) | (apply kF (by decide); conv => whnf) | (apply kB <;> intro _ <;> conv => whnf) | fail))
     (refine ⟨_, hg, _, rfl, ?_⟩; conv => whnf)
     (repeat' (first | (apply kT (by with_reducible first | rfl | assumption); conv => whnf) | (apply kF (by with_reducible first | rfl | assumption); conv => whnf) | (apply kT (by decide); conv => whnf) | (apply kF (by decide); conv => whnf) | (apply kB <;> intro _ <;> conv => whnf) | fail))
     (refine .inr ⟨[0, 1], 5, _, _, cg, ?_⟩; conv => whnf)
     (repeat' (first | (apply kT (by with_reducible first | rfl | assumption); conv => whnf) | (apply kF (by with_reducible first | rfl | assumption); conv => whnf) | (apply kT (by decide); conv => whnf) | (apply kF (by decide); conv => whnf) | (apply kB <;> intro _ <;> conv => whnf) | fail))
     (refine ⟨kept.length, rfl, by rw [hbl]; simp at hlen ⊢; omega, ?_⟩; conv => whnf)
     (repeat' (first | (apply kT (by with_reducible first | rfl | assumption); conv => whnf) | (apply kF (by with_reducible first | rfl | assumption); conv => whnf) | (apply kT (by decide); conv => whnf) | (apply kF (by decide); conv => whnf) | (apply kB <;> intro _ <;> conv => whnf) | fail))
     have hgk : (rnC (kept ++ y :: ys ++ x :: rest))[kept.length]? = some [dI (y : Int)] := by simp
     (refine ⟨_, hgk, rfl, Nat.le_refl _, _, hst, ?_⟩; conv => whnf)
     (repeat' (first | (apply kT (by with_reducible first | rfl | assumption); conv => whnf) | (apply kF (by with_reducible first | rfl | assumption); conv => whnf) | (apply kT (by decide); conv => whnf) | (apply kF (by decide); conv => whnf) | (apply kB <;> intro _ <;> conv => whnf) | fail))
     refine ⟨rest.length, by rw [← hm]; simp, kept ++ [x], ys ++ [x], rest, P', rfl, by simp at hlen ⊢; omega, by simp, hP', hl', v', fun r h => hr' r (List.mem_cons_of_mem _ h), by rw [hd]; simp, ?_⟩
     have e8 : (kept ++ [x]).length = kept.length + 1 := by simp
     have e9 : (kept ++ [x]).length + (ys ++ [x]).length = kept.length + (y :: ys).length + 1 := by simp; omega
     rw [w1, w2, e9, e8]
     rfl
end Go.Ev.Ytijidghjiaiccaa


set_option linter.unusedVariables false
set_option linter.unusedSimpArgs false
set_option maxRecDepth 100000
namespace Go.Ev.Ytijidghjiaiccaa
open Go.Proofs
abbrev hrsQ (q : Que) : List Nat := q.rs.map fun r => r.hrs.toNat
def itK (h : List Nat) (k : Nat) : List Nat := (List.range k).flatMap fun i => List.replicate ((h[i]?).getD 0) i
theorem itK_succ (h : List Nat) (k : Nat) : itK h (k + 1) = itK h k ++ List.replicate ((h[k]?).getD 0) k := by
 unfold itK
 rw [List.range_succ, List.flatMap_append, List.flatMap_singleton]
theorem itK_len (h : List Nat) (hh : ∀ x ∈ h, x ≤ 40) : ∀ k, (itK h k).length ≤ 40 * k
 | 0 => by simp [itK]
 | k + 1 => by
  rw [itK_succ, List.length_append, List.length_replicate]
  have := itK_len h hh k
  have : (h[k]?).getD 0 ≤ 40 := by
   cases e : h[k]? with
   | none => simp
   | some x => exact hh x (List.mem_of_getElem? e)
  omega
theorem itK_mem {h : List Nat} {k r : Nat} (hr : r ∈ itK h k) : r < k := by
 unfold itK at hr
 obtain ⟨i, hi, hm⟩ := List.mem_flatMap.1 hr
 rw [List.mem_replicate] at hm
 rw [hm.2]
 exact List.mem_range.1 hi
theorem layL_done {Q : Qu} {f : Nat} {P : Pl} : layL Q f P [] = some P := by cases f <;> simp [layL]
theorem layL_full {Q : Qu} {P : Pl} {x : Nat} {l : List Nat} : layL Q 0 P (x :: l) = none := by simp [layL]
theorem layL_go {Q : Qu} {f : Nat} {P : Pl} {x : Nat} {l : List Nat} : layL Q (f + 1) P (x :: l) = layL Q f (delL Q (x :: l) (P ++ [idleR])).2 (delL Q (x :: l) (P ++ [idleR])).1 := by rw [layL, if_neg (by simp)]
theorem del_len (Q : Qu) : ∀ (l : List Nat) (P : Pl), (delL Q l P).1.length ≤ l.length
 | [], P => Nat.le_refl _
 | r :: rs, P => by
  rw [delL]
  split
  ·have := del_len Q rs (giveL Q P r).2
   simp; omega
  ·have := del_len Q rs P
   simp; omega
theorem del_keep {q : Que} (hq : QOK q) : ∀ (l : List Nat) (P : Pl), (∀ row ∈ P, row.length = 4) → P.length ≤ 40 → VaP (quQ q) P → (∀ r ∈ l, r < q.rs.length) →
  (delL (quQ q) l P).2.length = P.length ∧ (∀ row ∈ (delL (quQ q) l P).2, row.length = 4) ∧ VaP (quQ q) (delL (quQ q) l P).2 ∧ (∀ r ∈ (delL (quQ q) l P).1, r < q.rs.length) ∧ (delL (quQ q) l P).1.length ≤ l.length := fun l P hP hl v hr => by
 obtain ⟨a1, a2, a3, a4, _, _⟩ := del_law (Q := quQ q) (hrs := fun r => cnt (cellP P) P.length r + l.count r) l P (fun _ => 0) ⟨hq.n, hq.nm, hl, hP⟩ v hr fun r _ => by omega
 exact ⟨a1, a2, a3, a4, del_len _ l P⟩
attribute [local irreducible] Pure Bor Iter inB giveL bfs delL layL itK
set_option maxHeartbeats 1000000 in
theorem lay_bor (q : Que) (hq : QOK q) (hH : ∀ r ∈ q.rs, 0 ≤ r.hrs ∧ r.hrs ≤ 40) : Bor tb Try.prog 17 [.d (quD q)] [] 2
  (match layL (quQ q) 40 [] (itK (hrsQ q) q.rs.length) with
   | some P => .tup [.ref 0 0, .d (dB true)]
   | none => .d (.tup [.v (.pointer none), dB false]))
  (match layL (quQ q) 40 [] (itK (hrsQ q) q.rs.length) with
   | some P => [(0, layQ q 1), (1, planO P)]
   | none => []) := by
 refine bor_ofOV pg Try.func17 (by kernel_rfl) ?_
 conv => whnf
 (repeat' (first | (apply kT (by with_reducible first | rfl | assumption); conv => whnf) | (apply kF (by with_reducible first | rfl | assumption); conv => whnf) | (apply kT (by decide); conv => whnf) | (apply kF (by decide); conv => whnf) | (apply kB <;> intro _ <;> conv => whnf) | fail))
 refine ⟨[.cown 1 2 81, .own 5 3], [2, 3, 4, 5, 12, 13, 14], [1, 2, 3], 4, fun m s => ∃ k : Nat, k + m = q.rs.length ∧ s = ⟨[(2, .d (.v (.pointer none))), (3, .d (dB false)), (4, .ref 1 0), (5, .own 3), (12, .d (.seq (rnsD q.rs))), (13, .d (dI ((rnsD q.rs).length : Nat))), (14, .d (dI k))], [(1, layQ q 2), (2, planO []), (3, rnO (itK (hrsQ q) k))], 4⟩, ?_, ?_⟩
 ·conv => whnf
  refine ⟨q.rs.length, 0, by omega, ?_⟩
  have e : itK (hrsQ q) 0 = [] := by unfold itK; rfl
  rw [e]
  rfl
 ·rintro m _ ⟨k, hk, rfl⟩
  have hlr : (rnsD q.rs).length = q.rs.length := by simp
  have hqn := hq.n
  have hitl := itK_len (hrsQ q) (fun x hx => by
   obtain ⟨r, hr, rfl⟩ := List.mem_map.1 hx
   have := hH r hr
   omega) k
  rcases Decidable.em (k < q.rs.length) with hkn | hkn
  ·have g1 : decide ((k : Int) < ((rnsD q.rs).length : Int)) = true := decide_eq_true (by rw [hlr]; omega)
   have hg : (rnsD q.rs)[k]? = some (rnD q.rs[k]) := by simp [hkn]
   obtain ⟨hh0, hh1⟩ := hH _ (List.getElem_mem hkn)
   have hst := itK_succ (hrsQ q) k
   have hget : ((hrsQ q)[k]?).getD 0 = (q.rs[k]).hrs.toNat := by simp [hkn]
   rw [hget] at hst
   obtain ⟨n, hn⟩ : ∃ n : Nat, n = (q.rs[k]).hrs.toNat := ⟨_, rfl⟩
   have hn' : (q.rs[k]).hrs = (n : Int) := by omega
   rw [← hn] at hst
   have cr := repeat_bor k n (by omega)
   rw [← hn'] at cr
   have wk : IntKind.i64.wrap ((k : Int) + 1) = ((k + 1 : Nat) : Int) := by
    rw [wrapI (by omega) (by omega)]; omega
   conv => whnf
   (repeat' (first | (apply kT (by with_reducible first | rfl | assumption); conv => whnf) | (apply kF (by with_reducible first | rfl | assumption); conv => whnf) | (apply kT (by decide); conv => whnf) | (apply kF (by decide); conv => whnf) | (apply kB <;> intro _ <;> conv => whnf) | fail))
   (refine ⟨k, _, rfl, hg, rfl, ?_⟩; conv => whnf)
   (repeat' (first | (apply kT (by with_reducible first | rfl | assumption); conv => whnf) | (apply kF (by with_reducible first | rfl | assumption); conv => whnf) | (apply kT (by decide); conv => whnf) | (apply kF (by decide); conv => whnf) | (apply kB <;> intro _ <;> conv => whnf) | fail))
   (refine .l ?_; conv => whnf)
   (repeat' (first | (apply kT (by with_reducible first | rfl | assumption); conv => whnf) | (apply kF (by with_reducible first | rfl | assumption); conv => whnf) | (apply kT (by decide); conv => whnf) | (apply kF (by decide); conv => whnf) | (apply kB <;> intro _ <;> conv => whnf) | fail))
   (refine .inr ⟨[], 1, _, _, cr, ?_⟩; conv => whnf)
   (repeat' (first | (apply kT (by with_reducible first | rfl | assumption); conv => whnf) | (apply kF (by with_reducible first | rfl | assumption); conv => whnf) | (apply kT (by decide); conv => whnf) | (apply kF (by decide); conv => whnf) | (apply kB <;> intro _ <;> conv => whnf) | fail))
   (refine ⟨fun el h => by rw [List.eq_of_mem_replicate h]; rfl, by show (_ + _) * 8 ≤ _; simp; omega, ?_⟩; conv => whnf)
   (repeat' (first | (apply kT (by with_reducible first | rfl | assumption); conv => whnf) | (apply kF (by with_reducible first | rfl | assumption); conv => whnf) | (apply kT (by decide); conv => whnf) | (apply kF (by decide); conv => whnf) | (apply kB <;> intro _ <;> conv => whnf) | fail))
   have hra : rnC (itK (hrsQ q) (k + 1)) = rnC (itK (hrsQ q) k) ++ List.replicate n [dI (k : Int)] := by rw [hst]; simp
   refine ⟨m - 1, by omega, k + 1, by omega, ?_⟩
   rw [wk, ← hra]
  ·have ekn : k = q.rs.length := by omega
   have g1 : decide ((k : Int) < ((rnsD q.rs).length : Int)) = false := decide_eq_false (by rw [hlr]; omega)
   conv => whnf
   (repeat' (first | (apply kT (by with_reducible first | rfl | assumption); conv => whnf) | (apply kF (by with_reducible first | rfl | assumption); conv => whnf) | (apply kT (by decide); conv => whnf) | (apply kF (by decide); conv => whnf) | (apply kB <;> intro _ <;> conv => whnf) | fail))
   refine ⟨[.rex], [4, 5], [1, 2, 3], 4, fun f s => ∃ (P : Pl) (left : List Nat), f + P.length = 40 ∧ (∀ row ∈ P, row.length = 4) ∧ VaP (quQ q) P ∧ (∀ r ∈ left, r < q.rs.length) ∧ left.length ≤ 1000 ∧
    layL (quQ q) 40 [] (itK (hrsQ q) q.rs.length) = layL (quQ q) f P left ∧ s = ⟨[(4, .ref 1 0), (5, .own 3)], [(1, layQ q 2), (2, planO P), (3, rnO left)], 4⟩, ?_, ?_⟩
   ·conv => whnf
    refine ⟨40, [], itK (hrsQ q) k, rfl, by simp, ⟨fun h hh => absurd hh (Nat.not_lt_zero _), fun h hh => absurd hh (Nat.not_lt_zero _)⟩, ?_, by omega, by rw [ekn], rfl⟩
    intro r hr
    rw [ekn] at hr
    have := itK_mem hr
    exact this
   ·rintro f _ ⟨P, left, hf, hP, v, hle, hll, hlay, rfl⟩
    have hrl : (rnC left).length = left.length := by simp
    have hrp : (rowsD P).length = P.length := by simp [rowsD]
    cases left with
    | nil =>
     rw [hlay, layL_done]
     conv => whnf
     (repeat' (first | (apply kT (by with_reducible first | rfl | assumption); conv => whnf) | (apply kF (by with_reducible first | rfl | assumption); conv => whnf) | (apply kT (by decide); conv => whnf) | (apply kF (by decide); conv => whnf) | (apply kB <;> intro _ <;> conv => whnf) | fail))
     refine ⟨[], [.rex], ?_⟩
     (refine ⟨[1, 2], ?_⟩; conv => whnf)
     (refine ⟨[0, 1], ?_⟩; conv => whnf)
     exact ⟨rfl, rfl⟩
    | cons x left =>
     have g2 : decide (((rnC (x :: left)).length : Int) > 0) = true := decide_eq_true (by rw [hrl]; simp)
     cases f with
     | zero =>
      have g3 : (((rowsD P).length : Int) == 40) = true := by rw [beq_iff_eq, hrp]; omega
      rw [hlay, layL_full]
      conv => whnf
      (repeat' (first | (apply kT (by with_reducible first | rfl | assumption); conv => whnf) | (apply kF (by with_reducible first | rfl | assumption); conv => whnf) | (apply kT (by decide); conv => whnf) | (apply kF (by decide); conv => whnf) | (apply kB <;> intro _ <;> conv => whnf) | fail))
      refine ⟨[], [], ?_⟩
      conv => whnf
      (refine ⟨[], ?_⟩; conv => whnf)
      exact ⟨rfl, rfl⟩
     | succ f =>
      have g3 : (((rowsD P).length : Int) == 40) = false := by rw [beq_eq_false_iff_ne, hrp]; omega
      rw [layL_go] at hlay
      have ci := idle_pure
      have hP1 : ∀ row ∈ P ++ [idleR], row.length = 4 := fun row hr => by
       rcases List.mem_append.1 hr with h | h
       ·exact hP row h
       ·rw [List.mem_singleton.1 h]; rfl
      have hl1 : (P ++ [idleR]).length ≤ 40 := by rw [List.length_append, List.length_singleton]; omega
      have hrw : rowsD (P ++ [idleR]) = rowsD P ++ [[dI (-1), dI (-1), dI (-1), dI (-1)]] := by simp [rowsD]
      have cd := del_bor q hq (P ++ [idleR]) hP1 hl1 (va_row v) (x :: left) hle hll
      obtain ⟨a1, a2, a3, a4, a5⟩ := del_keep hq (x :: left) (P ++ [idleR]) hP1 hl1 (va_row v) hle
      generalize (delL (quQ q) (x :: left) (P ++ [idleR])).2 = P2 at *
      generalize (delL (quQ q) (x :: left) (P ++ [idleR])).1 = l2 at *
      unfold planO at cd
      rw [hrw] at cd
      conv => whnf
      (repeat' (first | (apply kT (by with_reducible first | rfl | assumption); conv => whnf) | (apply kF (by with_reducible first | rfl | assumption); conv => whnf) | (apply kT (by decide); conv => whnf) | (apply kF (by decide); conv => whnf) | (apply kB <;> intro _ <;> conv => whnf) | (refine .inl ⟨_, ci, ?_⟩; conv => whnf) | fail))
      (refine .l ?_; conv => whnf)
      (repeat' (first | (apply kT (by with_reducible first | rfl | assumption); conv => whnf) | (apply kF (by with_reducible first | rfl | assumption); conv => whnf) | (apply kT (by decide); conv => whnf) | (apply kF (by decide); conv => whnf) | (apply kB <;> intro _ <;> conv => whnf) | fail))
      (refine ⟨fun el h => by rw [List.mem_singleton.1 h]; rfl, by show (_ + _) * 32 ≤ _; rw [hrp]; simp; omega, ?_⟩; conv => whnf)
      (repeat' (first | (apply kT (by with_reducible first | rfl | assumption); conv => whnf) | (apply kF (by with_reducible first | rfl | assumption); conv => whnf) | (apply kT (by decide); conv => whnf) | (apply kF (by decide); conv => whnf) | (apply kB <;> intro _ <;> conv => whnf) | fail))
      (refine .inr ⟨[1, 60, 3], 3, _, _, cd, ?_⟩; conv => whnf)
      (repeat' (first | (apply kT (by with_reducible first | rfl | assumption); conv => whnf) | (apply kF (by with_reducible first | rfl | assumption); conv => whnf) | (apply kT (by decide); conv => whnf) | (apply kF (by decide); conv => whnf) | (apply kB <;> intro _ <;> conv => whnf) | fail))
      (refine ⟨[0, 1, 60, 3], ?_⟩; conv => whnf)
      refine ⟨f, by omega, P2, l2, by rw [a1, List.length_append, List.length_singleton]; omega, a2, a3, a4, by omega, hlay, ?_⟩
      rfl
end Go.Ev.Ytijidghjiaiccaa


set_option linter.unusedVariables false
set_option linter.unusedSimpArgs false
set_option maxRecDepth 100000
namespace Go.Ev.Ytijidghjiaiccaa
open Go.Proofs
abbrev rgC (x : Int × Int) : List D := [dI x.1, dI x.2]
abbrev rgA (x : Int × Int) : D := .agg (rgC x)
abbrev mcC (l : List (Int × Int)) : List D := [.seq (l.map rgC)]
abbrev mcA (l : List (Int × Int)) : D := .seq (l.map rgC)
def ixI {α : Type} (q : α → Bool) (l : List α) : Int :=
 match l.findIdx? q with
 | some i => (i : Int)
 | none => -1
theorem ixI_at {α : Type} {q : α → Bool} {l : List α} {k : Nat} (hk : k < l.length) (h1 : ∀ j (h : j < k), q (l[j]'(by omega)) = false) (h2 : q l[k] = true) : ixI q l = k := by
 have : l.findIdx? q = some k := by
  rw [List.findIdx?_eq_some_iff_getElem]
  exact ⟨hk, h2, fun j hj => by rw [h1 j hj]; simp⟩
 unfold ixI
 rw [this]
theorem ixI_none {α : Type} {q : α → Bool} {l : List α} (h : ∀ j (h : j < l.length), q l[j] = false) : ixI q l = -1 := by
 have : l.findIdx? q = none := by
  rw [List.findIdx?_eq_none_iff]
  intro x hx
  obtain ⟨j, hj, rfl⟩ := List.getElem_of_mem hx
  rw [h j hj]
 unfold ixI
 rw [this]
theorem ixI_all {α : Type} (p : α → Bool) (l : List α) : decide (ixI (fun x => !p x) l ≥ 0) = !l.all p := by
 by_cases h : l.all p = true
 ·rw [ixI_none, h]
  ·rfl
  ·intro j hj
   have := List.all_eq_true.1 h _ (List.getElem_mem hj)
   simp [this]
 ·rw [(Bool.not_eq_true _).mp h]
  have hn : l.findIdx? (fun x => !p x) ≠ none := by
   intro e
   rw [List.findIdx?_eq_none_iff] at e
   apply h
   rw [List.all_eq_true]
   intro x hx
   simpa using e x hx
  unfold ixI
  cases e : l.findIdx? (fun x => !p x) with
  | none => exact absurd e hn
  | some i => simp
attribute [local irreducible] Pure Bor Iter inB
def hoursB (x : Int × Int) : Bool := (inB x.1 0 39 && inB x.2 0 39) && decide (x.1 ≤ x.2)
theorem hours_pure (x : Int × Int) : Pure Try.prog 41 [rgA x] (dB (hoursB x)) := by
 refine pure_of pg Try.func41 (by kernel_rfl) ?_
 conv => whnf
 (repeat' (first | (apply kT (by with_reducible first | rfl | assumption); conv => whnf) | (apply kF (by with_reducible first | rfl | assumption); conv => whnf) | (apply kT (by decide); conv => whnf) | (apply kF (by decide); conv => whnf) | (apply kB <;> intro _ <;> conv => whnf) | (refine .inl ⟨_, hour_pure .., ?_⟩; conv => whnf) | fail))
 all_goals (unfold hoursB; simp only [*, Bool.true_and, Bool.false_and, Bool.and_true, Bool.and_false]; rfl)
theorem six_pure (l : List (Int × Int)) : Pure Try.prog 38 [mcA l] (dB (decide (l.length ≤ 6))) := by
 have hm : ((l.map rgC).length : Int) = l.length := by rw [List.length_map]
 have e : decide (((l.map rgC).length : Int) ≤ 6) = decide (l.length ≤ 6) := by rw [hm]; congr 1; apply propext; omega
 rw [← e]
 refine pure_of pg Try.func38 (by kernel_rfl) ?_
 conv => whnf
 (repeat' (first | (apply kT (by with_reducible first | rfl | assumption); conv => whnf) | (apply kF (by with_reducible first | rfl | assumption); conv => whnf) | (apply kT (by decide); conv => whnf) | (apply kF (by decide); conv => whnf) | (apply kB <;> intro _ <;> conv => whnf) | fail))
 rfl
abbrev fOR (f : Nat) : Ob := .var false 106 [.d (.fn (.func f) [] [])]
theorem all1R (f : Nat) (p : (Int × Int) → Bool) (x : (Int × Int)) (hp : Pure Try.prog f [rgA x] (dB (p x))) : Bor tb Try.prog 68 [.d (rgA x), .ref 0 0] [fOR f] 2 (.d (dB (!p x))) [(0, fOR f)] := by
 refine bor_of pg Try.func68 (by kernel_rfl) ?_
 conv => whnf
 (repeat' (first | (apply kT (by with_reducible first | rfl | assumption); conv => whnf) | (apply kF (by with_reducible first | rfl | assumption); conv => whnf) | (apply kT (by decide); conv => whnf) | (apply kF (by decide); conv => whnf) | (apply kB <;> intro _ <;> conv => whnf) | (refine .inl ⟨_, hp, ?_⟩; conv => whnf) | fail))
 (refine ⟨[], [0], ?_⟩; conv => whnf)
 exact ⟨by cases p x <;> rfl, rfl⟩
theorem idxR (f : Nat) (p : (Int × Int) → Bool) (l : List (Int × Int)) (hl : l.length ≤ 100000) (hp : ∀ x ∈ l, Pure Try.prog f [rgA x] (dB (p x))) : Bor tb Try.prog 86 [.d (.seq (l.map rgC)), .fn (.func 68) [] [.ref 0 0]] [fOR f] 2 (.d (dI (ixI (fun x => !p x) l))) [(0, fOR f)] := by
 have hm : ((l.map rgC).length : Int) = l.length := by rw [List.length_map]
 refine bor_of pg Try.func86 (by kernel_rfl) ?_
 conv => whnf
 (repeat' (first | (apply kT (by with_reducible first | rfl | assumption); conv => whnf) | (apply kF (by with_reducible first | rfl | assumption); conv => whnf) | (apply kT (by decide); conv => whnf) | (apply kF (by decide); conv => whnf) | (apply kB <;> intro _ <;> conv => whnf) | fail))
 refine ⟨[], [0, 1, 7, 8], [0], 1, fun m s => ∃ k : Nat, k + m = l.length ∧ (∀ j (h : j < k) (h2 : j < l.length), (!p l[j]) = false) ∧ s = ⟨[(0, .d (.seq (l.map rgC))), (1, .fn (.func 68) [] [.ref 0 0]), (7, .d (dI ((l.map rgC).length : Nat))), (8, .d (dI k))], [(0, fOR f)], 1⟩, ?_, ?_⟩
 ·conv => whnf
  exact ⟨l.length, 0, by omega, fun j h => by omega, rfl⟩
 ·rintro m _ ⟨k, hk, hno, rfl⟩
  by_cases hkl : k < l.length
  ·have f1 : decide ((k : Int) < ((l.map rgC).length : Int)) = true := decide_eq_true (by rw [hm]; omega)
   have hg : (l.map rgC)[k]? = some (rgC l[k]) := by rw [List.getElem?_map, List.getElem?_eq_getElem hkl]; rfl
   have w1k : IntKind.i64.wrap ((k : Int) + 1) = ((k + 1 : Nat) : Int) := by rw [wrapI (by omega) (by omega)]; rfl
   have cs := all1R f p l[k] (hp _ (List.getElem_mem _))
   by_cases he : (!p l[k]) = true
   ·have e := ixI_at (q := fun x => !p x) hkl (fun j hj => hno j hj (by omega)) he
    rw [e]
    rw [he] at cs
    conv => whnf
    (repeat' (first | (apply kT (by with_reducible first | rfl | assumption); conv => whnf) | (apply kF (by with_reducible first | rfl | assumption); conv => whnf) | (apply kT (by decide); conv => whnf) | (apply kF (by decide); conv => whnf) | (apply kB <;> intro _ <;> conv => whnf) | fail))
    (refine ⟨k, _, rfl, hg, rfl, ?_⟩; conv => whnf)
    (refine .inr ⟨[0], 2, _, _, cs, ?_⟩; conv => whnf)
    (repeat' (first | (apply kT (by with_reducible first | rfl | assumption); conv => whnf) | (apply kF (by with_reducible first | rfl | assumption); conv => whnf) | (apply kT (by decide); conv => whnf) | (apply kF (by decide); conv => whnf) | (apply kB <;> intro _ <;> conv => whnf) | fail))
    (refine ⟨[], [0], ?_⟩; conv => whnf)
    exact ⟨rfl, rfl⟩
   ·have he := (Bool.not_eq_true _).mp he
    rw [he] at cs
    conv => whnf
    (repeat' (first | (apply kT (by with_reducible first | rfl | assumption); conv => whnf) | (apply kF (by with_reducible first | rfl | assumption); conv => whnf) | (apply kT (by decide); conv => whnf) | (apply kF (by decide); conv => whnf) | (apply kB <;> intro _ <;> conv => whnf) | fail))
    (refine ⟨k, _, rfl, hg, rfl, ?_⟩; conv => whnf)
    (refine .inr ⟨[0], 2, _, _, cs, ?_⟩; conv => whnf)
    (repeat' (first | (apply kT (by with_reducible first | rfl | assumption); conv => whnf) | (apply kF (by with_reducible first | rfl | assumption); conv => whnf) | (apply kT (by decide); conv => whnf) | (apply kF (by decide); conv => whnf) | (apply kB <;> intro _ <;> conv => whnf) | fail))
    refine ⟨m - 1, by omega, k + 1, by omega, fun j hj hjl => ?_, ?_⟩
    ·by_cases h : j < k
     ·exact hno j h hjl
     ·have : j = k := by omega
      subst this
      exact he
    ·rw [w1k]
  ·have f1 : decide ((k : Int) < ((l.map rgC).length : Int)) = false := decide_eq_false (by rw [hm]; omega)
   have e := ixI_none (q := fun x => !p x) (l := l) fun j hj => hno j (by omega) hj
   rw [e]
   conv => whnf
   (repeat' (first | (apply kT (by with_reducible first | rfl | assumption); conv => whnf) | (apply kF (by with_reducible first | rfl | assumption); conv => whnf) | (apply kT (by decide); conv => whnf) | (apply kF (by decide); conv => whnf) | (apply kB <;> intro _ <;> conv => whnf) | fail))
   (refine ⟨[], [0], ?_⟩; conv => whnf)
   exact ⟨rfl, rfl⟩
theorem hasR (f : Nat) (p : (Int × Int) → Bool) (l : List (Int × Int)) (hl : l.length ≤ 100000) (hp : ∀ x ∈ l, Pure Try.prog f [rgA x] (dB (p x))) : Bor tb Try.prog 67 [.d (.seq (l.map rgC)), .fn (.func 68) [] [.ref 0 0]] [fOR f] 2 (.d (dB (!l.all p))) [(0, fOR f)] := by
 have ci := idxR f p l hl hp
 rw [← ixI_all]
 refine bor_of pg Try.func67 (by kernel_rfl) ?_
 conv => whnf
 (repeat' (first | (apply kT (by with_reducible first | rfl | assumption); conv => whnf) | (apply kF (by with_reducible first | rfl | assumption); conv => whnf) | (apply kT (by decide); conv => whnf) | (apply kF (by decide); conv => whnf) | (apply kB <;> intro _ <;> conv => whnf) | fail))
 (refine .inr ⟨[0], 2, _, _, ci, ?_⟩; conv => whnf)
 (repeat' (first | (apply kT (by with_reducible first | rfl | assumption); conv => whnf) | (apply kF (by with_reducible first | rfl | assumption); conv => whnf) | (apply kT (by decide); conv => whnf) | (apply kF (by decide); conv => whnf) | (apply kB <;> intro _ <;> conv => whnf) | fail))
 (refine ⟨[], [0], ?_⟩; conv => whnf)
 exact ⟨rfl, rfl⟩
theorem allR (f : Nat) (p : (Int × Int) → Bool) (l : List (Int × Int)) (hl : l.length ≤ 100000) (hp : ∀ x ∈ l, Pure Try.prog f [rgA x] (dB (p x))) : Pure Try.prog 40 [.seq (l.map rgC), .fn (.func f) [] []] (dB (l.all p)) := by
 have ci := hasR f p l hl hp
 refine pure_of pg Try.func40 (by kernel_rfl) ?_
 conv => whnf
 (repeat' (first | (apply kT (by with_reducible first | rfl | assumption); conv => whnf) | (apply kF (by with_reducible first | rfl | assumption); conv => whnf) | (apply kT (by decide); conv => whnf) | (apply kF (by decide); conv => whnf) | (apply kB <;> intro _ <;> conv => whnf) | fail))
 (refine .inr ⟨[0], 2, _, _, ci, ?_⟩; conv => whnf)
 (repeat' (first | (apply kT (by with_reducible first | rfl | assumption); conv => whnf) | (apply kF (by with_reducible first | rfl | assumption); conv => whnf) | (apply kT (by decide); conv => whnf) | (apply kF (by decide); conv => whnf) | (apply kB <;> intro _ <;> conv => whnf) | fail))
 cases l.all p <;> rfl
abbrev fOM (f : Nat) : Ob := .var false 104 [.d (.fn (.func f) [] [])]
theorem all1M (f : Nat) (p : (List (Int × Int)) → Bool) (x : (List (Int × Int))) (hp : Pure Try.prog f [mcA x] (dB (p x))) : Bor tb Try.prog 70 [.d (mcA x), .ref 0 0] [fOM f] 2 (.d (dB (!p x))) [(0, fOM f)] := by
 refine bor_of pg Try.func70 (by kernel_rfl) ?_
 conv => whnf
 (repeat' (first | (apply kT (by with_reducible first | rfl | assumption); conv => whnf) | (apply kF (by with_reducible first | rfl | assumption); conv => whnf) | (apply kT (by decide); conv => whnf) | (apply kF (by decide); conv => whnf) | (apply kB <;> intro _ <;> conv => whnf) | (refine .inl ⟨_, hp, ?_⟩; conv => whnf) | fail))
 (refine ⟨[], [0], ?_⟩; conv => whnf)
 exact ⟨by cases p x <;> rfl, rfl⟩
theorem idxM (f : Nat) (p : (List (Int × Int)) → Bool) (l : List (List (Int × Int))) (hl : l.length ≤ 100000) (hp : ∀ x ∈ l, Pure Try.prog f [mcA x] (dB (p x))) : Bor tb Try.prog 87 [.d (.seq (l.map mcC)), .fn (.func 70) [] [.ref 0 0]] [fOM f] 2 (.d (dI (ixI (fun x => !p x) l))) [(0, fOM f)] := by
 have hm : ((l.map mcC).length : Int) = l.length := by rw [List.length_map]
 refine bor_of pg Try.func87 (by kernel_rfl) ?_
 conv => whnf
 (repeat' (first | (apply kT (by with_reducible first | rfl | assumption); conv => whnf) | (apply kF (by with_reducible first | rfl | assumption); conv => whnf) | (apply kT (by decide); conv => whnf) | (apply kF (by decide); conv => whnf) | (apply kB <;> intro _ <;> conv => whnf) | fail))
 refine ⟨[], [0, 1, 7, 8], [0], 1, fun m s => ∃ k : Nat, k + m = l.length ∧ (∀ j (h : j < k) (h2 : j < l.length), (!p l[j]) = false) ∧ s = ⟨[(0, .d (.seq (l.map mcC))), (1, .fn (.func 70) [] [.ref 0 0]), (7, .d (dI ((l.map mcC).length : Nat))), (8, .d (dI k))], [(0, fOM f)], 1⟩, ?_, ?_⟩
 ·conv => whnf
  exact ⟨l.length, 0, by omega, fun j h => by omega, rfl⟩
 ·rintro m _ ⟨k, hk, hno, rfl⟩
  by_cases hkl : k < l.length
  ·have f1 : decide ((k : Int) < ((l.map mcC).length : Int)) = true := decide_eq_true (by rw [hm]; omega)
   have hg : (l.map mcC)[k]? = some (mcC l[k]) := by rw [List.getElem?_map, List.getElem?_eq_getElem hkl]; rfl
   have w1k : IntKind.i64.wrap ((k : Int) + 1) = ((k + 1 : Nat) : Int) := by rw [wrapI (by omega) (by omega)]; rfl
   have cs := all1M f p l[k] (hp _ (List.getElem_mem _))
   by_cases he : (!p l[k]) = true
   ·have e := ixI_at (q := fun x => !p x) hkl (fun j hj => hno j hj (by omega)) he
    rw [e]
    rw [he] at cs
    conv => whnf
    (repeat' (first | (apply kT (by with_reducible first | rfl | assumption); conv => whnf) | (apply kF (by with_reducible first | rfl | assumption); conv => whnf) | (apply kT (by decide); conv => whnf) | (apply kF (by decide); conv => whnf) | (apply kB <;> intro _ <;> conv => whnf) | fail))
    (refine ⟨k, _, rfl, hg, rfl, ?_⟩; conv => whnf)
    (refine .inr ⟨[0], 2, _, _, cs, ?_⟩; conv => whnf)
    (repeat' (first | (apply kT (by with_reducible first | rfl | assumption); conv => whnf) | (apply kF (by with_reducible first | rfl | assumption); conv => whnf) | (apply kT (by decide); conv => whnf) | (apply kF (by decide); conv => whnf) | (apply kB <;> intro _ <;> conv => whnf) | fail))
    (refine ⟨[], [0], ?_⟩; conv => whnf)
    exact ⟨rfl, rfl⟩
   ·have he := (Bool.not_eq_true _).mp he
    rw [he] at cs
    conv => whnf
    (repeat' (first | (apply kT (by with_reducible first | rfl | assumption); conv => whnf) | (apply kF (by with_reducible first | rfl | assumption); conv => whnf) | (apply kT (by decide); conv => whnf) | (apply kF (by decide); conv => whnf) | (apply kB <;> intro _ <;> conv => whnf) | fail))
    (refine ⟨k, _, rfl, hg, rfl, ?_⟩; conv => whnf)
    (refine .inr ⟨[0], 2, _, _, cs, ?_⟩; conv => whnf)
    (repeat' (first | (apply kT (by with_reducible first | rfl | assumption); conv => whnf) | (apply kF (by with_reducible first | rfl | assumption); conv => whnf) | (apply kT (by decide); conv => whnf) | (apply kF (by decide); conv => whnf) | (apply kB <;> intro _ <;> conv => whnf) | fail))
    refine ⟨m - 1, by omega, k + 1, by omega, fun j hj hjl => ?_, ?_⟩
    ·by_cases h : j < k
     ·exact hno j h hjl
     ·have : j = k := by omega
      subst this
      exact he
    ·rw [w1k]
  ·have f1 : decide ((k : Int) < ((l.map mcC).length : Int)) = false := decide_eq_false (by rw [hm]; omega)
   have e := ixI_none (q := fun x => !p x) (l := l) fun j hj => hno j (by omega) hj
   rw [e]
   conv => whnf
   (repeat' (first | (apply kT (by with_reducible first | rfl | assumption); conv => whnf) | (apply kF (by with_reducible first | rfl | assumption); conv => whnf) | (apply kT (by decide); conv => whnf) | (apply kF (by decide); conv => whnf) | (apply kB <;> intro _ <;> conv => whnf) | fail))
   (refine ⟨[], [0], ?_⟩; conv => whnf)
   exact ⟨rfl, rfl⟩
theorem hasM (f : Nat) (p : (List (Int × Int)) → Bool) (l : List (List (Int × Int))) (hl : l.length ≤ 100000) (hp : ∀ x ∈ l, Pure Try.prog f [mcA x] (dB (p x))) : Bor tb Try.prog 69 [.d (.seq (l.map mcC)), .fn (.func 70) [] [.ref 0 0]] [fOM f] 2 (.d (dB (!l.all p))) [(0, fOM f)] := by
 have ci := idxM f p l hl hp
 rw [← ixI_all]
 refine bor_of pg Try.func69 (by kernel_rfl) ?_
 conv => whnf
 (repeat' (first | (apply kT (by with_reducible first | rfl | assumption); conv => whnf) | (apply kF (by with_reducible first | rfl | assumption); conv => whnf) | (apply kT (by decide); conv => whnf) | (apply kF (by decide); conv => whnf) | (apply kB <;> intro _ <;> conv => whnf) | fail))
 (refine .inr ⟨[0], 2, _, _, ci, ?_⟩; conv => whnf)
 (repeat' (first | (apply kT (by with_reducible first | rfl | assumption); conv => whnf) | (apply kF (by with_reducible first | rfl | assumption); conv => whnf) | (apply kT (by decide); conv => whnf) | (apply kF (by decide); conv => whnf) | (apply kB <;> intro _ <;> conv => whnf) | fail))
 (refine ⟨[], [0], ?_⟩; conv => whnf)
 exact ⟨rfl, rfl⟩
theorem allM (f : Nat) (p : (List (Int × Int)) → Bool) (l : List (List (Int × Int))) (hl : l.length ≤ 100000) (hp : ∀ x ∈ l, Pure Try.prog f [mcA x] (dB (p x))) : Pure Try.prog 43 [.seq (l.map mcC), .fn (.func f) [] []] (dB (l.all p)) := by
 have ci := hasM f p l hl hp
 refine pure_of pg Try.func43 (by kernel_rfl) ?_
 conv => whnf
 (repeat' (first | (apply kT (by with_reducible first | rfl | assumption); conv => whnf) | (apply kF (by with_reducible first | rfl | assumption); conv => whnf) | (apply kT (by decide); conv => whnf) | (apply kF (by decide); conv => whnf) | (apply kB <;> intro _ <;> conv => whnf) | fail))
 (refine .inr ⟨[0], 2, _, _, ci, ?_⟩; conv => whnf)
 (repeat' (first | (apply kT (by with_reducible first | rfl | assumption); conv => whnf) | (apply kF (by with_reducible first | rfl | assumption); conv => whnf) | (apply kT (by decide); conv => whnf) | (apply kF (by decide); conv => whnf) | (apply kB <;> intro _ <;> conv => whnf) | fail))
 cases l.all p <;> rfl
theorem ranges_pure (l : List (Int × Int)) (hl : l.length ≤ 1000) : Pure Try.prog 39 [mcA l] (dB (l.all hoursB)) := by
 have c := allR 41 hoursB l (by omega) fun x _ => hours_pure x
 refine pure_of pg Try.func39 (by kernel_rfl) ?_
 conv => whnf
 (repeat' (first | (apply kT (by with_reducible first | rfl | assumption); conv => whnf) | (apply kF (by with_reducible first | rfl | assumption); conv => whnf) | (apply kT (by decide); conv => whnf) | (apply kF (by decide); conv => whnf) | (apply kB <;> intro _ <;> conv => whnf) | (refine .inl ⟨_, c, ?_⟩; conv => whnf) | fail))
 rfl
end Go.Ev.Ytijidghjiaiccaa


set_option linter.unusedVariables false
set_option linter.unusedSimpArgs false
set_option maxRecDepth 100000
namespace Go.Ev.Ytijidghjiaiccaa
open Go.Proofs
attribute [local irreducible] Pure Bor Iter inB hoursB
def runB (q : Que) (x : Rn) : Bool := (inB x.hrs 0 40 && inB x.ready 0 40) && ((x.on.length : Int) == (q.ms.length : Int))
theorem run_bor (q : Que) (x : Rn) : Bor tb Try.prog 42 [.d (.agg (rnD x)), .ref 0 0] [quO q] 2 (.d (dB (runB q x))) [(0, quO q)] := by
 have hm : ((msD q.ms).length : Int) = q.ms.length := by rw [List.length_map]
 have ho : ((x.on.map fun b => [dB b]).length : Int) = x.on.length := by rw [List.length_map]
 have e : runB q x = ((inB x.hrs 0 40 && inB x.ready 0 40) && (((x.on.map fun b => [dB b]).length : Int) == ((msD q.ms).length : Int))) := by unfold runB; rw [hm, ho]
 rw [e]
 refine bor_of pg Try.func42 (by kernel_rfl) ?_
 conv => whnf
 (repeat' (first | (apply kT (by with_reducible first | rfl | assumption); conv => whnf) | (apply kF (by with_reducible first | rfl | assumption); conv => whnf) | (apply kT (by decide); conv => whnf) | (apply kF (by decide); conv => whnf) | (apply kB <;> intro _ <;> conv => whnf) | (refine .inl ⟨_, many_pure .., ?_⟩; conv => whnf) | fail))
 all_goals refine ⟨[], [0], ?_⟩
 all_goals conv => whnf
 all_goals refine ⟨?_, rfl⟩
 all_goals (try simp only [*, Bool.true_and, Bool.false_and, Bool.and_true, Bool.and_false])
 all_goals (try rfl)
abbrev fOQ : Ob := .var false 107 [.fn (.func 42) [] [.ref 0 0]]
theorem all1Q (q : Que) (x : Rn) : Bor tb Try.prog 72 [.d (.agg (rnD x)), .ref 1 0] [quO q, fOQ] 2 (.d (dB (!runB q x))) [(0, quO q), (1, fOQ)] := by
 have c := run_bor q x
 refine bor_of pg Try.func72 (by kernel_rfl) ?_
 conv => whnf
 (repeat' (first | (apply kT (by with_reducible first | rfl | assumption); conv => whnf) | (apply kF (by with_reducible first | rfl | assumption); conv => whnf) | (apply kT (by decide); conv => whnf) | (apply kF (by decide); conv => whnf) | (apply kB <;> intro _ <;> conv => whnf) | fail))
 (refine .inr ⟨[0], 2, _, _, c, ?_⟩; conv => whnf)
 (repeat' (first | (apply kT (by with_reducible first | rfl | assumption); conv => whnf) | (apply kF (by with_reducible first | rfl | assumption); conv => whnf) | (apply kT (by decide); conv => whnf) | (apply kF (by decide); conv => whnf) | (apply kB <;> intro _ <;> conv => whnf) | fail))
 (refine ⟨[], [0, 1], ?_⟩; conv => whnf)
 exact ⟨by cases runB q x <;> rfl, rfl⟩
theorem idxQ (q : Que) (l : List Rn) (hl : l.length ≤ 100000) : Bor tb Try.prog 88 [.d (.seq (rnsD l)), .fn (.func 72) [] [.ref 1 0]] [quO q, fOQ] 2 (.d (dI (ixI (fun x => !runB q x) l))) [(0, quO q), (1, fOQ)] := by
 have hm : ((rnsD l).length : Int) = l.length := by rw [List.length_map]
 refine bor_of pg Try.func88 (by kernel_rfl) ?_
 conv => whnf
 (repeat' (first | (apply kT (by with_reducible first | rfl | assumption); conv => whnf) | (apply kF (by with_reducible first | rfl | assumption); conv => whnf) | (apply kT (by decide); conv => whnf) | (apply kF (by decide); conv => whnf) | (apply kB <;> intro _ <;> conv => whnf) | fail))
 refine ⟨[], [0, 1, 7, 8], [0, 1], 2, fun m s => ∃ k : Nat, k + m = l.length ∧ (∀ j (h : j < k) (h2 : j < l.length), (!runB q l[j]) = false) ∧ s = ⟨[(0, .d (.seq (rnsD l))), (1, .fn (.func 72) [] [.ref 1 0]), (7, .d (dI ((rnsD l).length : Nat))), (8, .d (dI k))], [(0, quO q), (1, fOQ)], 2⟩, ?_, ?_⟩
 ·conv => whnf
  exact ⟨l.length, 0, by omega, fun j h => by omega, rfl⟩
 ·rintro m _ ⟨k, hk, hno, rfl⟩
  by_cases hkl : k < l.length
  ·have f1 : decide ((k : Int) < ((rnsD l).length : Int)) = true := decide_eq_true (by rw [hm]; omega)
   have hg : (rnsD l)[k]? = some (rnD l[k]) := by rw [List.getElem?_map, List.getElem?_eq_getElem hkl]; rfl
   have w1k : IntKind.i64.wrap ((k : Int) + 1) = ((k + 1 : Nat) : Int) := by rw [wrapI (by omega) (by omega)]; rfl
   have cs := all1Q q l[k]
   by_cases he : (!runB q l[k]) = true
   ·have e := ixI_at (q := fun x => !runB q x) hkl (fun j hj => hno j hj (by omega)) he
    rw [e]
    rw [he] at cs
    conv => whnf
    (repeat' (first | (apply kT (by with_reducible first | rfl | assumption); conv => whnf) | (apply kF (by with_reducible first | rfl | assumption); conv => whnf) | (apply kT (by decide); conv => whnf) | (apply kF (by decide); conv => whnf) | (apply kB <;> intro _ <;> conv => whnf) | fail))
    (refine ⟨k, _, rfl, hg, rfl, ?_⟩; conv => whnf)
    (refine .inr ⟨[0, 1], 2, _, _, cs, ?_⟩; conv => whnf)
    (repeat' (first | (apply kT (by with_reducible first | rfl | assumption); conv => whnf) | (apply kF (by with_reducible first | rfl | assumption); conv => whnf) | (apply kT (by decide); conv => whnf) | (apply kF (by decide); conv => whnf) | (apply kB <;> intro _ <;> conv => whnf) | fail))
    (refine ⟨[], [0, 1], ?_⟩; conv => whnf)
    exact ⟨rfl, rfl⟩
   ·have he := (Bool.not_eq_true _).mp he
    rw [he] at cs
    conv => whnf
    (repeat' (first | (apply kT (by with_reducible first | rfl | assumption); conv => whnf) | (apply kF (by with_reducible first | rfl | assumption); conv => whnf) | (apply kT (by decide); conv => whnf) | (apply kF (by decide); conv => whnf) | (apply kB <;> intro _ <;> conv => whnf) | fail))
    (refine ⟨k, _, rfl, hg, rfl, ?_⟩; conv => whnf)
    (refine .inr ⟨[0, 1], 2, _, _, cs, ?_⟩; conv => whnf)
    (repeat' (first | (apply kT (by with_reducible first | rfl | assumption); conv => whnf) | (apply kF (by with_reducible first | rfl | assumption); conv => whnf) | (apply kT (by decide); conv => whnf) | (apply kF (by decide); conv => whnf) | (apply kB <;> intro _ <;> conv => whnf) | fail))
    refine ⟨m - 1, by omega, k + 1, by omega, fun j hj hjl => ?_, ?_⟩
    ·by_cases h : j < k
     ·exact hno j h hjl
     ·have : j = k := by omega
      subst this
      exact he
    ·rw [w1k]; rfl
  ·have f1 : decide ((k : Int) < ((rnsD l).length : Int)) = false := decide_eq_false (by rw [hm]; omega)
   have e := ixI_none (q := fun x => !runB q x) (l := l) fun j hj => hno j (by omega) hj
   rw [e]
   conv => whnf
   (repeat' (first | (apply kT (by with_reducible first | rfl | assumption); conv => whnf) | (apply kF (by with_reducible first | rfl | assumption); conv => whnf) | (apply kT (by decide); conv => whnf) | (apply kF (by decide); conv => whnf) | (apply kB <;> intro _ <;> conv => whnf) | fail))
   (refine ⟨[], [0, 1], ?_⟩; conv => whnf)
   exact ⟨rfl, rfl⟩
theorem hasQ (q : Que) (l : List Rn) (hl : l.length ≤ 100000) : Bor tb Try.prog 71 [.d (.seq (rnsD l)), .fn (.func 72) [] [.ref 1 0]] [quO q, fOQ] 2 (.d (dB (!l.all (runB q)))) [(0, quO q), (1, fOQ)] := by
 have ci := idxQ q l hl
 rw [← ixI_all]
 refine bor_of pg Try.func71 (by kernel_rfl) ?_
 conv => whnf
 (repeat' (first | (apply kT (by with_reducible first | rfl | assumption); conv => whnf) | (apply kF (by with_reducible first | rfl | assumption); conv => whnf) | (apply kT (by decide); conv => whnf) | (apply kF (by decide); conv => whnf) | (apply kB <;> intro _ <;> conv => whnf) | fail))
 (refine .inr ⟨[0, 1], 2, _, _, ci, ?_⟩; conv => whnf)
 (repeat' (first | (apply kT (by with_reducible first | rfl | assumption); conv => whnf) | (apply kF (by with_reducible first | rfl | assumption); conv => whnf) | (apply kT (by decide); conv => whnf) | (apply kF (by decide); conv => whnf) | (apply kB <;> intro _ <;> conv => whnf) | fail))
 (refine ⟨[], [0, 1], ?_⟩; conv => whnf)
 exact ⟨rfl, rfl⟩
theorem allQ (q : Que) (l : List Rn) (hl : l.length ≤ 100000) : Bor tb Try.prog 44 [.d (.seq (rnsD l)), .fn (.func 42) [] [.ref 0 0]] [quO q] 2 (.d (dB (l.all (runB q)))) [(0, quO q)] := by
 have ci := hasQ q l hl
 refine bor_of pg Try.func44 (by kernel_rfl) ?_
 conv => whnf
 (repeat' (first | (apply kT (by with_reducible first | rfl | assumption); conv => whnf) | (apply kF (by with_reducible first | rfl | assumption); conv => whnf) | (apply kT (by decide); conv => whnf) | (apply kF (by decide); conv => whnf) | (apply kB <;> intro _ <;> conv => whnf) | fail))
 (refine .inr ⟨[0, 1], 2, _, _, ci, ?_⟩; conv => whnf)
 (repeat' (first | (apply kT (by with_reducible first | rfl | assumption); conv => whnf) | (apply kF (by with_reducible first | rfl | assumption); conv => whnf) | (apply kT (by decide); conv => whnf) | (apply kF (by decide); conv => whnf) | (apply kB <;> intro _ <;> conv => whnf) | fail))
 (refine ⟨[], [0], ?_⟩; conv => whnf)
 exact ⟨by cases l.all (runB q) <;> rfl, rfl⟩
def checkQ (q : Que) : Int :=
 if (decide (q.ms.length > 4) || decide (q.rs.length > 6)) || !q.ms.all (fun l => decide (l.length ≤ 6)) then 3
 else if !q.ms.all (fun l => l.all hoursB) || !q.rs.all (runB q) then 1 else 0
theorem check_pure (q : Que) : Pure Try.prog 16 [quD q] (dI (checkQ q)) := by
 have hm : ((msD q.ms).length : Int) = q.ms.length := by rw [List.length_map]
 have hr : ((rnsD q.rs).length : Int) = q.rs.length := by rw [List.length_map]
 unfold checkQ
 by_cases h1 : q.ms.length > 4
 ·have f1 : decide (((msD q.ms).length : Int) > 4) = true := decide_eq_true (by rw [hm]; omega)
  rw [decide_eq_true h1]
  refine pure_of pg Try.func16 (by kernel_rfl) ?_
  conv => whnf
  (repeat' (first | (apply kT (by with_reducible first | rfl | assumption); conv => whnf) | (apply kF (by with_reducible first | rfl | assumption); conv => whnf) | (apply kT (by decide); conv => whnf) | (apply kF (by decide); conv => whnf) | (apply kB <;> intro _ <;> conv => whnf) | fail))
  rfl
 ·have f1 : decide (((msD q.ms).length : Int) > 4) = false := decide_eq_false (by rw [hm]; omega)
  rw [decide_eq_false h1]
  by_cases h2 : q.rs.length > 6
  ·have f2 : decide (((rnsD q.rs).length : Int) > 6) = true := decide_eq_true (by rw [hr]; omega)
   rw [decide_eq_true h2]
   refine pure_of pg Try.func16 (by kernel_rfl) ?_
   conv => whnf
   (repeat' (first | (apply kT (by with_reducible first | rfl | assumption); conv => whnf) | (apply kF (by with_reducible first | rfl | assumption); conv => whnf) | (apply kT (by decide); conv => whnf) | (apply kF (by decide); conv => whnf) | (apply kB <;> intro _ <;> conv => whnf) | fail))
   rfl
  ·have f2 : decide (((rnsD q.rs).length : Int) > 6) = false := decide_eq_false (by rw [hr]; omega)
   rw [decide_eq_false h2]
   have c1 := allM 38 (fun l => decide (l.length ≤ 6)) q.ms (by omega) fun x _ => six_pure x
   cases h3 : q.ms.all (fun l => decide (l.length ≤ 6)) with
   | false =>
    rw [h3] at c1
    refine pure_of pg Try.func16 (by kernel_rfl) ?_
    conv => whnf
    (repeat' (first | (apply kT (by with_reducible first | rfl | assumption); conv => whnf) | (apply kF (by with_reducible first | rfl | assumption); conv => whnf) | (apply kT (by decide); conv => whnf) | (apply kF (by decide); conv => whnf) | (apply kB <;> intro _ <;> conv => whnf) | (refine .inl ⟨_, c1, ?_⟩; conv => whnf) | fail))
    rfl
   | true =>
    rw [h3] at c1
    have c2 := allM 39 (fun l => l.all hoursB) q.ms (by omega) fun x hx => ranges_pure x (by
     have := List.all_eq_true.1 h3 x hx
     have := of_decide_eq_true this
     omega)
    have c3 := allQ q q.rs (by omega)
    cases h4 : q.ms.all (fun l => l.all hoursB) with
    | false =>
     rw [h4] at c2
     refine pure_of pg Try.func16 (by kernel_rfl) ?_
     conv => whnf
     (repeat' (first | (apply kT (by with_reducible first | rfl | assumption); conv => whnf) | (apply kF (by with_reducible first | rfl | assumption); conv => whnf) | (apply kT (by decide); conv => whnf) | (apply kF (by decide); conv => whnf) | (apply kB <;> intro _ <;> conv => whnf) | (refine .inl ⟨_, c1, ?_⟩; conv => whnf) | (refine .inl ⟨_, c2, ?_⟩; conv => whnf) | fail))
     rfl
    | true =>
     rw [h4] at c2
     refine pure_of pg Try.func16 (by kernel_rfl) ?_
     conv => whnf
     (repeat' (first | (apply kT (by with_reducible first | rfl | assumption); conv => whnf) | (apply kF (by with_reducible first | rfl | assumption); conv => whnf) | (apply kT (by decide); conv => whnf) | (apply kF (by decide); conv => whnf) | (apply kB <;> intro _ <;> conv => whnf) | (refine .inl ⟨_, c1, ?_⟩; conv => whnf) | (refine .inl ⟨_, c2, ?_⟩; conv => whnf) | fail))
     (refine .inr ⟨[0], 2, _, _, c3, ?_⟩; conv => whnf)
     (repeat' (first | (apply kT (by with_reducible first | rfl | assumption); conv => whnf) | (apply kF (by with_reducible first | rfl | assumption); conv => whnf) | (apply kT (by decide); conv => whnf) | (apply kF (by decide); conv => whnf) | (apply kB <;> intro _ <;> conv => whnf) | fail))
     all_goals (rename_i h5; simp only [h5]; rfl)
end Go.Ev.Ytijidghjiaiccaa


set_option linter.unusedVariables false
set_option linter.unusedSimpArgs false
set_option maxRecDepth 100000
namespace Go.Ev.Ytijidghjiaiccaa
open Go.Proofs
attribute [local irreducible] Pure Bor Iter inB hoursB
theorem clone_pure (l : List Int) (h0 : 0 < l.length) (hl : l.length ≤ 1000) : Pure Try.prog 18 [isD l] (isD l) := by
 have hne : (l.map fun x => [dI x]) ≠ [] := by intro h; rw [List.map_eq_nil_iff] at h; rw [h] at h0; simp at h0
 have hel : ∀ x ∈ l.map fun x => [dI x], x.length = 1 := fun x h => by rw [List.mem_map] at h; obtain ⟨y, _, rfl⟩ := h; rfl
 have hb : (0 + (l.map fun x => [dI x]).length) * 8 ≤ 140737488355328 := by rw [List.length_map]; omega
 refine pure_of pg Try.func18 (by kernel_rfl) ?_
 conv => whnf
 (refine ⟨hne, ?_⟩; conv => whnf)
 (repeat' (first | (apply kT (by with_reducible first | rfl | assumption); conv => whnf) | (apply kF (by with_reducible first | rfl | assumption); conv => whnf) | (apply kT (by decide); conv => whnf) | (apply kF (by decide); conv => whnf) | (apply kB <;> intro _ <;> conv => whnf) | fail))
 (refine ⟨hel, hb, ?_⟩; conv => whnf)
 rfl
theorem check_ok {q : Que} (h : checkQ q = 0) : QOK q ∧ ∀ r ∈ q.rs, 0 ≤ r.hrs ∧ r.hrs ≤ 40 := by
 unfold checkQ at h
 split at h
 ·cases h
 ·rename_i h1
  split at h
  ·cases h
  ·rename_i h2
   simp only [Bool.or_eq_true, decide_eq_true_eq, Bool.not_eq_true', not_or, Bool.not_eq_false, List.all_eq_true] at h1 h2
   obtain ⟨⟨h3, h4⟩, h5⟩ := h1
   have hrun : ∀ r ∈ q.rs, (inB r.hrs 0 40 = true ∧ inB r.ready 0 40 = true) ∧ r.on.length = q.ms.length := fun r hr => by
    have := h2.2 r hr
    unfold runB at this
    simp only [Bool.and_eq_true, beq_iff_eq] at this
    exact ⟨this.1, by omega⟩
   refine ⟨⟨fun r hr => (hrun r hr).2, fun l hl => h5 l hl, by omega, by omega⟩, fun r hr => ?_⟩
   have := (hrun r hr).1.1
   unfold inB at this
   simp only [Bool.and_eq_true, decide_eq_true_eq] at this
   exact this
theorem earliest_lay (q : Que) : earliest q.ms.length (mayQ q) (hrsQ q) = layL (quQ q) 40 [] (itK (hrsQ q) q.rs.length) := by
 unfold earliest itemsL itK
 rw [List.length_map]
theorem plan_nm {q : Que} (hq : QOK q) {P : Pl} (h : layL (quQ q) 40 [] (itK (hrsQ q) q.rs.length) = some P) : P.length ≤ 40 ∧ (∀ row ∈ P, row.length = 4) ∧ (0 < P.length → 0 < q.ms.length) := by
 have hn := hq.n
 have hnm := hq.nm
 rw [← earliest_lay] at h
 rcases earliest_law (nm := q.ms.length) (may := mayQ q) (hrs := hrsQ q) (by rw [List.length_map]; omega) hnm with ⟨P', e, h1, h2, h3, h4, h5⟩ | ⟨e, _⟩
 ·rw [h] at e
  cases e
  refine ⟨h1, h2, fun hp => Nat.pos_of_ne_zero fun h0 => ?_⟩
  rcases h5 with h5 | h5
  ·omega
  ·refine h5 ?_
   obtain ⟨c, v, hc⟩ := h4
   have hz : ∀ T, T ≤ P.length → ∀ r, cnt c T r = 0 := fun T hT r => sg_eq_zero fun h hh => sg_eq_zero fun m hm => by
    rcases v.ok h (by omega) m hm with e | ⟨r', _, _, hm', _⟩
    ·unfold at1
     rw [if_neg (by rw [e]; omega)]
    ·dsimp only at hm'; omega
   refine ⟨c, ⟨fun h hh => v.ok h (by omega), fun h hh => v.one h (by omega)⟩, fun r hr => ?_⟩
   rw [hz _ (by omega), ← hc r hr, hz _ (Nat.le_refl _)]
 ·rw [h] at e; cases e
theorem take_row (a b c d : Int) : ∀ n : Nat, n ≤ 4 → List.take (n * 1) [A.d (dI a), A.d (dI b), A.d (dI c), A.d (dI d)] = (([a, b, c, d].take n).map fun x => [dI x]).flatten.map A.d
 | 0, _ => rfl
 | 1, _ => rfl
 | 2, _ => rfl
 | 3, _ => rfl
 | 4, _ => rfl
 | n + 5, h => by omega
abbrev plRows (n : Nat) (P : Pl) : List (List D) := P.map fun row => [isD (row.take n)]
def earlD (q : Que) : D :=
 if checkQ q ≠ 0 then .tup [.seq [], dI 0, dI (checkQ q)]
 else match layL (quQ q) 40 [] (itK (hrsQ q) q.rs.length) with
  | some P => .tup [.seq (plRows q.ms.length P), dI (P.length : Nat), dI 0]
  | none => .tup [.seq [], dI 0, dI 9]
attribute [local irreducible] checkQ layL itK
set_option maxHeartbeats 1000000 in
theorem earliest_pure (q : Que) : Pure Try.prog 8 [quD q] (earlD q) := by
 have cc := check_pure q
 unfold earlD
 by_cases h0 : checkQ q = 0
 ·rw [h0] at cc
  rw [if_neg (by rw [h0]; simp)]
  obtain ⟨hq, hH⟩ := check_ok h0
  have cl := lay_bor q hq hH
  have hnm := hq.nm
  cases hlay : layL (quQ q) 40 [] (itK (hrsQ q) q.rs.length) with
  | none =>
   rw [hlay] at cl
   dsimp only at cl ⊢
   refine pure_of_n pg Try.func8 (by kernel_rfl) ?_
   conv => whnf
   (repeat' (first | (apply kT (by with_reducible first | rfl | assumption); conv => whnf) | (apply kF (by with_reducible first | rfl | assumption); conv => whnf) | (apply kT (by decide); conv => whnf) | (apply kF (by decide); conv => whnf) | (apply kB <;> intro _ <;> conv => whnf) | (refine .inl ⟨_, cc, ?_⟩; conv => whnf) | fail))
   (refine .inr ⟨[], 2, _, _, cl, ?_⟩; conv => whnf)
   (repeat' (first | (apply kT (by with_reducible first | rfl | assumption); conv => whnf) | (apply kF (by with_reducible first | rfl | assumption); conv => whnf) | (apply kT (by decide); conv => whnf) | (apply kF (by decide); conv => whnf) | (apply kB <;> intro _ <;> conv => whnf) | fail))
   rfl
  | some P =>
   rw [hlay] at cl
   dsimp only at cl ⊢
   obtain ⟨hP, hrow, hpos⟩ := plan_nm hq hlay
   refine pure_of_n pg Try.func8 (by kernel_rfl) ?_
   conv => whnf
   (repeat' (first | (apply kT (by with_reducible first | rfl | assumption); conv => whnf) | (apply kF (by with_reducible first | rfl | assumption); conv => whnf) | (apply kT (by decide); conv => whnf) | (apply kF (by decide); conv => whnf) | (apply kB <;> intro _ <;> conv => whnf) | (refine .inl ⟨_, cc, ?_⟩; conv => whnf) | fail))
   have hlp : (rowsD P).length = P.length := by simp
   (refine .inr ⟨[], 2, _, _, cl, ?_⟩; conv => whnf)
   (repeat' (first | (apply kT (by with_reducible first | rfl | assumption); conv => whnf) | (apply kF (by with_reducible first | rfl | assumption); conv => whnf) | (apply kT (by decide); conv => whnf) | (apply kF (by decide); conv => whnf) | (apply kB <;> intro _ <;> conv => whnf) | fail))
   refine ⟨[.frz 2, .own 2 54], [1, 2, 25, 26, 27], [0, 3], 4, fun m s => ∃ k : Nat, k + m = P.length ∧ s = ⟨[(1, .ref 0 0), (2, .own 3), (25, .d (.seq (rowsD P))), (26, .d (dI ((rowsD P).length : Nat))), (27, .d (dI k))], [(0, quO q), (3, .arr 54 (plRows q.ms.length (P.take k)))], 4⟩, ?_, ?_⟩
   ·conv => whnf
    exact ⟨P.length, 0, by omega, rfl⟩
   ·rintro m _ ⟨k, hk, rfl⟩
    rcases Decidable.em (k < P.length) with hkn | hkn
    ·have g1 : decide ((k : Int) < ((rowsD P).length : Int)) = true := decide_eq_true (by rw [hlp]; omega)
     have hnp := hpos (by omega)
     have hr4 := hrow _ (List.getElem_mem hkn)
     obtain ⟨a, b, c, d, hrw⟩ : ∃ a b c d : Int, P[k] = [a, b, c, d] := by
      match h : P[k], hr4 with
      | [a, b, c, d], _ => exact ⟨a, b, c, d, rfl⟩
     have hg : (rowsD P)[k]? = some [dI a, dI b, dI c, dI d] := by rw [List.getElem?_map, List.getElem?_eq_getElem hkn, hrw]; rfl
     have cn := clone_pure (P[k].take q.ms.length) (by rw [List.length_take]; omega) (by rw [List.length_take]; omega)
     have wk : IntKind.i64.wrap ((k : Int) + 1) = ((k + 1 : Nat) : Int) := by
      rw [wrapI (by omega) (by omega)]; omega
     conv => whnf
     (repeat' (first | (apply kT (by with_reducible first | rfl | assumption); conv => whnf) | (apply kF (by with_reducible first | rfl | assumption); conv => whnf) | (apply kT (by decide); conv => whnf) | (apply kF (by decide); conv => whnf) | (apply kB <;> intro _ <;> conv => whnf) | fail))
     have hsl := take_row a b c d q.ms.length hnm
     rw [hrw] at cn
     have hml : ((msD q.ms).length : Int) = (q.ms.length : Int) := by simp
     have hln : (([a, b, c, d].take q.ms.length).map fun x => [dI x]).length = q.ms.length := by rw [List.length_map, List.length_take]; exact Nat.min_eq_left hnm
     (refine ⟨k, _, rfl, hg, rfl, ?_⟩; conv => whnf)
     (repeat' (first | (apply kT (by with_reducible first | rfl | assumption); conv => whnf) | (apply kF (by with_reducible first | rfl | assumption); conv => whnf) | (apply kT (by decide); conv => whnf) | (apply kF (by decide); conv => whnf) | (apply kB <;> intro _ <;> conv => whnf) | fail))
     (refine .l ⟨q.ms.length, hml, hnm, ([a, b, c, d].take q.ms.length).map fun x => [dI x], hsl, fun el h => by rw [List.mem_map] at h; obtain ⟨x, _, rfl⟩ := h; rfl, hln, ?_⟩; conv => whnf)
     (repeat' (first | (apply kT (by with_reducible first | rfl | assumption); conv => whnf) | (apply kF (by with_reducible first | rfl | assumption); conv => whnf) | (apply kT (by decide); conv => whnf) | (apply kF (by decide); conv => whnf) | (apply kB <;> intro _ <;> conv => whnf) | (refine .inl ⟨_, cn, ?_⟩; conv => whnf) | fail))
     (refine .l ?_; conv => whnf)
     (repeat' (first | (apply kT (by with_reducible first | rfl | assumption); conv => whnf) | (apply kF (by with_reducible first | rfl | assumption); conv => whnf) | (apply kT (by decide); conv => whnf) | (apply kF (by decide); conv => whnf) | (apply kB <;> intro _ <;> conv => whnf) | fail))
     (refine ⟨fun el h => by rw [List.mem_singleton.1 h]; rfl, by show (_ + 1) * 24 ≤ _; rw [List.length_map, List.length_take]; omega, ?_⟩; conv => whnf)
     (repeat' (first | (apply kT (by with_reducible first | rfl | assumption); conv => whnf) | (apply kF (by with_reducible first | rfl | assumption); conv => whnf) | (apply kT (by decide); conv => whnf) | (apply kF (by decide); conv => whnf) | (apply kB <;> intro _ <;> conv => whnf) | fail))
     have hpt : plRows q.ms.length (P.take (k + 1)) = plRows q.ms.length (P.take k) ++ [[.seq (([a, b, c, d].take q.ms.length).map fun x => [dI x])]] := by
      rw [List.take_add_one, List.getElem?_eq_getElem hkn, hrw]
      simp
     refine ⟨m - 1, by omega, k + 1, by omega, ?_⟩
     rw [wk, hpt]
    ·have ekn : k = P.length := by omega
     have g1 : decide ((k : Int) < ((rowsD P).length : Int)) = false := decide_eq_false (by rw [hlp]; omega)
     have hpt : P.take k = P := List.take_of_length_le (by omega)
     rw [hpt]
     have e : ((plRows q.ms.length P).length : Int) = (P.length : Int) := by simp
     conv => whnf
     (repeat' (first | (apply kT (by with_reducible first | rfl | assumption); conv => whnf) | (apply kF (by with_reducible first | rfl | assumption); conv => whnf) | (apply kT (by decide); conv => whnf) | (apply kF (by decide); conv => whnf) | (apply kB <;> intro _ <;> conv => whnf) | fail))
     rw [e]
     rfl
 ·rw [if_pos h0]
  have f0 : (checkQ q != 0) = true := by rw [bne_iff_ne]; exact h0
  refine pure_of_n pg Try.func8 (by kernel_rfl) ?_
  conv => whnf
  (repeat' (first | (apply kT (by with_reducible first | rfl | assumption); conv => whnf) | (apply kF (by with_reducible first | rfl | assumption); conv => whnf) | (apply kT (by decide); conv => whnf) | (apply kF (by decide); conv => whnf) | (apply kB <;> intro _ <;> conv => whnf) | (refine .inl ⟨_, cc, ?_⟩; conv => whnf) | fail))
  rfl
end Go.Ev.Ytijidghjiaiccaa

