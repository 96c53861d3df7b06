/-
  Contracts of functions, and plain laws, that lead to the statement. Written by an agent.
-/
import Derived.Test.YtojlbcodfebmgaaProg
import Derived.KernelRfl
import Derived.Test.YtojlbcodfebmgaaKc
namespace Go.Ev.Ytojlbcodfebmgaa
open Go.Proofs

def tys : List (Option Ty) := [
  none,
  some ⟨.other, 1, 8, [.nilFunc], (false, false)⟩,
  some ⟨.int .i64, 1, 8, [.int .i64 0], (false, false)⟩,
  some ⟨.int .i64, 1, 8, [.int .i64 0], (false, false)⟩,
  some ⟨.bool, 1, 1, [.bool false], (false, false)⟩,
  some ⟨.int .u8, 1, 1, [.int .u8 0], (false, false)⟩,
  some ⟨.int .u8, 1, 1, [.int .u8 0], (false, false)⟩,
  some ⟨.struct [(0, 2), (1, 3), (2, 4), (3, 6)], 4, 24, [.int .i64 0, .int .i64 0, .bool false, .int .u8 0], (false, false)⟩,
  some ⟨.struct [(0, 2), (1, 3), (2, 4), (3, 6)], 4, 24, [.int .i64 0, .int .i64 0, .bool false, .int .u8 0], (false, false)⟩,
  some ⟨.str, 1, 16, [.string ByteArray.empty], (false, false)⟩,
  some ⟨.str, 1, 16, [.string ByteArray.empty], (false, false)⟩,
  some ⟨.str, 1, 16, [.string ByteArray.empty], (false, false)⟩,
  some ⟨.int .u64, 1, 8, [.int .u64 0], (false, false)⟩,
  some ⟨.struct [(0, 9), (1, 12)], 2, 24, [.string ByteArray.empty, .int .u64 0], (false, false)⟩,
  some ⟨.struct [(0, 9), (1, 12)], 2, 24, [.string ByteArray.empty, .int .u64 0], (false, false)⟩,
  some ⟨.ptr 173, 1, 8, [.pointer none], (false, false)⟩,
  some ⟨.ptr 176, 1, 8, [.pointer none], (false, false)⟩,
  some ⟨.ptr 185, 1, 8, [.pointer none], (false, false)⟩,
  some ⟨.struct [(0, 17)], 1, 8, [.pointer none], (false, false)⟩,
  some ⟨.struct [(0, 17)], 1, 8, [.pointer none], (false, false)⟩,
  some ⟨.other, 1, 16, [.nilIface], (false, false)⟩,
  some ⟨.int .i32, 1, 4, [.int .i32 0], (false, false)⟩,
  some ⟨.slice 65, 1, 24, [.slice none 0 0], (false, false)⟩,
  some ⟨.struct [(0, 3), (1, 3), (2, 3), (3, 22)], 4, 48, [.int .i64 0, .int .i64 0, .int .i64 0, .slice none 0 0], (false, false)⟩,
  some ⟨.struct [(0, 3), (1, 3), (2, 3), (3, 22)], 4, 48, [.int .i64 0, .int .i64 0, .int .i64 0, .slice none 0 0], (false, false)⟩,
  some ⟨.slice 94, 1, 24, [.slice none 0 0], (false, false)⟩,
  some ⟨.slice 3, 1, 24, [.slice none 0 0], (false, false)⟩,
  some ⟨.struct [(0, 25), (1, 26)], 2, 48, [.slice none 0 0, .slice none 0 0], (false, false)⟩,
  some ⟨.struct [(0, 25), (1, 26)], 2, 48, [.slice none 0 0, .slice none 0 0], (false, false)⟩,
  some ⟨.other, 1, 8, [.nilFunc], (false, false)⟩,
  some ⟨.other, 1, 8, [.nilFunc], (false, false)⟩,
  some ⟨.struct [(0, 3), (1, 3), (2, 3), (3, 3)], 4, 32, [.int .i64 0, .int .i64 0, .int .i64 0, .int .i64 0], (false, false)⟩,
  some ⟨.struct [(0, 3), (1, 3), (2, 3), (3, 3)], 4, 32, [.int .i64 0, .int .i64 0, .int .i64 0, .int .i64 0], (false, true)⟩,
  some ⟨.int .i64, 1, 8, [.int .i64 0], (false, false)⟩,
  none,
  some ⟨.other, 1, 8, [.nilFunc], (false, false)⟩,
  some ⟨.slice 107, 1, 24, [.slice none 0 0], (false, false)⟩,
  some ⟨.struct [(0, 3), (1, 3), (2, 3), (3, 36)], 4, 48, [.int .i64 0, .int .i64 0, .int .i64 0, .slice none 0 0], (false, false)⟩,
  some ⟨.struct [(0, 3), (1, 3), (2, 3), (3, 36)], 4, 48, [.int .i64 0, .int .i64 0, .int .i64 0, .slice none 0 0], (false, false)⟩,
  some ⟨.other, 1, 8, [.nilFunc], (false, false)⟩,
  some ⟨.slice 99, 1, 24, [.slice none 0 0], (false, false)⟩,
  some ⟨.struct [(0, 40), (1, 26)], 2, 48, [.slice none 0 0, .slice none 0 0], (false, false)⟩,
  some ⟨.struct [(0, 40), (1, 26)], 2, 48, [.slice none 0 0, .slice none 0 0], (false, false)⟩,
  some ⟨.other, 1, 8, [.nilFunc], (false, false)⟩,
  some ⟨.other, 1, 8, [.nilFunc], (false, false)⟩,
  none,
  some ⟨.other, 1, 8, [.nilFunc], (false, false)⟩,
  none,
  some ⟨.other, 1, 8, [.nilFunc], (false, false)⟩,
  some ⟨.other, 1, 8, [.nilFunc], (false, false)⟩,
  some ⟨.other, 1, 8, [.nilFunc], (false, false)⟩,
  some ⟨.other, 1, 8, [.nilFunc], (false, false)⟩,
  some ⟨.other, 1, 8, [.nilFunc], (false, false)⟩,
  some ⟨.other, 1, 8, [.nilFunc], (false, false)⟩,
  none,
  some ⟨.other, 1, 8, [.nilFunc], (false, false)⟩,
  some ⟨.other, 1, 8, [.nilFunc], (false, false)⟩,
  some ⟨.struct [(0, 3), (1, 3)], 2, 16, [.int .i64 0, .int .i64 0], (false, false)⟩,
  some ⟨.struct [(0, 3), (1, 3)], 2, 16, [.int .i64 0, .int .i64 0], (false, true)⟩,
  some ⟨.other, 1, 8, [.nilFunc], (false, false)⟩,
  some ⟨.other, 1, 8, [.nilFunc], (false, false)⟩,
  some ⟨.other, 1, 8, [.nilFunc], (false, false)⟩,
  some ⟨.struct [(0, 3), (1, 3)], 2, 16, [.int .i64 0, .int .i64 0], (false, false)⟩,
  some ⟨.struct [(0, 3), (1, 3)], 2, 16, [.int .i64 0, .int .i64 0], (false, true)⟩,
  some ⟨.struct [(0, 3), (1, 3), (2, 4), (3, 3), (4, 63), (6, 63)], 8, 64, [.int .i64 0, .int .i64 0, .bool false, .int .i64 0, .int .i64 0, .int .i64 0, .int .i64 0, .int .i64 0], (false, false)⟩,
  some ⟨.struct [(0, 3), (1, 3), (2, 4), (3, 3), (4, 63), (6, 63)], 8, 64, [.int .i64 0, .int .i64 0, .bool false, .int .i64 0, .int .i64 0, .int .i64 0, .int .i64 0, .int .i64 0], (false, true)⟩,
  some ⟨.ptr 65, 1, 8, [.pointer none], (false, false)⟩,
  some ⟨.other, 1, 8, [.nilFunc], (false, false)⟩,
  none,
  some ⟨.other, 1, 8, [.nilFunc], (false, false)⟩,
  some ⟨.other, 1, 8, [.nilFunc], (false, false)⟩,
  some ⟨.struct [(0, 3), (1, 3), (2, 3), (3, 3)], 4, 32, [.int .i64 0, .int .i64 0, .int .i64 0, .int .i64 0], (false, false)⟩,
  some ⟨.struct [(0, 3), (1, 3), (2, 3), (3, 3)], 4, 32, [.int .i64 0, .int .i64 0, .int .i64 0, .int .i64 0], (false, true)⟩,
  some ⟨.other, 1, 8, [.nilFunc], (false, false)⟩,
  some ⟨.other, 1, 8, [.nilFunc], (false, false)⟩,
  some ⟨.other, 1, 8, [.nilFunc], (false, false)⟩,
  some ⟨.other, 1, 8, [.nilFunc], (false, false)⟩,
  some ⟨.slice 143, 1, 24, [.slice none 0 0], (false, false)⟩,
  some ⟨.other, 1, 8, [.nilFunc], (false, false)⟩,
  some ⟨.arr 2 28, 4, 96, [.slice none 0 0, .slice none 0 0, .slice none 0 0, .slice none 0 0], (false, false)⟩,
  some ⟨.other, 1, 8, [.nilFunc], (false, false)⟩,
  some ⟨.other, 1, 8, [.nilFunc], (false, false)⟩,
  some ⟨.slice 90, 1, 24, [.slice none 0 0], (false, false)⟩,
  none,
  some ⟨.other, 1, 8, [.nilFunc], (false, false)⟩,
  some ⟨.other, 1, 8, [.nilFunc], (false, false)⟩,
  some ⟨.slice 72, 1, 24, [.slice none 0 0], (false, false)⟩,
  some ⟨.slice 4, 1, 24, [.slice none 0 0], (false, false)⟩,
  none,
  some ⟨.other, 1, 8, [.nilFunc], (false, false)⟩,
  some ⟨.struct [(0, 3), (1, 3), (2, 3), (3, 3)], 4, 32, [.int .i64 0, .int .i64 0, .int .i64 0, .int .i64 0], (false, true)⟩,
  some ⟨.other, 1, 8, [.nilFunc], (false, false)⟩,
  some ⟨.slice 28, 1, 24, [.slice none 0 0], (false, false)⟩,
  some ⟨.struct [(0, 3), (1, 4), (2, 3)], 3, 24, [.int .i64 0, .bool false, .int .i64 0], (false, false)⟩,
  some ⟨.struct [(0, 3), (1, 4), (2, 3)], 3, 24, [.int .i64 0, .bool false, .int .i64 0], (false, true)⟩,
  some ⟨.arr 3 3, 3, 24, [.int .i64 0, .int .i64 0, .int .i64 0], (false, false)⟩,
  some ⟨.other, 1, 8, [.nilFunc], (false, false)⟩,
  some ⟨.other, 1, 8, [.nilFunc], (false, false)⟩,
  some ⟨.other, 1, 8, [.nilFunc], (false, false)⟩,
  some ⟨.struct [(0, 3), (1, 4), (2, 3)], 3, 24, [.int .i64 0, .bool false, .int .i64 0], (false, true)⟩,
  some ⟨.ptr 111, 1, 8, [.pointer none], (false, false)⟩,
  none,
  some ⟨.other, 1, 8, [.nilFunc], (false, false)⟩,
  some ⟨.other, 1, 8, [.nilFunc], (false, false)⟩,
  some ⟨.struct [(0, 3), (1, 3)], 2, 16, [.int .i64 0, .int .i64 0], (false, true)⟩,
  some ⟨.other, 1, 8, [.nilFunc], (false, false)⟩,
  some ⟨.struct [(0, 3), (1, 3), (2, 4), (3, 3), (4, 104), (6, 104)], 8, 64, [.int .i64 0, .int .i64 0, .bool false, .int .i64 0, .int .i64 0, .int .i64 0, .int .i64 0, .int .i64 0], (false, false)⟩,
  some ⟨.struct [(0, 3), (1, 3), (2, 4), (3, 3), (4, 104), (6, 104)], 8, 64, [.int .i64 0, .int .i64 0, .bool false, .int .i64 0, .int .i64 0, .int .i64 0, .int .i64 0, .int .i64 0], (false, true)⟩,
  some ⟨.other, 1, 8, [.nilFunc], (false, false)⟩,
  some ⟨.other, 1, 8, [.nilFunc], (false, false)⟩,
  some ⟨.struct [(0, 38), (4, 82), (5, 87)], 6, 96, [.int .i64 0, .int .i64 0, .int .i64 0, .slice none 0 0, .slice none 0 0, .slice none 0 0], (false, false)⟩,
  some ⟨.struct [(0, 38), (4, 82), (5, 87)], 6, 96, [.int .i64 0, .int .i64 0, .int .i64 0, .slice none 0 0, .slice none 0 0, .slice none 0 0], (false, false)⟩,
  some ⟨.other, 1, 8, [.nilFunc], (false, false)⟩,
  some ⟨.ptr 116, 1, 8, [.pointer none], (false, false)⟩,
  some ⟨.map 126 123, 1, 8, [.map none], (false, false)⟩,
  some ⟨.struct [(0, 38), (4, 114)], 5, 56, [.int .i64 0, .int .i64 0, .int .i64 0, .slice none 0 0, .map none], (false, false)⟩,
  some ⟨.struct [(0, 38), (4, 114)], 5, 56, [.int .i64 0, .int .i64 0, .int .i64 0, .slice none 0 0, .map none], (false, false)⟩,
  some ⟨.arr 4 4, 4, 4, [.bool false, .bool false, .bool false, .bool false], (false, false)⟩,
  some ⟨.arr 4 4, 4, 4, [.bool false, .bool false, .bool false, .bool false], (false, true)⟩,
  some ⟨.other, 1, 8, [.nilFunc], (false, false)⟩,
  some ⟨.struct [(0, 3), (1, 3)], 2, 16, [.int .i64 0, .int .i64 0], (false, false)⟩,
  some ⟨.struct [(0, 3), (1, 3)], 2, 16, [.int .i64 0, .int .i64 0], (false, true)⟩,
  some ⟨.struct [(0, 121), (2, 3), (3, 4), (4, 99), (7, 118)], 11, 64, [.int .i64 0, .int .i64 0, .int .i64 0, .bool false, .int .i64 0, .bool false, .int .i64 0, .bool false, .bool false, .bool false, .bool false], (false, false)⟩,
  some ⟨.struct [(0, 121), (2, 3), (3, 4), (4, 99), (7, 118)], 11, 64, [.int .i64 0, .int .i64 0, .int .i64 0, .bool false, .int .i64 0, .bool false, .int .i64 0, .bool false, .bool false, .bool false, .bool false], (false, true)⟩,
  some ⟨.other, 1, 8, [.nilFunc], (false, false)⟩,
  some ⟨.struct [(0, 90), (4, 118)], 8, 40, [.int .i64 0, .int .i64 0, .int .i64 0, .int .i64 0, .bool false, .bool false, .bool false, .bool false], (false, false)⟩,
  some ⟨.struct [(0, 90), (4, 118)], 8, 40, [.int .i64 0, .int .i64 0, .int .i64 0, .int .i64 0, .bool false, .bool false, .bool false, .bool false], (false, true)⟩,
  some ⟨.other, 1, 8, [.nilFunc], (false, false)⟩,
  some ⟨.other, 1, 8, [.nilFunc], (false, false)⟩,
  some ⟨.other, 1, 8, [.nilFunc], (false, false)⟩,
  some ⟨.other, 1, 8, [.nilFunc], (false, false)⟩,
  some ⟨.other, 1, 8, [.nilFunc], (false, false)⟩,
  some ⟨.struct [(0, 130), (1, 131)], 2, 16, [.nilFunc, .nilFunc], (false, false)⟩,
  some ⟨.struct [(0, 130), (1, 131)], 2, 16, [.nilFunc, .nilFunc], (false, false)⟩,
  some ⟨.other, 1, 8, [.nilFunc], (false, false)⟩,
  some ⟨.other, 1, 8, [.nilFunc], (false, false)⟩,
  some ⟨.slice 118, 1, 24, [.slice none 0 0], (false, false)⟩,
  some ⟨.other, 1, 8, [.nilFunc], (false, false)⟩,
  some ⟨.other, 1, 8, [.nilFunc], (false, false)⟩,
  some ⟨.int .u64, 1, 8, [.int .u64 0], (false, false)⟩,
  some ⟨.struct [(0, 72), (4, 3)], 5, 40, [.int .i64 0, .int .i64 0, .int .i64 0, .int .i64 0, .int .i64 0], (false, false)⟩,
  some ⟨.struct [(0, 72), (4, 3)], 5, 40, [.int .i64 0, .int .i64 0, .int .i64 0, .int .i64 0, .int .i64 0], (false, true)⟩,
  some ⟨.map 141 58, 1, 8, [.map none], (false, false)⟩,
  some ⟨.int .u16, 1, 2, [.int .u16 0], (false, false)⟩,
  some ⟨.other, 1, 8, [.nilFunc], (false, false)⟩,
  some ⟨.other, 1, 8, [.nilFunc], (false, false)⟩,
  some ⟨.other, 1, 8, [.nilFunc], (false, false)⟩,
  some ⟨.other, 1, 8, [.nilFunc], (false, false)⟩,
  some ⟨.other, 1, 8, [.nilFunc], (false, false)⟩,
  some ⟨.other, 1, 8, [.nilFunc], (false, false)⟩,
  some ⟨.other, 1, 8, [.nilFunc], (false, false)⟩,
  some ⟨.map 3 4, 1, 8, [.map none], (false, false)⟩,
  some ⟨.other, 1, 8, [.nilFunc], (false, false)⟩,
  some ⟨.other, 1, 8, [.nilFunc], (false, false)⟩,
  some ⟨.other, 1, 8, [.nilFunc], (false, false)⟩,
  none,
  some ⟨.other, 1, 8, [.nilFunc], (false, false)⟩,
  some ⟨.other, 1, 8, [.nilFunc], (false, false)⟩,
  some ⟨.other, 1, 8, [.nilFunc], (false, false)⟩,
  some ⟨.other, 1, 8, [.nilFunc], (false, false)⟩,
  some ⟨.other, 1, 8, [.nilFunc], (false, false)⟩,
  some ⟨.other, 1, 8, [.nilFunc], (false, false)⟩,
  some ⟨.slice 133, 1, 24, [.slice none 0 0], (false, false)⟩,
  some ⟨.other, 1, 8, [.nilFunc], (false, false)⟩,
  none,
  some ⟨.other, 1, 8, [.nilFunc], (false, false)⟩,
  some ⟨.other, 1, 8, [.nilFunc], (false, false)⟩,
  some ⟨.other, 1, 8, [.nilFunc], (false, false)⟩,
  some ⟨.other, 1, 8, [.nilFunc], (false, false)⟩,
  some ⟨.other, 1, 8, [.nilFunc], (false, false)⟩,
  some ⟨.other, 1, 8, [.nilFunc], (false, false)⟩,
  some ⟨.other, 1, 8, [.nilFunc], (false, false)⟩,
  some ⟨.struct [(0, 17), (1, 17), (2, 17), (3, 9)], 4, 40, [.pointer none, .pointer none, .pointer none, .string ByteArray.empty], (false, false)⟩,
  some ⟨.struct [(0, 17), (1, 17), (2, 17), (3, 9)], 4, 40, [.pointer none, .pointer none, .pointer none, .string ByteArray.empty], (false, false)⟩,
  some ⟨.arr 0 16, 0, 0, [], (false, false)⟩,
  some ⟨.struct [(0, 174)], 0, 0, [], (false, false)⟩,
  some ⟨.struct [(0, 174)], 0, 0, [], (false, false)⟩,
  some ⟨.int .u32, 1, 4, [.int .u32 0], (false, false)⟩,
  some ⟨.int .u8, 1, 1, [.int .u8 0], (false, false)⟩,
  some ⟨.int .u8, 1, 1, [.int .u8 0], (false, false)⟩,
  some ⟨.other, 1, 8, [.nilFunc], (false, false)⟩,
  some ⟨.ptr 5, 1, 8, [.pointer none], (false, false)⟩,
  some ⟨.int .i32, 1, 4, [.int .i32 0], (false, false)⟩,
  some ⟨.int .i32, 1, 4, [.int .i32 0], (false, false)⟩,
  some ⟨.struct [(0, 12), (1, 12), (2, 177), (3, 178), (4, 5), (5, 5), (6, 179), (7, 180), (8, 181), (9, 182), (10, 183)], 11, 48, [.int .u64 0, .int .u64 0, .int .u32 0, .int .u8 0, .int .u8 0, .int .u8 0, .int .u8 0, .nilFunc, .pointer none, .int .i32 0, .int .i32 0], (false, false)⟩,
  some ⟨.struct [(0, 12), (1, 12), (2, 177), (3, 178), (4, 5), (5, 5), (6, 179), (7, 180), (8, 181), (9, 182), (10, 183)], 11, 48, [.int .u64 0, .int .u64 0, .int .u32 0, .int .u8 0, .int .u8 0, .int .u8 0, .int .u8 0, .nilFunc, .pointer none, .int .i32 0, .int .i32 0], (false, false)⟩,
  some ⟨.other, 1, 8, [.pointer none], (false, false)⟩]

def tb : TB := fun t => match tys[t]? with
  | some (some y) => some y
  | _ => none

theorem tbOk : tyTable Try.prog tys = true := by kernel_rfl

theorem pg : PG Try.prog tb where
  ty t y h := by
    unfold tb at h
    split at h
    · rename_i z hz; cases h; exact tyTable_ok tbOk t _ hz
    · cases h
  mixed := by kernel_rfl
end Go.Ev.Ytojlbcodfebmgaa

set_option linter.unusedVariables false
set_option linter.unusedSimpArgs false
namespace Go.Ev.Ytojlbcodfebmgaa
open Go.Proofs
structure Wt where
  (w l : Int)
  (t : Bool)
  (g x1 x2 y1 y2 : Int)
structure Pc where
  (x y w l : Int)
deriving DecidableEq
structure Ct where
  (n : Int)
  (ac : Bool)
  (at_ : Int)
deriving DecidableEq
structure Pl where
  (w l s : Int)
  (ws : List Wt)
abbrev wtD (w : Wt) : List D := [dI w.w, dI w.l, dB w.t, dI w.g, dI w.x1, dI w.x2, dI w.y1, dI w.y2]
abbrev pcD (p : Pc) : List D := [dI p.x, dI p.y, dI p.w, dI p.l]
abbrev ctD (c : Ct) : List D := [dI c.n, dB c.ac, dI c.at_]
abbrev isD (t : List Int) : D := .seq (t.map fun n => [dI n])
abbrev wsD (l : List Wt) : D := .seq (l.map wtD)
abbrev pcsD (l : List Pc) : D := .seq (l.map pcD)
abbrev ctsD (l : List Ct) : D := .seq (l.map ctD)
abbrev plC (p : Pl) : List D := [dI p.w, dI p.l, dI p.s, wsD p.ws]
abbrev plD (p : Pl) : D := .agg (plC p)
def inB (n lo hi : Int) : Bool := decide (lo ≤ n) && decide (n ≤ hi)
abbrev wI (n : Int) : Int := IntKind.i64.wrap n
theorem getw (l : List Wt) (k : Nat) (h : k < l.length) : (l.map wtD)[k]? = some (wtD l[k]) := by simp [h]
theorem getc (l : List Ct) (k : Nat) (h : k < l.length) : (l.map ctD)[k]? = some (ctD l[k]) := by simp [h]
theorem getpc (l : List Pc) (k : Nat) (h : k < l.length) : (l.map pcD)[k]? = some (pcD l[k]) := by simp [h]
theorem geti (l : List Int) (k : Nat) (h : k < l.length) : (l.map fun n => [dI n])[k]? = some [dI l[k]] := by simp [h]
theorem wS {z : Int} (h1 : -100000 ≤ z) (h2 : z ≤ 100000) : IntKind.i64.wrap z = z := wrapI (by omega) (by omega)
theorem w1 (k : Nat) (h : k ≤ 100000) : IntKind.i64.wrap ((k : Int) + 1) = ((k + 1 : Nat) : Int) := by rw [wrapI (by omega) (by omega)]; rfl
theorem within_pure (n lo hi : Int) : Pure Try.prog 63 [dI n, dI lo, dI hi] (dB (inB n lo hi)) := by
  refine pure_of pg Try.func63 (by kernel_rfl) ?_
  conv => whnf
  (repeat' (first | (apply kT (by with_reducible first | rfl | assumption); conv => whnf) | (apply kF (by with_reducible first | rfl | assumption); conv => whnf) | (apply kT (by decide); conv => whnf) | (apply kF (by decide); conv => whnf) | (apply kB <;> intro _ <;> conv => whnf) | fail))
  all_goals (rename_i h; unfold inB; rw [h]; rfl)
theorem in_pure (n lo hi : Int) : Pure Try.prog 24 [dI n, dI lo, dI hi] (dB (inB n lo hi)) := by
  refine pure_of pg Try.func24 (by kernel_rfl) ?_
  conv => whnf
  (repeat' (first | (apply kT (by with_reducible first | rfl | assumption); conv => whnf) | (apply kF (by with_reducible first | rfl | assumption); conv => whnf) | (apply kT (by decide); conv => whnf) | (apply kF (by decide); conv => whnf) | (apply kB <;> intro _ <;> conv => whnf) | fail))
  all_goals (rename_i h; unfold inB; simp only [ge_iff_le] at *; rw [h]; rfl)
def zoneB (a b : Int) : Bool := decide (0 ≤ a) && decide (a ≤ b) && decide (b < 8)
def hasB (a b f m : Int) : Bool := decide (a ≤ f) && decide (wI (wI (f + m) - 1) ≤ b)
def wtB (w : Wt) : Bool := inB w.w 1 8 && inB w.l 1 8 && inB w.g 0 1000 && zoneB w.x1 w.x2 && zoneB w.y1 w.y2
def sizeB (w : Wt) (p : Pc) : Bool := (p.w == w.w && p.l == w.l) || (w.t && p.w == w.l && p.l == w.w)
def fitsB (w : Wt) (p : Pc) : Bool := sizeB w p && hasB w.x1 w.x2 p.x p.w && hasB w.y1 w.y2 p.y p.l
attribute [local irreducible] Pure Bor Iter inB
theorem zone_pure (a b : Int) : Pure Try.prog 84 [.agg [dI a, dI b]] (dB (zoneB a b)) := by
  refine pure_of pg Try.func84 (by kernel_rfl) ?_
  conv => whnf
  (repeat' (first | (apply kT (by with_reducible first | rfl | assumption); conv => whnf) | (apply kF (by with_reducible first | rfl | assumption); conv => whnf) | (apply kT (by decide); conv => whnf) | (apply kF (by decide); conv => whnf) | (apply kB <;> intro _ <;> conv => whnf) | fail))
  all_goals (unfold zoneB; simp only [*, Bool.true_and, Bool.false_and, Bool.and_true, Bool.and_false]; rfl)
theorem has_pure (a b f m : Int) : Pure Try.prog 88 [.agg [dI a, dI b], dI f, dI m] (dB (hasB a b f m)) := by
  refine pure_of pg Try.func88 (by kernel_rfl) ?_
  conv => whnf
  (repeat' (first | (apply kT (by with_reducible first | rfl | assumption); conv => whnf) | (apply kF (by with_reducible first | rfl | assumption); conv => whnf) | (apply kT (by decide); conv => whnf) | (apply kF (by decide); conv => whnf) | (apply kB <;> intro _ <;> conv => whnf) | fail))
  all_goals (unfold hasB; simp only [*, Bool.true_and, Bool.false_and, Bool.and_true, Bool.and_false]; rfl)
theorem side_pure (n : Int) : Pure Try.prog 62 [dI n] (dB (inB n 1 8)) := by
  refine pure_of pg Try.func62 (by kernel_rfl) ?_
  conv => whnf
  (repeat' (first | (apply kT (by with_reducible first | rfl | assumption); conv => whnf) | (apply kF (by with_reducible first | rfl | assumption); conv => whnf) | (apply kT (by decide); conv => whnf) | (apply kF (by decide); conv => whnf) | (apply kB <;> intro _ <;> conv => whnf) | (refine .inl ⟨_, within_pure .., ?_⟩; conv => whnf) | fail))
  rfl
attribute [local irreducible] zoneB hasB
theorem wtvalid_pure (w : Wt) : Pure Try.prog 65 [.agg (wtD w)] (dB (wtB w)) := by
  refine pure_of pg Try.func65 (by kernel_rfl) ?_
  conv => whnf
  (repeat' (first | (apply kT (by with_reducible first | rfl | assumption); conv => whnf) | (apply kF (by with_reducible first | rfl | assumption); conv => whnf) | (apply kT (by decide); conv => whnf) | (apply kF (by decide); conv => whnf) | (apply kB <;> intro _ <;> conv => whnf) | (refine .inl ⟨_, side_pure .., ?_⟩; conv => whnf) | (refine .inl ⟨_, within_pure .., ?_⟩; conv => whnf) | (refine .inl ⟨_, zone_pure .., ?_⟩; conv => whnf) | fail))
  all_goals (unfold wtB; simp only [*, Bool.true_and, Bool.false_and, Bool.and_true, Bool.and_false]; rfl)
theorem fits_pure (w : Wt) (p : Pc) : Pure Try.prog 70 [.agg (wtD w), .agg (pcD p)] (dB (fitsB w p)) := by
  refine pure_of pg Try.func70 (by kernel_rfl) ?_
  conv => whnf
  (repeat' (first | (apply kT (by with_reducible first | rfl | assumption); conv => whnf) | (apply kF (by with_reducible first | rfl | assumption); conv => whnf) | (apply kT (by decide); conv => whnf) | (apply kF (by decide); conv => whnf) | (apply kB <;> intro _ <;> conv => whnf) | (refine .inl ⟨_, has_pure .., ?_⟩; conv => whnf) | fail))
  all_goals (unfold fitsB sizeB; simp only [*, Bool.true_and, Bool.false_and, Bool.and_true, Bool.and_false, Bool.true_or, Bool.false_or, Bool.or_true, Bool.or_false]; rfl)
theorem units_pure (p : Pc) : Pure Try.prog 71 [.agg (pcD p)] (dI (wI (p.w * p.l))) := by
  refine pure_of pg Try.func71 (by kernel_rfl) ?_
  conv => whnf
  rfl
theorem wide_pure (p : Pc) : Pure Try.prog 90 [.agg (pcD p)] (dI p.w) := by
  refine pure_of pg Try.func90 (by kernel_rfl) ?_
  conv => whnf
  rfl
theorem long_pure (p : Pc) : Pure Try.prog 92 [.agg (pcD p)] (dI p.l) := by
  refine pure_of pg Try.func92 (by kernel_rfl) ?_
  conv => whnf
  rfl
theorem upright_pure (p : Pc) (f m : Int) : Pure Try.prog 91 [.agg (pcD p), dI f, dI m] (.agg (pcD ⟨wI (p.x + f), p.y, m, p.l⟩)) := by
  refine pure_of pg Try.func91 (by kernel_rfl) ?_
  conv => whnf
  rfl
theorem level_pure (p : Pc) (f m : Int) : Pure Try.prog 93 [.agg (pcD p), dI f, dI m] (.agg (pcD ⟨p.x, wI (p.y + f), p.w, m⟩)) := by
  refine pure_of pg Try.func93 (by kernel_rfl) ?_
  conv => whnf
  rfl
/-- a direction of cuts -/
abbrev dirC (ac : Bool) : List D := [.fn (.func (bif ac then 92 else 90)) [] [], .fn (.func (bif ac then 93 else 91)) [] []]
theorem dirs_pure : Pure Try.prog 79 [] (.seq [dirC false, dirC true]) := by
  refine pure_of pg Try.func79 (by kernel_rfl) ?_
  conv => whnf
  (refine .l ?_; conv => whnf)
  rfl
theorem of_pure (c : Ct) : Pure Try.prog 57 [.agg (ctD c)] (.agg (dirC c.ac)) := by
  refine pure_of pg Try.func57 (by kernel_rfl) ?_
  conv => whnf
  (apply kB <;> intro h <;> conv => whnf)
  · (refine .inl ⟨_, dirs_pure, ?_⟩; conv => whnf)
    (refine ⟨1, dirC true, rfl, rfl, rfl, ?_⟩; conv => whnf)
    rw [h]; rfl
  · (refine .inl ⟨_, dirs_pure, ?_⟩; conv => whnf)
    (refine ⟨0, dirC false, rfl, rfl, rfl, ?_⟩; conv => whnf)
    rw [h]; rfl
theorem whole_pure (p : Pl) : Pure Try.prog 51 [plD p] (.agg (pcD ⟨0, 0, p.w, p.l⟩)) := by
  refine pure_of pg Try.func51 (by kernel_rfl) ?_
  conv => whnf
  rfl
end Go.Ev.Ytojlbcodfebmgaa

set_option linter.unusedVariables false
set_option linter.unusedSimpArgs false
set_option maxRecDepth 100000
namespace Go.Ev.Ytojlbcodfebmgaa
open Go.Proofs
attribute [local irreducible] Pure Bor Iter inB
def farP (p : Pc) (ac : Bool) : Int := bif ac then p.l else p.w
def partP (p : Pc) (ac : Bool) (f m : Int) : Pc := bif ac then ⟨p.x, p.y + f, p.w, m⟩ else ⟨p.x + f, p.y, m, p.l⟩
def noCut (far a s : Int) : Prop := a < 0 ∨ far - a - s < 0 ∨ s = 0 ∧ (a = 0 ∨ far - a - s = 0)
instance (far a s : Int) : Decidable (noCut far a s) := by unfold noCut; infer_instance
def partsL (p : Pc) (ac : Bool) (a s : Int) : List Pc :=
  if noCut (farP p ac) a s then [] else
    (if 0 < a then [partP p ac 0 a] else []) ++ (if 0 < farP p ac - a - s then [partP p ac (a + s) (farP p ac - a - s)] else [])
/-- a piece of a small plate -/
structure OkP (p : Pc) : Prop where
  x0 : 0 ≤ p.x
  y0 : 0 ≤ p.y
  w0 : 1 ≤ p.w
  l0 : 1 ≤ p.l
  x1 : p.x + p.w ≤ 100
  y1 : p.y + p.l ≤ 100
def InI (n : Int) : Prop := -9223372036854775808 ≤ n ∧ n < 9223372036854775808
abbrev dirO (ac : Bool) : Ob := .var false 133 ((dirC ac).map A.d)
abbrev pcO (p : Pc) : Ob := .var false 90 ((pcD p).map A.d)
abbrev intO (n : Int) : Ob := .var false 3 [.d (dI n)]
abbrev dirAt (ac : Bool) (p : Pc) (a s : Int) : List Ob := [dirO ac, pcO p, intO a, intO s]
theorem parts_bor (ac : Bool) (p : Pc) (a s : Int) : Bor tb Try.prog 58 [.d (.agg (dirC ac)), .d (.agg (pcD p)), .d (dI a), .d (dI s)] [] 4 (.fn (.func 80) [] [.ref 0 0, .ref 1 0, .ref 2 0, .ref 3 0])
    [(0, dirO ac), (1, pcO p), (2, intO a), (3, intO s)] := by
  cases ac
  all_goals
    refine bor_of pg Try.func58 (by kernel_rfl) ?_
    conv => whnf
    (refine ⟨[], [0, 1, 2, 3], ?_⟩; conv => whnf)
    exact ⟨rfl, rfl⟩
abbrev pcE (p : Pc) : List D := [.agg (pcD p)]
theorem eqT {a b : Int} (h : a = b) : (a == b) = true := by simp [h]
theorem eqF {a b : Int} (h : a ≠ b) : (a == b) = false := by simp [h]
theorem parts1_iter {p : Pc} (hp : OkP p) (ac : Bool) {a s : Int} (ha : InI a) (hs0 : 0 ≤ s) (hs2 : s ≤ 2) (t : Nat) :
    Iter tb Try.prog 80 [.own 0, .ref 1 0, .ref 2 0, .ref 3 0, .ref 4 0] (dirAt ac p a s) ((partsL p ac a s).map pcE) t
      [(1, dirO ac), (2, pcO p), (3, intO a), (4, intO s)] := by
  obtain ⟨a1, a2⟩ := ha
  obtain ⟨p1, p2, p3, p4, p5, p6⟩ := hp
  obtain ⟨els, hels⟩ : ∃ els, els = (partsL p ac a s).map pcE := ⟨_, rfl⟩
  obtain ⟨m, hm⟩ : ∃ m, m = min (t + 1) els.length := ⟨_, rfl⟩
  have hfar : 1 ≤ farP p ac ∧ farP p ac ≤ 100 := by unfold farP; cases ac <;> constructor <;> simp <;> omega
  have hE' : 0 ≤ a → wI (wI (farP p ac - a) - s) = farP p ac - a - s := fun h => by
    unfold wI
    rw [wrapI (n := farP p ac - a) (by omega) (by omega), wrapI (by omega) (by omega)]
  obtain ⟨E, hEd⟩ : ∃ E, E = farP p ac - a - s := ⟨_, rfl⟩
  rw [← hels]
  have empty : noCut (farP p ac) a s → els = [] := fun h => by rw [hels]; unfold partsL; rw [if_pos h]; rfl
  have full : ¬ noCut (farP p ac) a s → els = ((if 0 < a then [partP p ac 0 a] else []) ++ (if 0 < farP p ac - a - s then [partP p ac (a + s) (farP p ac - a - s)] else [])).map pcE := fun h => by rw [hels]; unfold partsL; rw [if_neg h]
  refine iter_of pg Try.func80 (by kernel_rfl) ?_
  rw [← hm]
  by_cases c1 : a < 0
  · have e := empty (.inl c1)
    have hm0 : m = 0 := by rw [hm, e]; simp
    have f1 := decide_eq_true c1
    cases ac
    all_goals
      conv => whnf
      (repeat' (first | (apply kT (by with_reducible first | rfl | assumption); conv => whnf) | (apply kF (by with_reducible first | rfl | assumption); conv => whnf) | (apply kT (by decide); conv => whnf) | (apply kF (by decide); conv => whnf) | (apply kB <;> intro _ <;> conv => whnf) | (refine .inl ⟨_, wide_pure p, ?_⟩; conv => whnf) | (refine .inl ⟨_, long_pure p, ?_⟩; conv => whnf) | fail))
      (refine ⟨[0, 1, 2, 3, 4], ?_⟩; conv => whnf)
      rw [hm0]; rfl
  have hE := hE' (by omega)
  clear hE'
  have f1 := decide_eq_false c1
  by_cases c2 : farP p ac - a - s < 0
  · have e := empty (.inr (.inl c2))
    have hm0 : m = 0 := by rw [hm, e]; simp
    have f2 : decide (wI (wI (farP p ac - a) - s) < 0) = true := decide_eq_true (by rw [hE]; exact c2)
    clear hE
    cases ac
    all_goals
      conv at f2 => lhs; arg 1; dsimp only [farP, wI, cond_false, cond_true]
      conv => whnf
      (repeat' (first | (apply kT (by with_reducible first | rfl | assumption); conv => whnf) | (apply kF (by with_reducible first | rfl | assumption); conv => whnf) | (apply kT (by decide); conv => whnf) | (apply kF (by decide); conv => whnf) | (apply kB <;> intro _ <;> conv => whnf) | (refine .inl ⟨_, wide_pure p, ?_⟩; conv => whnf) | (refine .inl ⟨_, long_pure p, ?_⟩; conv => whnf) | fail))
      (refine ⟨[0, 1, 2, 3, 4], ?_⟩; conv => whnf)
      rw [hm0]; rfl
  have f2 : decide (wI (wI (farP p ac - a) - s) < 0) = false := decide_eq_false (by rw [hE]; exact c2)
  by_cases c3 : s = 0 ∧ (a = 0 ∨ farP p ac - a - s = 0)
  · have e := empty (.inr (.inr c3))
    have hm0 : m = 0 := by rw [hm, e]; simp
    have f3 := eqT c3.1
    rcases c3.2 with c4 | c4
    · have f4 := eqT c4
      clear hE
      cases ac
      all_goals
        conv at f2 => lhs; arg 1; dsimp only [farP, wI, cond_false, cond_true]
        conv => whnf
        (repeat' (first | (apply kT (by with_reducible first | rfl | assumption); conv => whnf) | (apply kF (by with_reducible first | rfl | assumption); conv => whnf) | (apply kT (by decide); conv => whnf) | (apply kF (by decide); conv => whnf) | (apply kB <;> intro _ <;> conv => whnf) | (refine .inl ⟨_, wide_pure p, ?_⟩; conv => whnf) | (refine .inl ⟨_, long_pure p, ?_⟩; conv => whnf) | fail))
        (refine ⟨[0, 1, 2, 3, 4], ?_⟩; conv => whnf)
        rw [hm0]; rfl
    · have f4 : (wI (wI (farP p ac - a) - s) == 0) = true := eqT (by rw [hE]; exact c4)
      by_cases c5 : a = 0
      · have f5 := eqT c5
        clear hE
        cases ac
        all_goals
          conv at f2 => lhs; arg 1; dsimp only [farP, wI, cond_false, cond_true]
          conv => whnf
          (repeat' (first | (apply kT (by with_reducible first | rfl | assumption); conv => whnf) | (apply kF (by with_reducible first | rfl | assumption); conv => whnf) | (apply kT (by decide); conv => whnf) | (apply kF (by decide); conv => whnf) | (apply kB <;> intro _ <;> conv => whnf) | (refine .inl ⟨_, wide_pure p, ?_⟩; conv => whnf) | (refine .inl ⟨_, long_pure p, ?_⟩; conv => whnf) | fail))
          (refine ⟨[0, 1, 2, 3, 4], ?_⟩; conv => whnf)
          rw [hm0]; rfl
      · have f5 := eqF c5
        clear hE
        cases ac
        all_goals
          conv at f2 => lhs; arg 1; dsimp only [farP, wI, cond_false, cond_true]
          conv at f4 => lhs; arg 1; dsimp only [farP, wI, cond_false, cond_true]
          conv => whnf
          (repeat' (first | (apply kT (by with_reducible first | rfl | assumption); conv => whnf) | (apply kF (by with_reducible first | rfl | assumption); conv => whnf) | (apply kT (by decide); conv => whnf) | (apply kF (by decide); conv => whnf) | (apply kB <;> intro _ <;> conv => whnf) | (refine .inl ⟨_, wide_pure p, ?_⟩; conv => whnf) | (refine .inl ⟨_, long_pure p, ?_⟩; conv => whnf) | fail))
          (refine ⟨[0, 1, 2, 3, 4], ?_⟩; conv => whnf)
          rw [hm0]; rfl
  -- there are parts
  have hfull := full (fun h => h.elim c1 fun h => h.elim c2 c3)
  have fA : (s == 0) = true ∧ (a == 0) = false ∧ (wI (wI (farP p ac - a) - s) == 0) = false ∨ (s == 0) = false := by
    rw [hE]
    by_cases c : s = 0
    · exact .inl ⟨eqT c, eqF fun h => c3 ⟨c, .inl h⟩, eqF fun h => c3 ⟨c, .inr h⟩⟩
    · exact .inr (eqF c)
  have w0 : wI (p.x + 0) = p.x ∧ wI (p.y + 0) = p.y := by rw [Int.add_zero, Int.add_zero]; exact ⟨wS (by omega) (by omega), wS (by omega) (by omega)⟩
  have wA : wI (a + s) = a + s := wS (by omega) (by omega)
  have wB : wI (p.x + (a + s)) = p.x + (a + s) ∧ wI (p.y + (a + s)) = p.y + (a + s) := ⟨wS (by omega) (by omega), wS (by omega) (by omega)⟩
  have cF : Pure Try.prog (bif ac then 93 else 91) [.agg (pcD p), dI 0, dI a] (.agg (pcD (partP p ac 0 a))) := by
    cases ac
    · have := upright_pure p 0 a
      rw [w0.1] at this
      simpa [partP] using this
    · have := level_pure p 0 a
      rw [w0.2] at this
      simpa [partP] using this
  have cS : Pure Try.prog (bif ac then 93 else 91) [.agg (pcD p), dI (wI (a + s)), dI (wI (wI (farP p ac - a) - s))] (.agg (pcD (partP p ac (a + s) (farP p ac - a - s)))) := by
    rw [hE, wA]
    cases ac
    · have := upright_pure p (a + s) (farP p false - a - s)
      rw [wB.1] at this
      simpa [partP] using this
    · have := level_pure p (a + s) (farP p true - a - s)
      rw [wB.2] at this
      simpa [partP] using this
  have hfull : els = (if 0 < a then [pcE (partP p ac 0 a)] else []) ++ (if 0 < farP p ac - a - s then [pcE (partP p ac (a + s) (farP p ac - a - s))] else []) := by
    rw [hfull, List.map_append]
    congr 1 <;> split <;> rfl
  generalize partP p ac 0 a = q1 at cF hfull
  generalize partP p ac (a + s) (farP p ac - a - s) = q2 at cS hfull
  have fE : ∀ b, decide (0 < farP p ac - a - s) = b → decide (wI (wI (farP p ac - a) - s) > 0) = b := fun b h => by rw [hE]; exact h
  by_cases c6 : 0 < a
  · have f6 : decide (a > 0) = true := decide_eq_true c6
    rw [if_pos c6] at hfull
    by_cases c7 : 0 < farP p ac - a - s
    · have f7 := fE _ (decide_eq_true c7)
      rw [if_pos c7] at hfull
      have e0 : els[0]? = some (pcE q1) := by rw [hfull]; rfl
      have e1 : els[1]? = some (pcE q2) := by rw [hfull]; rfl
      have el : els.length = 2 := by rw [hfull]; rfl
      clear hE fE full empty hels
      by_cases ht : t = 0
      · have hm0 : m = 1 := by rw [hm, el, ht]; rfl
        have ft : (!decide (0 < t)) = true := by simp [ht]
        rcases fA with ⟨f8, f9, f10⟩ | f8
        all_goals
          cases ac
          all_goals
            conv at f2 => lhs; arg 1; dsimp only [farP, wI, cond_false, cond_true]
            conv at f7 => lhs; arg 1; dsimp only [farP, wI, cond_false, cond_true]
            try (conv at f10 => lhs; arg 1; dsimp only [farP, wI, cond_false, cond_true])
            conv => whnf
            (repeat' (first | (apply kT (by with_reducible first | rfl | assumption); conv => whnf) | (apply kF (by with_reducible first | rfl | assumption); conv => whnf) | (apply kT (by decide); conv => whnf) | (apply kF (by decide); conv => whnf) | (apply kB <;> intro _ <;> conv => whnf) | (refine .inl ⟨_, wide_pure p, ?_⟩; conv => whnf) | (refine .inl ⟨_, long_pure p, ?_⟩; conv => whnf) | (refine .inl ⟨_, cF, ?_⟩; conv => whnf) | (refine ⟨_, ⟨Nat.zero_le _, e0, rfl⟩, ?_⟩; conv => whnf) | fail))
            (refine ⟨[0, 1, 2, 3, 4], ?_⟩; conv => whnf)
            rw [hm0]; rfl
      · have hm0 : m = 2 := by rw [hm, el]; omega
        have ft : (!decide (0 < t)) = false := by simp; omega
        rcases fA with ⟨f8, f9, f10⟩ | f8
        all_goals
          cases ac
          all_goals
            conv at f2 => lhs; arg 1; dsimp only [farP, wI, cond_false, cond_true]
            conv at f7 => lhs; arg 1; dsimp only [farP, wI, cond_false, cond_true]
            try (conv at f10 => lhs; arg 1; dsimp only [farP, wI, cond_false, cond_true])
            conv => whnf
            (repeat' (first | (apply kT (by with_reducible first | rfl | assumption); conv => whnf) | (apply kF (by with_reducible first | rfl | assumption); conv => whnf) | (apply kT (by decide); conv => whnf) | (apply kF (by decide); conv => whnf) | (apply kB <;> intro _ <;> conv => whnf) | (refine .inl ⟨_, wide_pure p, ?_⟩; conv => whnf) | (refine .inl ⟨_, long_pure p, ?_⟩; conv => whnf) | (refine .inl ⟨_, cF, ?_⟩; conv => whnf) | (refine .inl ⟨_, cS, ?_⟩; conv => whnf) | (refine ⟨_, ⟨Nat.zero_le _, e0, rfl⟩, ?_⟩; conv => whnf) | (refine ⟨_, ⟨Nat.pos_of_ne_zero ht, e1, rfl⟩, ?_⟩; conv => whnf) | fail))
            (refine ⟨[0, 1, 2, 3, 4], ?_⟩; conv => whnf)
            rw [hm0]; rfl
    · have f7 := fE _ (decide_eq_false c7)
      rw [if_neg c7, List.append_nil] at hfull
      have e0 : els[0]? = some (pcE q1) := by rw [hfull]; rfl
      have el : els.length = 1 := by rw [hfull]; rfl
      clear hE fE full empty hels
      have hm0 : m = 1 := by rw [hm, el]; omega
      by_cases ht : t = 0
      · have ft : (!decide (0 < t)) = true := by simp [ht]
        rcases fA with ⟨f8, f9, f10⟩ | f8
        all_goals
          cases ac
          all_goals
            conv at f2 => lhs; arg 1; dsimp only [farP, wI, cond_false, cond_true]
            conv at f7 => lhs; arg 1; dsimp only [farP, wI, cond_false, cond_true]
            try (conv at f10 => lhs; arg 1; dsimp only [farP, wI, cond_false, cond_true])
            conv => whnf
            (repeat' (first | (apply kT (by with_reducible first | rfl | assumption); conv => whnf) | (apply kF (by with_reducible first | rfl | assumption); conv => whnf) | (apply kT (by decide); conv => whnf) | (apply kF (by decide); conv => whnf) | (apply kB <;> intro _ <;> conv => whnf) | (refine .inl ⟨_, wide_pure p, ?_⟩; conv => whnf) | (refine .inl ⟨_, long_pure p, ?_⟩; conv => whnf) | (refine .inl ⟨_, cF, ?_⟩; conv => whnf) | (refine ⟨_, ⟨Nat.zero_le _, e0, rfl⟩, ?_⟩; conv => whnf) | fail))
            (refine ⟨[0, 1, 2, 3, 4], ?_⟩; conv => whnf)
            rw [hm0]; rfl
      · have ft : (!decide (0 < t)) = false := by simp; omega
        rcases fA with ⟨f8, f9, f10⟩ | f8
        all_goals
          cases ac
          all_goals
            conv at f2 => lhs; arg 1; dsimp only [farP, wI, cond_false, cond_true]
            conv at f7 => lhs; arg 1; dsimp only [farP, wI, cond_false, cond_true]
            try (conv at f10 => lhs; arg 1; dsimp only [farP, wI, cond_false, cond_true])
            conv => whnf
            (repeat' (first | (apply kT (by with_reducible first | rfl | assumption); conv => whnf) | (apply kF (by with_reducible first | rfl | assumption); conv => whnf) | (apply kT (by decide); conv => whnf) | (apply kF (by decide); conv => whnf) | (apply kB <;> intro _ <;> conv => whnf) | (refine .inl ⟨_, wide_pure p, ?_⟩; conv => whnf) | (refine .inl ⟨_, long_pure p, ?_⟩; conv => whnf) | (refine .inl ⟨_, cF, ?_⟩; conv => whnf) | (refine ⟨_, ⟨Nat.zero_le _, e0, rfl⟩, ?_⟩; conv => whnf) | fail))
            (refine ⟨[0, 1, 2, 3, 4], ?_⟩; conv => whnf)
            rw [hm0]; rfl
  · have f6 : decide (a > 0) = false := decide_eq_false c6
    rw [if_neg c6, List.nil_append] at hfull
    by_cases c7 : 0 < farP p ac - a - s
    · have f7 := fE _ (decide_eq_true c7)
      rw [if_pos c7] at hfull
      have e0 : els[0]? = some (pcE q2) := by rw [hfull]; rfl
      have el : els.length = 1 := by rw [hfull]; rfl
      clear hE fE full empty hels
      have hm0 : m = 1 := by rw [hm, el]; omega
      rcases fA with ⟨f8, f9, f10⟩ | f8
      all_goals
        cases ac
        all_goals
          conv at f2 => lhs; arg 1; dsimp only [farP, wI, cond_false, cond_true]
          conv at f7 => lhs; arg 1; dsimp only [farP, wI, cond_false, cond_true]
          try (conv at f10 => lhs; arg 1; dsimp only [farP, wI, cond_false, cond_true])
          conv => whnf
          (repeat' (first | (apply kT (by with_reducible first | rfl | assumption); conv => whnf) | (apply kF (by with_reducible first | rfl | assumption); conv => whnf) | (apply kT (by decide); conv => whnf) | (apply kF (by decide); conv => whnf) | (apply kB <;> intro _ <;> conv => whnf) | (refine .inl ⟨_, wide_pure p, ?_⟩; conv => whnf) | (refine .inl ⟨_, long_pure p, ?_⟩; conv => whnf) | (refine .inl ⟨_, cS, ?_⟩; conv => whnf) | (refine ⟨_, ⟨Nat.zero_le _, e0, rfl⟩, ?_⟩; conv => whnf) | fail))
          all_goals
            (refine ⟨[0, 1, 2, 3, 4], ?_⟩; conv => whnf)
            rw [hm0]; rfl
    · have f7 := fE _ (decide_eq_false c7)
      rw [if_neg c7] at hfull
      have el : els.length = 0 := by rw [hfull]; rfl
      clear hE fE full empty hels
      have hm0 : m = 0 := by rw [hm, el]; omega
      rcases fA with ⟨f8, f9, f10⟩ | f8
      all_goals
        cases ac
        all_goals
          conv at f2 => lhs; arg 1; dsimp only [farP, wI, cond_false, cond_true]
          conv at f7 => lhs; arg 1; dsimp only [farP, wI, cond_false, cond_true]
          try (conv at f10 => lhs; arg 1; dsimp only [farP, wI, cond_false, cond_true])
          conv => whnf
          (repeat' (first | (apply kT (by with_reducible first | rfl | assumption); conv => whnf) | (apply kF (by with_reducible first | rfl | assumption); conv => whnf) | (apply kT (by decide); conv => whnf) | (apply kF (by decide); conv => whnf) | (apply kB <;> intro _ <;> conv => whnf) | (refine .inl ⟨_, wide_pure p, ?_⟩; conv => whnf) | (refine .inl ⟨_, long_pure p, ?_⟩; conv => whnf) | fail))
          (refine ⟨[0, 1, 2, 3, 4], ?_⟩; conv => whnf)
          rw [hm0]; rfl
end Go.Ev.Ytojlbcodfebmgaa

set_option linter.unusedVariables false
set_option linter.unusedSimpArgs false
set_option maxRecDepth 100000
namespace Go.Ev.Ytojlbcodfebmgaa
open Go.Proofs
attribute [local irreducible] Pure Bor Iter inB
abbrev fnP (a b c d : Nat) : A := .fn (.func 80) [] [.ref a 0, .ref b 0, .ref c 0, .ref d 0]
theorem parts_len (p : Pc) (ac : Bool) (a s : Int) : (partsL p ac a s).length ≤ 2 := by
  unfold partsL
  split
  · exact Nat.zero_le _
  · split <;> split <;> simp
theorem getE {l : List Pc} {k : Nat} {ds : List D} (h : (l.map pcE)[k]? = some ds) : ∃ p, l[k]? = some p ∧ ds = pcE p := by
  rw [List.getElem?_map] at h
  obtain ⟨p, h1, h2⟩ := Option.map_eq_some_iff.1 h
  exact ⟨p, h1, h2.symm⟩
theorem take_succ_map {l : List Pc} {k : Nat} {p : Pc} (h : l[k]? = some p) : (l.take (k + 1)).map pcD = (l.take k).map pcD ++ [pcD p] := by
  rw [List.take_add_one, h, List.map_append]; rfl
theorem appendNil_bor {p : Pc} (hp : OkP p) (ac : Bool) {a s : Int} (ha : InI a) (hs0 : 0 ≤ s) (hs2 : s ≤ 2) :
    Bor tb Try.prog 56 [.d (.v (.slice none 0 0)), fnP 0 1 2 3] (dirAt ac p a s) 4 (.d (pcsD (partsL p ac a s))) [(0, dirO ac), (1, pcO p), (2, intO a), (3, intO s)] := by
  have hit := parts1_iter hp ac ha hs0 hs2 (((partsL p ac a s).map pcE).length)
  have hl := parts_len p ac a s
  generalize partsL p ac a s = l at hit hl ⊢
  refine bor_of pg Try.func56 (by kernel_rfl) ?_
  conv => whnf
  refine ⟨[0, 1, 2, 3], [2], [4], _, _, _, fun i ob n => i ≤ l.length ∧ ((i = 0 ∧ n = 6 ∧ ob = [(4, .var false 82 [.d (.v (.slice none 0 0))])]) ∨ (0 < i ∧ n = 8 ∧ ob = [(4, .var false 82 [.own 7]), (7, .arr 90 ((l.take i).map pcD))])), hit, ?_⟩
  conv => whnf
  refine ⟨⟨Nat.zero_le _, .inl ⟨rfl, rfl, rfl⟩⟩, ?_, ?_⟩
  · rintro i ds _ _ hi hile ⟨hil, h | h⟩
    · obtain ⟨rfl, rfl, rfl⟩ := h
      obtain ⟨q, hq, rfl⟩ := getE hi
      refine ⟨rfl, ?_⟩
      conv => whnf
      (repeat' (first | (apply kT (by with_reducible first | rfl | assumption); conv => whnf) | (apply kF (by with_reducible first | rfl | assumption); conv => whnf) | (apply kT (by decide); conv => whnf) | (apply kF (by decide); conv => whnf) | (apply kB <;> intro _ <;> conv => whnf) | fail))
      (refine .l ?_; conv => whnf)
      (refine ⟨by simp, ?_⟩; conv => whnf)
      (refine ⟨by show 1 * 32 ≤ _; omega, ?_⟩; conv => whnf)
      (refine ⟨[4, 7], 8, rfl, ?_⟩; conv => whnf)
      have hlt : 0 < l.length := (List.getElem?_eq_some_iff.1 hq).1
      refine ⟨by rw [List.length_map]; exact hlt, hlt, .inr ⟨Nat.one_pos, rfl, ?_⟩⟩
      rw [show (0 + 1) = 1 from rfl, show (1 : Nat) = 0 + 1 from rfl, take_succ_map hq]
      rfl
    · obtain ⟨h0, rfl, rfl⟩ := h
      obtain ⟨q, hq, rfl⟩ := getE hi
      refine ⟨rfl, ?_⟩
      conv => whnf
      (repeat' (first | (apply kT (by with_reducible first | rfl | assumption); conv => whnf) | (apply kF (by with_reducible first | rfl | assumption); conv => whnf) | (apply kT (by decide); conv => whnf) | (apply kF (by decide); conv => whnf) | (apply kB <;> intro _ <;> conv => whnf) | fail))
      (refine .l ?_; conv => whnf)
      have hlt : i < l.length := (List.getElem?_eq_some_iff.1 hq).1
      (refine ⟨by simp, ?_⟩; conv => whnf)
      (refine ⟨by simp only [List.length_map, List.length_take, List.length_singleton]; omega, ?_⟩; conv => whnf)
      (refine ⟨[4, 7], 8, rfl, ?_⟩; conv => whnf)
      refine ⟨by rw [List.length_map]; exact hlt, hlt, .inr ⟨Nat.succ_pos _, rfl, ?_⟩⟩
      rw [take_succ_map hq]
  · rintro _ _ _ ⟨_, h | h⟩
    · obtain ⟨h0, rfl, rfl⟩ := h
      have hl0 : l = [] := by rw [List.length_map] at h0; exact List.eq_nil_of_length_eq_zero h0
      conv => whnf
      refine ⟨[], [0, 1, 2, 3], ?_⟩
      conv => whnf
      rw [hl0]
      exact ⟨rfl, rfl⟩
    · obtain ⟨h0, rfl, rfl⟩ := h
      conv => whnf
      refine ⟨[], [0, 1, 2, 3], ?_⟩
      conv => whnf
      rw [List.length_map, List.take_length]
      exact ⟨rfl, rfl⟩
theorem collect_bor {p : Pc} (hp : OkP p) (ac : Bool) {a s : Int} (ha : InI a) (hs0 : 0 ≤ s) (hs2 : s ≤ 2) :
    Bor tb Try.prog 76 [fnP 0 1 2 3] (dirAt ac p a s) 4 (.d (pcsD (partsL p ac a s))) [(0, dirO ac), (1, pcO p), (2, intO a), (3, intO s)] := by
  refine bor_of pg Try.func76 (by kernel_rfl) ?_
  conv => whnf
  (refine .inr ⟨[0, 1, 2, 3], 4, _, _, appendNil_bor hp ac ha hs0 hs2, ?_⟩; conv => whnf)
  refine ⟨[], [0, 1, 2, 3], ?_⟩
  conv => whnf
  exact ⟨rfl, rfl⟩
theorem appendOwn_bor {p : Pc} (hp : OkP p) (ac : Bool) {a s : Int} (ha : InI a) (hs0 : 0 ≤ s) (hs2 : s ≤ 2) (es : List Pc) (he : es.length ≤ 100000) :
    Bor tb Try.prog 56 [.own 0, fnP 1 2 3 4] (.arr 90 (es.map pcD) :: dirAt ac p a s) 6 (.own 5) [(0, .dead), (1, dirO ac), (2, pcO p), (3, intO a), (4, intO s), (5, .arr 90 ((es ++ partsL p ac a s).map pcD))] := by
  have hit := parts1_iter hp ac ha hs0 hs2 (((partsL p ac a s).map pcE).length)
  have hl := parts_len p ac a s
  generalize partsL p ac a s = l at hit hl ⊢
  refine Bor.mv (N := 6) (r := .own 0) (post := [(0, .arr 90 ((es ++ l).map pcD)), (1, dirO ac), (2, pcO p), (3, intO a), (4, intO s)]) ?_ [1000, 1, 2, 3, 4, 0] rfl rfl rfl
  refine bor_ofO pg Try.func56 (by kernel_rfl) ?_
  conv => whnf
  refine ⟨[1, 2, 3, 4], [2], [0, 5], _, _, _, fun i ob n => i ≤ l.length ∧ n = 7 ∧ ob = [(0, .arr 90 ((es ++ l.take i).map pcD)), (5, .var false 82 [.own 0])], hit, ?_⟩
  conv => whnf
  refine ⟨⟨Nat.zero_le _, rfl, by rw [List.take_zero, List.append_nil]⟩, ?_, ?_⟩
  · rintro i ds _ _ hi hile ⟨hil, rfl, rfl⟩
    obtain ⟨q, hq, rfl⟩ := getE hi
    refine ⟨rfl, ?_⟩
    conv => whnf
    (repeat' (first | (apply kT (by with_reducible first | rfl | assumption); conv => whnf) | (apply kF (by with_reducible first | rfl | assumption); conv => whnf) | (apply kT (by decide); conv => whnf) | (apply kF (by decide); conv => whnf) | (apply kB <;> intro _ <;> conv => whnf) | fail))
    (refine .l ?_; conv => whnf)
    have hlt : i < l.length := (List.getElem?_eq_some_iff.1 hq).1
    (refine ⟨by simp, ?_⟩; conv => whnf)
    (refine ⟨by simp only [List.length_map, List.length_append, List.length_take, List.length_singleton]; omega, ?_⟩; conv => whnf)
    (refine ⟨[0, 5], 7, rfl, ?_⟩; conv => whnf)
    refine ⟨by rw [List.length_map]; exact hlt, hlt, rfl, ?_⟩
    rw [List.map_append, List.map_append, take_succ_map hq, List.append_assoc]
  · rintro _ _ _ ⟨_, rfl, rfl⟩
    conv => whnf
    refine ⟨[0, 1, 2, 3, 4], ?_⟩
    conv => whnf
    rw [List.length_map, List.take_length]
    exact ⟨rfl, rfl⟩
end Go.Ev.Ytojlbcodfebmgaa

set_option linter.unusedVariables false
set_option linter.unusedSimpArgs false
set_option maxRecDepth 100000
namespace Go.Ev.Ytojlbcodfebmgaa
open Go.Proofs
attribute [local irreducible] Pure Bor Iter inB wtB
abbrev wrO : Ob := .var false 147 [.d (.fn (.func 65) [] [])]
theorem wr_all1_bor (x : Wt) : Bor tb Try.prog 83 [.d (.agg (wtD x)), .ref 0 0] [wrO] 1 (.d (dB (!wtB x))) [(0, wrO)] := by
  refine bor_of pg Try.func83 (by kernel_rfl) ?_
  conv => whnf
  (refine .inl ⟨_, wtvalid_pure x, ?_⟩; conv => whnf)
  refine ⟨[], [0], ?_⟩
  conv => whnf
  exact ⟨rfl, rfl⟩
theorem wr_index_bor (l : List Wt) (hl : l.length ≤ 100000) : Bor tb Try.prog 94 [.d (.seq (l.map wtD)), .fn (.func 83) [] [.ref 0 0]] [wrO] 1 (.d (dI (match l.findIdx? (fun x => !wtB x) with | some i => (i : Int) | none => -1))) [(0, wrO)] := by
  have hm : ((List.map wtD l).length : Int) = (l.length : Int) := by rw [List.length_map]
  refine bor_of pg Try.func94 (by kernel_rfl) ?_
  conv => whnf
  refine ⟨[], [0, 1, 7, 8], [0], 1, fun m s => ∃ k : Nat, k + m = l.length ∧ (∀ i (h : i < k) (h' : i < l.length), wtB l[i] = true) ∧ s = ⟨[(0, .d (.seq (l.map wtD))), (1, .fn (.func 83) [] [.ref 0 0]), (7, .d (dI (l.map wtD).length)), (8, .d (dI k))], [(0, wrO)], 1⟩, ?_, ?_⟩
  · conv => whnf
    exact ⟨l.length, 0, by simp, by simp, rfl⟩
  · rintro m _ ⟨k, hk, hall, rfl⟩
    conv => whnf
    (apply kB <;> intro h <;> conv => whnf)
    · have hlt : k < l.length := by rw [decide_eq_true_eq, hm] at h; omega
      (refine ⟨k, wtD l[k], rfl, getw l k hlt, rfl, ?_⟩; conv => whnf)
      (refine .inr ⟨[0], 1, _, _, wr_all1_bor l[k], ?_⟩; conv => whnf)
      (apply kB <;> intro h1 <;> conv => whnf)
      · refine ⟨[], [0], ?_⟩
        conv => whnf
        refine ⟨?_, rfl⟩
        have hf : l.findIdx? (fun x => !wtB x) = some k := by
          rw [List.findIdx?_eq_some_iff_getElem]
          exact ⟨hlt, h1, fun j hj => by simp [hall j hj (by omega)]⟩
        rw [hf]
        rfl
      · refine ⟨m - 1, by omega, k + 1, by omega, fun i hi hi' => ?_, ?_⟩
        · rcases Nat.lt_or_ge i k with h2 | h2
          · exact hall i h2 hi'
          · have : i = k := by omega
            subst this
            simpa using h1
        · rw [w1 k (by omega)]
    · have hge : l.length ≤ k := by rw [decide_eq_false_iff_not, hm] at h; omega
      refine ⟨[], [0], ?_⟩
      conv => whnf
      refine ⟨?_, rfl⟩
      have hf : l.findIdx? (fun x => !wtB x) = none := by
        rw [List.findIdx?_eq_none_iff]
        intro x hx
        obtain ⟨i, hi, rfl⟩ := List.mem_iff_getElem.1 hx
        simp [hall i (by omega) hi]
      rw [hf]
      rfl
theorem wr_contains_bor (l : List Wt) (hl : l.length ≤ 100000) : Bor tb Try.prog 82 [.d (.seq (l.map wtD)), .fn (.func 83) [] [.ref 0 0]] [wrO] 1 (.d (dB (!l.all wtB))) [(0, wrO)] := by
  refine bor_of pg Try.func82 (by kernel_rfl) ?_
  conv => whnf
  (refine .inr ⟨[0], 1, _, _, wr_index_bor l hl, ?_⟩; conv => whnf)
  refine ⟨[], [0], ?_⟩
  conv => whnf
  refine ⟨?_, rfl⟩
  show A.d (dB (decide ((match l.findIdx? (fun x => !wtB x) with | some i => (i : Int) | none => -1) ≥ 0))) = _
  congr 1
  cases h : l.findIdx? (fun x => !wtB x) with
  | none =>
    rw [List.findIdx?_eq_none_iff] at h
    have : l.all wtB = true := by
      rw [List.all_eq_true]
      intro x hx
      simpa using h x hx
    simp [this]
  | some i =>
    rw [List.findIdx?_eq_some_iff_getElem] at h
    obtain ⟨h1, h2, _⟩ := h
    have : l.all wtB = false := by
      rw [Bool.eq_false_iff]
      intro h3
      have := List.all_eq_true.1 h3 _ (List.getElem_mem h1)
      rw [this] at h2
      cases h2
    rw [this]
    have : (i : Int) ≥ 0 := by omega
    simp [this]
theorem wr_all_pure (l : List Wt) (hl : l.length ≤ 100000) : Pure Try.prog 64 [.seq (l.map wtD), .fn (.func 65) [] []] (dB (l.all wtB)) := by
  refine pure_of pg Try.func64 (by kernel_rfl) ?_
  conv => whnf
  (refine .inr ⟨[0], 1, _, _, wr_contains_bor l hl, ?_⟩; conv => whnf)
  simp [oneD]
def checkI (p : Pl) : Int := if 4 < p.ws.length then 3 else if inB p.w 1 8 && inB p.l 1 8 && inB p.s 0 2 && p.ws.all wtB then 0 else 1
theorem check_pure (p : Pl) (hl : p.ws.length ≤ 100000) : Pure Try.prog 41 [plD p] (dI (checkI p)) := by
  have hm : ((List.map wtD p.ws).length : Int) = (p.ws.length : Int) := by rw [List.length_map]
  refine pure_of pg Try.func41 (by kernel_rfl) ?_
  by_cases h4 : 4 < p.ws.length
  · have f1 : decide (((List.map wtD p.ws).length : Int) > 4) = true := decide_eq_true (by rw [hm]; omega)
    conv => whnf
    (repeat' (first | (apply kT (by with_reducible first | rfl | assumption); conv => whnf) | (apply kF (by with_reducible first | rfl | assumption); conv => whnf) | (apply kT (by decide); conv => whnf) | (apply kF (by decide); conv => whnf) | (apply kB <;> intro _ <;> conv => whnf) | fail))
    unfold checkI
    rw [if_pos h4]
    rfl
  · have f1 : decide (((List.map wtD p.ws).length : Int) > 4) = false := decide_eq_false (by rw [hm]; omega)
    have e : checkI p = if inB p.w 1 8 && inB p.l 1 8 && inB p.s 0 2 && p.ws.all wtB then 0 else 1 := by unfold checkI; rw [if_neg h4]
    rw [e]
    clear e
    have ca := wr_all_pure p.ws hl
    conv => whnf
    (repeat' (first | (apply kT (by with_reducible first | rfl | assumption); conv => whnf) | (apply kF (by with_reducible first | rfl | assumption); conv => whnf) | (apply kT (by decide); conv => whnf) | (apply kF (by decide); conv => whnf) | (apply kB <;> intro _ <;> conv => whnf) | (refine .inl ⟨_, side_pure .., ?_⟩; conv => whnf) | (refine .inl ⟨_, within_pure .., ?_⟩; conv => whnf) | (refine .inl ⟨_, ca, ?_⟩; conv => whnf) | fail))
    all_goals (simp only [Bool.not_eq_true', Bool.not_eq_false'] at *; simp only [*, Bool.true_and, Bool.false_and, Bool.and_true, Bool.and_false, if_true, if_false, Bool.false_eq_true]; rfl)
end Go.Ev.Ytojlbcodfebmgaa

set_option linter.unusedVariables false
set_option linter.unusedSimpArgs false
set_option maxRecDepth 100000
namespace Go.Ev.Ytojlbcodfebmgaa
open Go.Proofs
attribute [local irreducible] Pure Bor Iter inB wtB partsL
abbrev St2 := List Pc × List Bool
def pcAt (l : List Pc) (n : Int) : Pc := (l[n.toNat]?).getD ⟨0, 0, 1, 1⟩
def cutAt (l : List Bool) (n : Int) : Bool := (l[n.toNat]?).getD true
/-- one cut; none: it cannot be done -/
def stepC (s : Int) (st : St2) (c : Ct) : Option St2 :=
  if inB c.n 0 (st.1.length - 1) = false ∨ cutAt st.2 c.n = true ∨ partsL (pcAt st.1 c.n) c.ac c.at_ s = [] then none
  else some (st.1 ++ partsL (pcAt st.1 c.n) c.ac c.at_ s, st.2.set c.n.toNat true ++ List.replicate (partsL (pcAt st.1 c.n) c.ac c.at_ s).length false)
def runC (s : Int) : List Ct → St2 → Option St2
  | [], st => some st
  | c :: r, st => match stepC s st c with
    | some st' => runC s r st'
    | none => none
def st0 (p : Pl) : St2 := ([⟨0, 0, p.w, p.l⟩], [false])
abbrev bsE (l : List Bool) : List (List D) := l.map fun b => [dB b]
abbrev wkO (p : Pl) (i j : Nat) : Ob := .var false 111 ((plC p).map A.d ++ [.own i, .own j])
def lookN : List (Nat × Nat) → Nat → Nat
  | [], k => 100000 + k
  | (i, j) :: r, k => bif Nat.beq i k then j else lookN r k
/-- a list of numbers for a renaming: k is j, for (k, j) in it; all others are forgotten -/
def renL (m : List (Nat × Nat)) : Nat → Nat → List Nat
  | _, 0 => []
  | k, n + 1 => lookN m k :: renL m (k + 1) n
theorem bsE_set (l : List Bool) (n : Nat) (b : Bool) : (bsE l).set n [dB b] = bsE (l.set n b) := by
  show (l.map fun b => [dB b]).set n [dB b] = (l.set n b).map fun b => [dB b]
  rw [List.map_set]
theorem bsE_app (l r : List Bool) : bsE (l ++ r) = bsE l ++ bsE r := List.map_append
theorem getpa {l : List Pc} {n : Int} (h0 : 0 ≤ n) (h1 : n < l.length) : (l.map pcD)[n.toNat]? = some (pcD (pcAt l n)) := by
  unfold pcAt
  rw [List.getElem?_map, List.getElem?_eq_getElem (by omega)]
  rfl
theorem getba {l : List Bool} {n : Int} (h0 : 0 ≤ n) (h1 : n < l.length) : (bsE l)[n.toNat]? = some [dB (cutAt l n)] := by
  unfold cutAt
  rw [List.getElem?_map, List.getElem?_eq_getElem (by omega)]
  rfl
theorem inB_true {n lo hi : Int} : inB n lo hi = true ↔ lo ≤ n ∧ n ≤ hi := by unfold inB; simp
theorem inB_false {n lo hi : Int} : inB n lo hi = false ↔ ¬ (lo ≤ n ∧ n ≤ hi) := by rw [← inB_true]; simp
/-- what a state of cuts keeps -/
structure OkS (st : St2) : Prop where
  len : st.2.length = st.1.length
  pos : 1 ≤ st.1.length
  pcs : ∀ q ∈ st.1, OkP q
theorem OkS.at {st : St2} (h : OkS st) {n : Int} (h0 : 0 ≤ n) (h1 : n < st.1.length) : OkP (pcAt st.1 n) := by
  unfold pcAt
  rw [List.getElem?_eq_getElem (by omega)]
  exact h.pcs _ (List.getElem_mem _)
theorem parts_ok {p : Pc} (hp : OkP p) {ac : Bool} {a s : Int} (hs : 0 ≤ s) : ∀ q ∈ partsL p ac a s, OkP q := by
  intro q hq
  obtain ⟨p1, p2, p3, p4, p5, p6⟩ := hp
  unfold partsL at hq
  split at hq
  · cases hq
  · rename_i hc
    unfold noCut at hc
    rcases List.mem_append.1 hq with hq | hq
    all_goals
      split at hq
      · simp only [List.mem_singleton] at hq
        subst hq
        unfold partP
        unfold farP at *
        cases ac
        all_goals
          simp only [cond_true, cond_false] at *
          constructor <;> simp only <;> omega
      · cases hq
theorem OkS.step {s : Int} (hs : 0 ≤ s) {st st' : St2} {c : Ct} (h : OkS st) (e : stepC s st c = some st') : OkS st' ∧ st'.1.length ≤ st.1.length + 2 := by
  unfold stepC at e
  split at e
  · cases e
  · rename_i hc
    simp only [not_or, Bool.not_eq_false, inB_true] at hc
    cases e
    have hp := h.at hc.1.1 (by omega)
    have hl := parts_len (pcAt st.1 c.n) c.ac c.at_ s
    refine ⟨⟨?_, ?_, ?_⟩, ?_⟩
    · simp [h.len]
    · have := h.pos; simp; omega
    · intro q hq
      rcases List.mem_append.1 hq with hq | hq
      · exact h.pcs q hq
      · exact parts_ok hp hs q hq
    · simp; omega
theorem runC_drop {s : Int} {cs : List Ct} {st st' : St2} {k : Nat} (hk : k < cs.length) (h : runC s (cs.drop k) st = some st') : ∃ st1, stepC s st cs[k] = some st1 ∧ runC s (cs.drop (k + 1)) st1 = some st' := by
  rw [List.drop_eq_getElem_cons hk, runC] at h
  split at h
  · rename_i st1 h1; exact ⟨st1, h1, h⟩
  · cases h
theorem runC_next {s : Int} {cs : List Ct} {st : St2} {k : Nat} (hk : k < cs.length) : runC s (cs.drop k) st = match stepC s st cs[k] with
    | some st1 => runC s (cs.drop (k + 1)) st1
    | none => none := by
  rw [List.drop_eq_getElem_cons hk, runC]
def doR : Option St2 → Nat → A
  | some _, i => .tup [.ref i 0, .d (dI 0)]
  | none, _ => .d (.tup [.v (.pointer none), dI 11])
def doPost (p : Pl) : Option St2 → Nat → Nat → Nat → List (Nat × Ob)
  | some st, i, j, k => [(j, .arr 90 (st.1.map pcD)), (k, .arr 4 (bsE st.2)), (i, wkO p j k)]
  | none, _, _, _ => []
theorem check_zero {p : Pl} (hp : checkI p = 0) : p.ws.length ≤ 4 ∧ (1 ≤ p.w ∧ p.w ≤ 8) ∧ (1 ≤ p.l ∧ p.l ≤ 8) ∧ (0 ≤ p.s ∧ p.s ≤ 2) ∧ p.ws.all wtB = true := by
  unfold checkI at hp
  split at hp
  · cases hp
  · split at hp
    · rename_i h1 h2
      simp only [Bool.and_eq_true, inB_true] at h2
      exact ⟨by omega, h2.1.1.1, h2.1.1.2, h2.1.2, h2.2⟩
    · cases hp
theorem st0_ok {p : Pl} (hp : checkI p = 0) : OkS (st0 p) := by
  obtain ⟨h1, h2, h3, h4, h5⟩ := check_zero hp
  refine ⟨rfl, Nat.le_refl _, fun q hq => ?_⟩
  simp only [st0, List.mem_singleton] at hq
  subst hq
  constructor <;> simp only <;> omega
set_option maxHeartbeats 4000000 in
theorem do_raw {p : Pl} (hp : checkI p = 0) {cs : List Ct} (hl : cs.length ≤ 40) (hi : ∀ c ∈ cs, InI c.n ∧ InI c.at_) {R : Option St2} (hr : runC p.s cs (st0 p) = R) :
    Bor tb Try.prog 66 [.d (plD p), .d (ctsD cs)] [] 66 (doR R 49) (doPost p R 49 25 33) := by
  obtain ⟨hw, hpw, hpl, hs, _⟩ := check_zero hp
  have hc := check_pure p (by omega)
  rw [hp] at hc
  have hm : ((List.map ctD cs).length : Int) = (cs.length : Int) := by rw [List.length_map]
  have f1 : decide (((List.map ctD cs).length : Int) > 40) = false := decide_eq_false (by rw [hm]; omega)
  have ok0 := st0_ok hp
  refine bor_ofO pg Try.func66 (by kernel_rfl) ?_
  conv => whnf
  (refine .inl ⟨_, hc, ?_⟩; conv => whnf)
  (apply kF (rfl); conv => whnf)
  (repeat' (first | (apply kT (by with_reducible first | rfl | assumption); conv => whnf) | (apply kF (by with_reducible first | rfl | assumption); conv => whnf) | (apply kT (by decide); conv => whnf) | (apply kF (by decide); conv => whnf) | (apply kB <;> intro _ <;> conv => whnf) | fail))
  (refine .inl ⟨_, whole_pure p, ?_⟩; conv => whnf)
  (refine .r ⟨by decide, ?_⟩; conv => whnf)
  (refine .r ⟨by decide, ?_⟩; conv => whnf)
  refine ⟨[], [2, 4, 5, 7, 28, 29, 30], [0, 25, 33, 49], 65, fun m s => ∃ (k : Nat) (st' : St2), k + m = cs.length ∧ runC p.s (cs.drop k) st' = R ∧ OkS st' ∧ st'.1.length ≤ 1 + 2 * k ∧
    s = ⟨[(2, .ref 0 0), (4, .d (.v (.pointer none))), (5, .d (dI 0)), (7, .ref 49 0), (28, .d (ctsD cs)), (29, .d (dI (cs.map ctD).length)), (30, .d (dI k))],
      [(0, .var false 38 ((plC p).map A.d)), (25, .arr 90 (st'.1.map pcD)), (33, .arr 4 (bsE st'.2)), (49, wkO p 25 33)], 65⟩, ?_, ?_⟩
  · conv => whnf
    exact ⟨cs.length, 0, st0 p, by omega, hr, ok0, Nat.le_refl _, rfl⟩
  · rintro m _ ⟨k, st', hk, hrun, hok, hlen, rfl⟩
    by_cases hlt : k < cs.length
    · have f2 : decide ((k : Int) < ((cs.map ctD).length : Int)) = true := decide_eq_true (by rw [hm]; omega)
      rw [runC_next hlt] at hrun
      have hq := getc cs k hlt
      have hin := hi _ (List.getElem_mem hlt)
      generalize cs[k] = c at hrun hq hin
      have hbl : ((bsE st'.2).length : Int) = st'.1.length := by rw [List.length_map, hok.len]
      have hpl : ((st'.1.map pcD).length : Int) = st'.1.length := by rw [List.length_map]
      have wl : IntKind.i64.wrap (((st'.1.map pcD).length : Int) - 1) = (st'.1.length : Int) - 1 := by rw [hpl]; exact wS (by omega) (by omega)
      have cw := within_pure c.n 0 (IntKind.i64.wrap (((st'.1.map pcD).length : Int) - 1))
      rw [wl] at cw
      by_cases hc1 : inB c.n 0 ((st'.1.length : Int) - 1) = false
      · have hR : R = none := by rw [← hrun]; unfold stepC; rw [if_pos (.inl hc1)]
        rw [hc1, ← wl] at cw
        conv => whnf
        (repeat' (first | (apply kT (by with_reducible first | rfl | assumption); conv => whnf) | (apply kF (by with_reducible first | rfl | assumption); conv => whnf) | (apply kT (by decide); conv => whnf) | (apply kF (by decide); conv => whnf) | (apply kB <;> intro _ <;> conv => whnf) | fail))
        (refine ⟨k, ctD c, rfl, hq, rfl, ?_⟩; conv => whnf)
        (refine .inl ⟨_, cw, ?_⟩; conv => whnf)
        (apply kT (rfl); conv => whnf)
        (apply kT (rfl); conv => whnf)
        (apply kT (rfl); conv => whnf)
        (apply kT (rfl); conv => whnf)
        (apply kT (rfl); conv => whnf)
        (apply kT (rfl); conv => whnf)
        (apply kT (rfl); conv => whnf)
        (apply kT (rfl); conv => whnf)
        (apply kT (rfl); conv => whnf)
        (apply kT (rfl); conv => whnf)
        rw [hR]
        (refine ⟨[], ?_⟩; conv => whnf)
        exact ⟨rfl, rfl⟩
      have hc1 := (Bool.not_eq_false _).mp hc1
      have hc1' := inB_true.1 hc1
      have hop := hok.at hc1'.1 (by omega)
      have hn : (c.n.toNat : Int) = c.n := Int.toNat_of_nonneg hc1'.1
      rw [hc1, ← wl] at cw
      by_cases hc2 : cutAt st'.2 c.n = true
      · have hR : R = none := by rw [← hrun]; unfold stepC; rw [if_pos (.inr (.inl hc2))]
        conv => whnf
        (repeat' (first | (apply kT (by with_reducible first | rfl | assumption); conv => whnf) | (apply kF (by with_reducible first | rfl | assumption); conv => whnf) | (apply kT (by decide); conv => whnf) | (apply kF (by decide); conv => whnf) | (apply kB <;> intro _ <;> conv => whnf) | fail))
        (refine ⟨k, ctD c, rfl, hq, rfl, ?_⟩; conv => whnf)
        (refine .inl ⟨_, cw, ?_⟩; conv => whnf)
        (apply kF (rfl); conv => whnf)
        (repeat' (first | (apply kT (by with_reducible first | rfl | assumption); conv => whnf) | (apply kF (by with_reducible first | rfl | assumption); conv => whnf) | (apply kT (by decide); conv => whnf) | (apply kF (by decide); conv => whnf) | (apply kB <;> intro _ <;> conv => whnf) | fail))
        (refine ⟨c.n.toNat, hn.symm, by rw [List.length_map]; have := hok.len; omega, ?_⟩; conv => whnf)
        (repeat' (first | (apply kT (by with_reducible first | rfl | assumption); conv => whnf) | (apply kF (by with_reducible first | rfl | assumption); conv => whnf) | (apply kT (by decide); conv => whnf) | (apply kF (by decide); conv => whnf) | (apply kB <;> intro _ <;> conv => whnf) | fail))
        (refine ⟨_, getba hc1'.1 (by have := hok.len; omega), ?_⟩; conv => whnf)
        (refine ⟨_, rfl, ?_⟩; conv => whnf)
        (repeat' (first | (apply kT (by with_reducible first | rfl | assumption); conv => whnf) | (apply kF (by with_reducible first | rfl | assumption); conv => whnf) | (apply kT (by decide); conv => whnf) | (apply kF (by decide); conv => whnf) | (apply kB <;> intro _ <;> conv => whnf) | fail))
        rw [hR]
        (refine ⟨[], ?_⟩; conv => whnf)
        exact ⟨rfl, rfl⟩
      have hc2 := (Bool.not_eq_true _).mp hc2
      conv => whnf
      (repeat' (first | (apply kT (by with_reducible first | rfl | assumption); conv => whnf) | (apply kF (by with_reducible first | rfl | assumption); conv => whnf) | (apply kT (by decide); conv => whnf) | (apply kF (by decide); conv => whnf) | (apply kB <;> intro _ <;> conv => whnf) | fail))
      (refine ⟨k, ctD c, rfl, hq, rfl, ?_⟩; conv => whnf)
      (refine .inl ⟨_, cw, ?_⟩; conv => whnf)
      (apply kF (rfl); conv => whnf)
      (repeat' (first | (apply kT (by with_reducible first | rfl | assumption); conv => whnf) | (apply kF (by with_reducible first | rfl | assumption); conv => whnf) | (apply kT (by decide); conv => whnf) | (apply kF (by decide); conv => whnf) | (apply kB <;> intro _ <;> conv => whnf) | fail))
      (refine ⟨c.n.toNat, hn.symm, by rw [List.length_map]; have := hok.len; omega, ?_⟩; conv => whnf)
      (repeat' (first | (apply kT (by with_reducible first | rfl | assumption); conv => whnf) | (apply kF (by with_reducible first | rfl | assumption); conv => whnf) | (apply kT (by decide); conv => whnf) | (apply kF (by decide); conv => whnf) | (apply kB <;> intro _ <;> conv => whnf) | fail))
      (refine ⟨_, getba hc1'.1 (by have := hok.len; omega), ?_⟩; conv => whnf)
      (refine ⟨_, rfl, ?_⟩; conv => whnf)
      (repeat' (first | (apply kT (by with_reducible first | rfl | assumption); conv => whnf) | (apply kF (by with_reducible first | rfl | assumption); conv => whnf) | (apply kT (by decide); conv => whnf) | (apply kF (by decide); conv => whnf) | (apply kB <;> intro _ <;> conv => whnf) | fail))
      (refine .inl ⟨_, of_pure c, ?_⟩; conv => whnf)
      (refine ⟨c.n.toNat, hn.symm, by rw [List.length_map]; omega, ?_⟩; conv => whnf)
      (refine ⟨_, getpa hc1'.1 (by omega), ?_⟩; conv => whnf)
      (refine ⟨rfl, ?_⟩; conv => whnf)
      (refine .inr ⟨[], 4, _, _, parts_bor .., ?_⟩; conv => whnf)
      have cc := collect_bor hop c.ac hin.2 hs.1 hs.2
      have hl2 := parts_len (pcAt st'.1 c.n) c.ac c.at_ p.s
      have hstep : ∀ st1, stepC p.s st' c = some st1 → OkS st1 ∧ st1.1.length ≤ st'.1.length + 2 := fun st1 h => hok.step hs.1 h
      have hst : stepC p.s st' c = if partsL (pcAt st'.1 c.n) c.ac c.at_ p.s = [] then none else some (st'.1 ++ partsL (pcAt st'.1 c.n) c.ac c.at_ p.s, st'.2.set c.n.toNat true ++ List.replicate (partsL (pcAt st'.1 c.n) c.ac c.at_ p.s).length false) := by
        unfold stepC
        by_cases h : partsL (pcAt st'.1 c.n) c.ac c.at_ p.s = []
        · rw [if_pos (.inr (.inr h)), if_pos h]
        · rw [if_neg (by rw [hc1, hc2]; simp [h]), if_neg h]
      generalize partsL (pcAt st'.1 c.n) c.ac c.at_ p.s = l at cc hst hl2
      have hlm : ((l.map pcD).length : Int) = (l.length : Int) := by rw [List.length_map]
      (refine .inr ⟨[338, 339, 340, 341], 4, _, _, cc, ?_⟩; conv => whnf)
      by_cases hc3 : l = []
      · have f3 : (((l.map pcD).length : Int) == 0) = true := eqT (by rw [hlm, hc3]; rfl)
        rw [if_pos hc3] at hst
        have hR : R = none := by rw [← hrun, hst]
        (repeat' (first | (apply kT (by with_reducible first | rfl | assumption); conv => whnf) | (apply kF (by with_reducible first | rfl | assumption); conv => whnf) | (apply kT (by decide); conv => whnf) | (apply kF (by decide); conv => whnf) | (apply kB <;> intro _ <;> conv => whnf) | fail))
        rw [hR]
        (refine ⟨[], ?_⟩; conv => whnf)
        exact ⟨rfl, rfl⟩
      rw [if_neg hc3] at hst
      obtain ⟨ok1, hl1⟩ := hstep _ hst
      rw [hst] at hrun
      have f3 : (((l.map pcD).length : Int) == 0) = false := eqF (by rw [hlm]; have := List.length_pos_iff.2 hc3; omega)
      (repeat' (first | (apply kT (by with_reducible first | rfl | assumption); conv => whnf) | (apply kF (by with_reducible first | rfl | assumption); conv => whnf) | (apply kT (by decide); conv => whnf) | (apply kF (by decide); conv => whnf) | (apply kB <;> intro _ <;> conv => whnf) | fail))
      (refine ⟨c.n.toNat, hn.symm, by rw [List.length_map]; have := hok.len; omega, ?_⟩; conv => whnf)
      (refine ⟨_, getba hc1'.1 (by have := hok.len; omega), ?_⟩; conv => whnf)
      (refine ⟨rfl, Nat.le_refl _, bsE (st'.2.set c.n.toNat true), bsE_set .., ?_⟩; conv => whnf)
      have hb2 : (st'.2.set c.n.toNat true).length = st'.1.length := by rw [List.length_set, hok.len]
      refine ⟨[.ren (renL [(0, 0), (25, 130), (33, 178), (49, 49)] 0 50)], [2, 4, 5, 7, 28, 29, 30, 80, 81, 82], [0, 25, 33, 49], 65, fun j s => ∃ i : Nat, i + j = l.length ∧
        s = ⟨[(2, .ref 0 0), (4, .d (.v (.pointer none))), (5, .d (dI 0)), (7, .ref 49 0), (28, .d (ctsD cs)), (29, .d (dI (cs.map ctD).length)), (30, .d (dI k)), (80, .d (pcsD l)), (81, .d (dI (l.map pcD).length)), (82, .d (dI i))],
          [(0, .var false 38 ((plC p).map A.d)), (25, .arr 90 ((st'.1 ++ l.take i).map pcD)), (33, .arr 4 (bsE (st'.2.set c.n.toNat true ++ List.replicate i false))), (49, wkO p 25 33)], 65⟩, ?_, ?_⟩
      · conv => whnf
        refine ⟨l.length, 0, by omega, ?_⟩
        rw [List.take_zero, List.append_nil, List.replicate_zero, List.append_nil]
        rfl
      · rintro j _ ⟨i, hij, rfl⟩
        by_cases hil : i < l.length
        · have f4 : decide ((i : Int) < ((l.map pcD).length : Int)) = true := decide_eq_true (by rw [hlm]; omega)
          conv => whnf
          (repeat' (first | (apply kT (by with_reducible first | rfl | assumption); conv => whnf) | (apply kF (by with_reducible first | rfl | assumption); conv => whnf) | (apply kT (by decide); conv => whnf) | (apply kF (by decide); conv => whnf) | (apply kB <;> intro _ <;> conv => whnf) | fail))
          (refine ⟨i, pcD l[i], rfl, getpc l i hil, rfl, ?_⟩; conv => whnf)
          (refine .l ?_; conv => whnf)
          (refine ⟨by simp, ?_⟩; conv => whnf)
          (refine ⟨by simp only [List.length_map, List.length_append, List.length_take, List.length_singleton]; omega, ?_⟩; conv => whnf)
          (refine .l ?_; conv => whnf)
          (refine ⟨by simp, ?_⟩; conv => whnf)
          (refine ⟨by simp only [List.length_map, List.length_append, List.length_replicate, List.length_set, List.length_singleton]; have := hok.len; omega, ?_⟩; conv => whnf)
          refine ⟨j - 1, by omega, i + 1, by omega, ?_⟩
          have e1 : (st'.1 ++ l.take (i + 1)).map pcD = (st'.1 ++ l.take i).map pcD ++ [pcD l[i]] := by
            rw [List.map_append, List.map_append, List.take_add_one, List.getElem?_eq_getElem hil, List.map_append, List.append_assoc]; rfl
          have e2 : bsE (st'.2.set c.n.toNat true ++ List.replicate (i + 1) false) = bsE (st'.2.set c.n.toNat true ++ List.replicate i false) ++ [[dB false]] := by
            rw [List.replicate_succ', ← List.append_assoc, bsE_app]; rfl
          rw [e1, e2, w1 i (by omega)]
          rfl
        · have f4 : decide ((i : Int) < ((l.map pcD).length : Int)) = false := decide_eq_false (by rw [hlm]; omega)
          have hil' : i = l.length := by omega
          conv => whnf
          (repeat' (first | (apply kT (by with_reducible first | rfl | assumption); conv => whnf) | (apply kF (by with_reducible first | rfl | assumption); conv => whnf) | (apply kT (by decide); conv => whnf) | (apply kF (by decide); conv => whnf) | (apply kB <;> intro _ <;> conv => whnf) | fail))
          refine ⟨m - 1, by omega, k + 1, _, by omega, hrun, ok1, by simp only [List.length_append] at hl1 ⊢; omega, ?_⟩
          rw [hil', List.take_length, w1 k (by omega)]
          rfl
    · have f2 : decide ((k : Int) < ((cs.map ctD).length : Int)) = false := decide_eq_false (by rw [hm]; omega)
      rw [List.drop_of_length_le (by omega)] at hrun
      subst hrun
      conv => whnf
      (repeat' (first | (apply kT (by with_reducible first | rfl | assumption); conv => whnf) | (apply kF (by with_reducible first | rfl | assumption); conv => whnf) | (apply kT (by decide); conv => whnf) | (apply kF (by decide); conv => whnf) | (apply kB <;> intro _ <;> conv => whnf) | fail))
      (refine ⟨[25, 33, 49], ?_⟩; conv => whnf)
      exact ⟨rfl, rfl⟩
theorem do_ok {p : Pl} (hp : checkI p = 0) {cs : List Ct} (hl : cs.length ≤ 40) (hi : ∀ c ∈ cs, InI c.n ∧ InI c.at_) {st : St2} (hr : runC p.s cs (st0 p) = some st) :
    Bor tb Try.prog 66 [.d (plD p), .d (ctsD cs)] [] 3 (.tup [.ref 0 0, .d (dI 0)]) [(0, wkO p 1 2), (1, .arr 90 (st.1.map pcD)), (2, .arr 4 (bsE st.2))] :=
  Bor.mv (do_raw hp hl hi hr) [49, 25, 33] rfl rfl rfl
theorem do_none {p : Pl} (hp : checkI p = 0) {cs : List Ct} (hl : cs.length ≤ 40) (hi : ∀ c ∈ cs, InI c.n ∧ InI c.at_) (hr : runC p.s cs (st0 p) = none) :
    Bor tb Try.prog 66 [.d (plD p), .d (ctsD cs)] [] 0 (.d (.tup [.v (.pointer none), dI 11])) [] := Bor.mv (do_raw hp hl hi hr) [] rfl rfl rfl
theorem do_bad {p : Pl} (hp : checkI p ≠ 0) (hl : p.ws.length ≤ 100000) (cs : List Ct) :
    Pure Try.prog 66 [plD p, ctsD cs] (.tup [.v (.pointer none), dI (checkI p)]) := by
  have hc := check_pure p hl
  have f1 : (checkI p != 0) = true := by simpa using hp
  refine pure_of pg Try.func66 (by kernel_rfl) ?_
  conv => whnf
  (refine .inl ⟨_, hc, ?_⟩; conv => whnf)
  (repeat' (first | (apply kT (by with_reducible first | rfl | assumption); conv => whnf) | (apply kF (by with_reducible first | rfl | assumption); conv => whnf) | (apply kT (by decide); conv => whnf) | (apply kF (by decide); conv => whnf) | (apply kB <;> intro _ <;> conv => whnf) | fail))
  rfl
theorem do_long {p : Pl} (hp : checkI p = 0) {cs : List Ct} (hl : 40 < cs.length) :
    Pure Try.prog 66 [plD p, ctsD cs] (.tup [.v (.pointer none), dI 3]) := by
  obtain ⟨hw, _⟩ := check_zero hp
  have hc := check_pure p (by omega)
  rw [hp] at hc
  have hm : ((List.map ctD cs).length : Int) = (cs.length : Int) := by rw [List.length_map]
  have f1 : decide (((List.map ctD cs).length : Int) > 40) = true := decide_eq_true (by rw [hm]; omega)
  refine pure_of pg Try.func66 (by kernel_rfl) ?_
  conv => whnf
  (refine .inl ⟨_, hc, ?_⟩; conv => whnf)
  (apply kF (rfl); conv => whnf)
  (repeat' (first | (apply kT (by with_reducible first | rfl | assumption); conv => whnf) | (apply kF (by with_reducible first | rfl | assumption); conv => whnf) | (apply kT (by decide); conv => whnf) | (apply kF (by decide); conv => whnf) | (apply kB <;> intro _ <;> conv => whnf) | fail))
  rfl
end Go.Ev.Ytojlbcodfebmgaa
