/-
  Facts on the types and the functions of the dump, each by the kernel's computation.
-/
import Derived.Test.YtmnmcbhaabnnfaaProg
import Derived.Test.YtmnmcbhaabnnfaaRn
import Derived.KernelRfl
namespace Go.Proofs.Ytmnmcbhaabnnfaa.R
open Go Go.R Go.Proofs

theorem ty1 : (tAgg Try.prog 1 = some false) ∧
    (tSize Try.prog 1 = some 1) ∧
    (tBytes Try.prog 1 = some 8) ∧
    (tZero Try.prog 1 = some [.fnil]) ∧
    (tSlice Try.prog 1 = none) ∧
    (tArr Try.prog 1 = none) ∧
    (isFn Try.prog 1 = true) :=
  ⟨by kernel_rfl, by kernel_rfl, by kernel_rfl, by kernel_rfl, by kernel_rfl, by kernel_rfl, by kernel_rfl⟩
theorem ty2 : (tAgg Try.prog 2 = some false) ∧
    (tSize Try.prog 2 = some 1) ∧
    (tBytes Try.prog 2 = some 8) ∧
    (tZero Try.prog 2 = some [.d (.int .i64 0)]) ∧
    (tSlice Try.prog 2 = none) ∧
    (tArr Try.prog 2 = none) ∧
    (Try.prog.underlying 2 = some (.int .i64)) :=
  ⟨by kernel_rfl, by kernel_rfl, by kernel_rfl, by kernel_rfl, by kernel_rfl, by kernel_rfl, by kernel_rfl⟩
theorem ty3 : (tAgg Try.prog 3 = some false) ∧
    (tSize Try.prog 3 = some 1) ∧
    (tBytes Try.prog 3 = some 8) ∧
    (tZero Try.prog 3 = some [.d (.int .i64 0)]) ∧
    (tSlice Try.prog 3 = none) ∧
    (tArr Try.prog 3 = none) ∧
    (Try.prog.underlying 3 = some (.int .i64)) :=
  ⟨by kernel_rfl, by kernel_rfl, by kernel_rfl, by kernel_rfl, by kernel_rfl, by kernel_rfl, by kernel_rfl⟩
theorem ty4 : (tAgg Try.prog 4 = some false) ∧
    (tSize Try.prog 4 = some 1) ∧
    (tBytes Try.prog 4 = some 1) ∧
    (tZero Try.prog 4 = some [.d (.bool false)]) ∧
    (tSlice Try.prog 4 = none) ∧
    (tArr Try.prog 4 = none) ∧
    (isBool Try.prog 4 = true) ∧
    (Try.prog.underlying 4 = some (.bool)) :=
  ⟨by kernel_rfl, by kernel_rfl, by kernel_rfl, by kernel_rfl, by kernel_rfl, by kernel_rfl, by kernel_rfl, by kernel_rfl⟩
theorem ty5 : (tAgg Try.prog 5 = some false) ∧
    (tSize Try.prog 5 = some 1) ∧
    (tBytes Try.prog 5 = some 1) ∧
    (tZero Try.prog 5 = some [.d (.int .u8 0)]) ∧
    (tSlice Try.prog 5 = none) ∧
    (tArr Try.prog 5 = none) ∧
    (Try.prog.underlying 5 = some (.int .u8)) :=
  ⟨by kernel_rfl, by kernel_rfl, by kernel_rfl, by kernel_rfl, by kernel_rfl, by kernel_rfl, by kernel_rfl⟩
theorem ty6 : (tAgg Try.prog 6 = some false) ∧
    (tSize Try.prog 6 = some 1) ∧
    (tBytes Try.prog 6 = some 1) ∧
    (tZero Try.prog 6 = some [.d (.int .u8 0)]) ∧
    (tSlice Try.prog 6 = none) ∧
    (tArr Try.prog 6 = none) ∧
    (Try.prog.underlying 6 = some (.int .u8)) :=
  ⟨by kernel_rfl, by kernel_rfl, by kernel_rfl, by kernel_rfl, by kernel_rfl, by kernel_rfl, by kernel_rfl⟩
theorem ty7 : (tAgg Try.prog 7 = some true) ∧
    (tSize Try.prog 7 = some 4) ∧
    (tBytes Try.prog 7 = some 24) ∧
    (tZero Try.prog 7 = some [.d (.int .i64 0), .d (.int .i64 0), .d (.bool false), .d (.int .u8 0)]) ∧
    (tSlice Try.prog 7 = none) ∧
    (tArr Try.prog 7 = none) ∧
    (tParts Try.prog 7 = true) ∧
    (tField Try.prog 7 0 = some (0, 2)) ∧
    (tPlace Try.prog 7 0 = some (0, 1)) ∧
    (tField Try.prog 7 1 = some (1, 3)) ∧
    (tPlace Try.prog 7 1 = some (1, 1)) ∧
    (tField Try.prog 7 2 = some (2, 4)) ∧
    (tPlace Try.prog 7 2 = some (2, 1)) ∧
    (tField Try.prog 7 3 = some (3, 6)) ∧
    (tPlace Try.prog 7 3 = some (3, 1)) :=
  ⟨by kernel_rfl, by kernel_rfl, by kernel_rfl, by kernel_rfl, by kernel_rfl, by kernel_rfl, by kernel_rfl, by kernel_rfl, by kernel_rfl, by kernel_rfl, by kernel_rfl, by kernel_rfl, by kernel_rfl, by kernel_rfl, by kernel_rfl⟩
theorem ty8 : (tAgg Try.prog 8 = some true) ∧
    (tSize Try.prog 8 = some 4) ∧
    (tBytes Try.prog 8 = some 24) ∧
    (tZero Try.prog 8 = some [.d (.int .i64 0), .d (.int .i64 0), .d (.bool false), .d (.int .u8 0)]) ∧
    (tSlice Try.prog 8 = none) ∧
    (tArr Try.prog 8 = none) ∧
    (tParts Try.prog 8 = true) ∧
    (tField Try.prog 8 0 = some (0, 2)) ∧
    (tPlace Try.prog 8 0 = some (0, 1)) ∧
    (tField Try.prog 8 1 = some (1, 3)) ∧
    (tPlace Try.prog 8 1 = some (1, 1)) ∧
    (tField Try.prog 8 2 = some (2, 4)) ∧
    (tPlace Try.prog 8 2 = some (2, 1)) ∧
    (tField Try.prog 8 3 = some (3, 6)) ∧
    (tPlace Try.prog 8 3 = some (3, 1)) :=
  ⟨by kernel_rfl, by kernel_rfl, by kernel_rfl, by kernel_rfl, by kernel_rfl, by kernel_rfl, by kernel_rfl, by kernel_rfl, by kernel_rfl, by kernel_rfl, by kernel_rfl, by kernel_rfl, by kernel_rfl, by kernel_rfl, by kernel_rfl⟩
theorem ty9 : (tAgg Try.prog 9 = some false) ∧
    (tSize Try.prog 9 = some 1) ∧
    (tBytes Try.prog 9 = some 16) ∧
    (tZero Try.prog 9 = some [.d (.str [])]) ∧
    (tSlice Try.prog 9 = none) ∧
    (tArr Try.prog 9 = none) ∧
    (isStr Try.prog 9 = true) ∧
    (Try.prog.underlying 9 = some (.string)) :=
  ⟨by kernel_rfl, by kernel_rfl, by kernel_rfl, by kernel_rfl, by kernel_rfl, by kernel_rfl, by kernel_rfl, by kernel_rfl⟩
theorem ty10 : (tAgg Try.prog 10 = some false) ∧
    (tSize Try.prog 10 = some 1) ∧
    (tBytes Try.prog 10 = some 16) ∧
    (tZero Try.prog 10 = some [.d (.str [])]) ∧
    (tSlice Try.prog 10 = none) ∧
    (tArr Try.prog 10 = none) ∧
    (isStr Try.prog 10 = true) ∧
    (Try.prog.underlying 10 = some (.string)) :=
  ⟨by kernel_rfl, by kernel_rfl, by kernel_rfl, by kernel_rfl, by kernel_rfl, by kernel_rfl, by kernel_rfl, by kernel_rfl⟩
theorem ty11 : (tAgg Try.prog 11 = some false) ∧
    (tSize Try.prog 11 = some 1) ∧
    (tBytes Try.prog 11 = some 16) ∧
    (tZero Try.prog 11 = some [.d (.str [])]) ∧
    (tSlice Try.prog 11 = none) ∧
    (tArr Try.prog 11 = none) ∧
    (isStr Try.prog 11 = true) ∧
    (Try.prog.underlying 11 = some (.string)) :=
  ⟨by kernel_rfl, by kernel_rfl, by kernel_rfl, by kernel_rfl, by kernel_rfl, by kernel_rfl, by kernel_rfl, by kernel_rfl⟩
theorem ty12 : (tAgg Try.prog 12 = some false) ∧
    (tSize Try.prog 12 = some 1) ∧
    (tBytes Try.prog 12 = some 8) ∧
    (tZero Try.prog 12 = some [.d (.int .u64 0)]) ∧
    (tSlice Try.prog 12 = none) ∧
    (tArr Try.prog 12 = none) ∧
    (Try.prog.underlying 12 = some (.int .u64)) :=
  ⟨by kernel_rfl, by kernel_rfl, by kernel_rfl, by kernel_rfl, by kernel_rfl, by kernel_rfl, by kernel_rfl⟩
theorem ty13 : (tAgg Try.prog 13 = some true) ∧
    (tSize Try.prog 13 = some 2) ∧
    (tBytes Try.prog 13 = some 24) ∧
    (tZero Try.prog 13 = some [.d (.str []), .d (.int .u64 0)]) ∧
    (tSlice Try.prog 13 = none) ∧
    (tArr Try.prog 13 = none) ∧
    (tParts Try.prog 13 = true) ∧
    (tField Try.prog 13 0 = some (0, 9)) ∧
    (tPlace Try.prog 13 0 = some (0, 1)) ∧
    (tField Try.prog 13 1 = some (1, 12)) ∧
    (tPlace Try.prog 13 1 = some (1, 1)) :=
  ⟨by kernel_rfl, by kernel_rfl, by kernel_rfl, by kernel_rfl, by kernel_rfl, by kernel_rfl, by kernel_rfl, by kernel_rfl, by kernel_rfl, by kernel_rfl, by kernel_rfl⟩
theorem ty14 : (tAgg Try.prog 14 = some true) ∧
    (tSize Try.prog 14 = some 2) ∧
    (tBytes Try.prog 14 = some 24) ∧
    (tZero Try.prog 14 = some [.d (.str []), .d (.int .u64 0)]) ∧
    (tSlice Try.prog 14 = none) ∧
    (tArr Try.prog 14 = none) ∧
    (tParts Try.prog 14 = true) ∧
    (tField Try.prog 14 0 = some (0, 9)) ∧
    (tPlace Try.prog 14 0 = some (0, 1)) ∧
    (tField Try.prog 14 1 = some (1, 12)) ∧
    (tPlace Try.prog 14 1 = some (1, 1)) :=
  ⟨by kernel_rfl, by kernel_rfl, by kernel_rfl, by kernel_rfl, by kernel_rfl, by kernel_rfl, by kernel_rfl, by kernel_rfl, by kernel_rfl, by kernel_rfl, by kernel_rfl⟩
theorem ty15 : (tAgg Try.prog 15 = some false) ∧
    (tSize Try.prog 15 = some 1) ∧
    (tBytes Try.prog 15 = some 8) ∧
    (tZero Try.prog 15 = some [.pnil]) ∧
    (tSlice Try.prog 15 = none) ∧
    (tArr Try.prog 15 = none) ∧
    (isPtr Try.prog 15 = true) ∧
    (tPtr Try.prog 15 = some 72) ∧
    (Try.prog.underlying 15 = some (.pointer 72)) :=
  ⟨by kernel_rfl, by kernel_rfl, by kernel_rfl, by kernel_rfl, by kernel_rfl, by kernel_rfl, by kernel_rfl, by kernel_rfl, by kernel_rfl⟩
theorem ty16 : (tAgg Try.prog 16 = some false) ∧
    (tSize Try.prog 16 = some 1) ∧
    (tBytes Try.prog 16 = some 8) ∧
    (tZero Try.prog 16 = some [.pnil]) ∧
    (tSlice Try.prog 16 = none) ∧
    (tArr Try.prog 16 = none) ∧
    (isPtr Try.prog 16 = true) ∧
    (tPtr Try.prog 16 = some 75) ∧
    (Try.prog.underlying 16 = some (.pointer 75)) :=
  ⟨by kernel_rfl, by kernel_rfl, by kernel_rfl, by kernel_rfl, by kernel_rfl, by kernel_rfl, by kernel_rfl, by kernel_rfl, by kernel_rfl⟩
theorem ty17 : (tAgg Try.prog 17 = some false) ∧
    (tSize Try.prog 17 = some 1) ∧
    (tBytes Try.prog 17 = some 8) ∧
    (tZero Try.prog 17 = some [.pnil]) ∧
    (tSlice Try.prog 17 = none) ∧
    (tArr Try.prog 17 = none) ∧
    (isPtr Try.prog 17 = true) ∧
    (tPtr Try.prog 17 = some 84) ∧
    (Try.prog.underlying 17 = some (.pointer 84)) :=
  ⟨by kernel_rfl, by kernel_rfl, by kernel_rfl, by kernel_rfl, by kernel_rfl, by kernel_rfl, by kernel_rfl, by kernel_rfl, by kernel_rfl⟩
theorem ty18 : (tAgg Try.prog 18 = some true) ∧
    (tSize Try.prog 18 = some 1) ∧
    (tBytes Try.prog 18 = some 8) ∧
    (tZero Try.prog 18 = some [.pnil]) ∧
    (tSlice Try.prog 18 = none) ∧
    (tArr Try.prog 18 = none) ∧
    (tParts Try.prog 18 = true) ∧
    (tField Try.prog 18 0 = some (0, 17)) ∧
    (tPlace Try.prog 18 0 = some (0, 1)) :=
  ⟨by kernel_rfl, by kernel_rfl, by kernel_rfl, by kernel_rfl, by kernel_rfl, by kernel_rfl, by kernel_rfl, by kernel_rfl, by kernel_rfl⟩
theorem ty19 : (tAgg Try.prog 19 = some true) ∧
    (tSize Try.prog 19 = some 1) ∧
    (tBytes Try.prog 19 = some 8) ∧
    (tZero Try.prog 19 = some [.pnil]) ∧
    (tSlice Try.prog 19 = none) ∧
    (tArr Try.prog 19 = none) ∧
    (tParts Try.prog 19 = true) ∧
    (tField Try.prog 19 0 = some (0, 17)) ∧
    (tPlace Try.prog 19 0 = some (0, 1)) :=
  ⟨by kernel_rfl, by kernel_rfl, by kernel_rfl, by kernel_rfl, by kernel_rfl, by kernel_rfl, by kernel_rfl, by kernel_rfl, by kernel_rfl⟩
theorem ty21 : (tAgg Try.prog 21 = some false) ∧
    (tSize Try.prog 21 = some 1) ∧
    (tBytes Try.prog 21 = some 4) ∧
    (tZero Try.prog 21 = some [.d (.int .i32 0)]) ∧
    (tSlice Try.prog 21 = none) ∧
    (tArr Try.prog 21 = none) ∧
    (Try.prog.underlying 21 = some (.int .i32)) :=
  ⟨by kernel_rfl, by kernel_rfl, by kernel_rfl, by kernel_rfl, by kernel_rfl, by kernel_rfl, by kernel_rfl⟩
theorem ty22 : (tAgg Try.prog 22 = some false) ∧
    (tSize Try.prog 22 = some 1) ∧
    (tBytes Try.prog 22 = some 24) ∧
    (tZero Try.prog 22 = some [.d .snil]) ∧
    (tSlice Try.prog 22 = some 41) ∧
    (tArr Try.prog 22 = none) ∧
    (isSl Try.prog 22 = true) ∧
    (Try.prog.underlying 22 = some (.slice 41)) :=
  ⟨by kernel_rfl, by kernel_rfl, by kernel_rfl, by kernel_rfl, by kernel_rfl, by kernel_rfl, by kernel_rfl, by kernel_rfl⟩
theorem ty23 : (tAgg Try.prog 23 = some false) ∧
    (tSize Try.prog 23 = some 1) ∧
    (tBytes Try.prog 23 = some 24) ∧
    (tZero Try.prog 23 = some [.d .snil]) ∧
    (tSlice Try.prog 23 = some 5) ∧
    (tArr Try.prog 23 = none) ∧
    (isSl Try.prog 23 = true) ∧
    (Try.prog.underlying 23 = some (.slice 5)) :=
  ⟨by kernel_rfl, by kernel_rfl, by kernel_rfl, by kernel_rfl, by kernel_rfl, by kernel_rfl, by kernel_rfl, by kernel_rfl⟩
theorem ty24 : (tAgg Try.prog 24 = some false) ∧
    (tSize Try.prog 24 = some 1) ∧
    (tBytes Try.prog 24 = some 8) ∧
    (tZero Try.prog 24 = some [.fnil]) ∧
    (tSlice Try.prog 24 = none) ∧
    (tArr Try.prog 24 = none) ∧
    (isFn Try.prog 24 = true) :=
  ⟨by kernel_rfl, by kernel_rfl, by kernel_rfl, by kernel_rfl, by kernel_rfl, by kernel_rfl, by kernel_rfl⟩
theorem ty25 : (tAgg Try.prog 25 = some false) ∧
    (tSize Try.prog 25 = some 1) ∧
    (tBytes Try.prog 25 = some 8) ∧
    (tZero Try.prog 25 = some [.fnil]) ∧
    (tSlice Try.prog 25 = none) ∧
    (tArr Try.prog 25 = none) ∧
    (isFn Try.prog 25 = true) :=
  ⟨by kernel_rfl, by kernel_rfl, by kernel_rfl, by kernel_rfl, by kernel_rfl, by kernel_rfl, by kernel_rfl⟩
theorem ty26 : (tAgg Try.prog 26 = some false) ∧
    (tSize Try.prog 26 = some 1) ∧
    (tBytes Try.prog 26 = some 8) ∧
    (tZero Try.prog 26 = some [.d (.int .i64 0)]) ∧
    (tSlice Try.prog 26 = none) ∧
    (tArr Try.prog 26 = none) ∧
    (Try.prog.underlying 26 = some (.int .i64)) :=
  ⟨by kernel_rfl, by kernel_rfl, by kernel_rfl, by kernel_rfl, by kernel_rfl, by kernel_rfl, by kernel_rfl⟩
theorem ty28 : (tAgg Try.prog 28 = some false) ∧
    (tSize Try.prog 28 = some 1) ∧
    (tBytes Try.prog 28 = some 8) ∧
    (tZero Try.prog 28 = some [.fnil]) ∧
    (tSlice Try.prog 28 = none) ∧
    (tArr Try.prog 28 = none) ∧
    (isFn Try.prog 28 = true) :=
  ⟨by kernel_rfl, by kernel_rfl, by kernel_rfl, by kernel_rfl, by kernel_rfl, by kernel_rfl, by kernel_rfl⟩
theorem ty29 : (tAgg Try.prog 29 = some false) ∧
    (tSize Try.prog 29 = some 1) ∧
    (tBytes Try.prog 29 = some 24) ∧
    (tZero Try.prog 29 = some [.d .snil]) ∧
    (tSlice Try.prog 29 = some 44) ∧
    (tArr Try.prog 29 = none) ∧
    (isSl Try.prog 29 = true) ∧
    (Try.prog.underlying 29 = some (.slice 44)) :=
  ⟨by kernel_rfl, by kernel_rfl, by kernel_rfl, by kernel_rfl, by kernel_rfl, by kernel_rfl, by kernel_rfl, by kernel_rfl⟩
theorem ty30 : (tAgg Try.prog 30 = some false) ∧
    (tSize Try.prog 30 = some 1) ∧
    (tBytes Try.prog 30 = some 8) ∧
    (tZero Try.prog 30 = some [.fnil]) ∧
    (tSlice Try.prog 30 = none) ∧
    (tArr Try.prog 30 = none) ∧
    (isFn Try.prog 30 = true) :=
  ⟨by kernel_rfl, by kernel_rfl, by kernel_rfl, by kernel_rfl, by kernel_rfl, by kernel_rfl, by kernel_rfl⟩
theorem ty32 : (tAgg Try.prog 32 = some false) ∧
    (tSize Try.prog 32 = some 1) ∧
    (tBytes Try.prog 32 = some 8) ∧
    (tZero Try.prog 32 = some [.fnil]) ∧
    (tSlice Try.prog 32 = none) ∧
    (tArr Try.prog 32 = none) ∧
    (isFn Try.prog 32 = true) :=
  ⟨by kernel_rfl, by kernel_rfl, by kernel_rfl, by kernel_rfl, by kernel_rfl, by kernel_rfl, by kernel_rfl⟩
theorem ty33 : (tAgg Try.prog 33 = some false) ∧
    (tSize Try.prog 33 = some 1) ∧
    (tBytes Try.prog 33 = some 8) ∧
    (tZero Try.prog 33 = some [.fnil]) ∧
    (tSlice Try.prog 33 = none) ∧
    (tArr Try.prog 33 = none) ∧
    (isFn Try.prog 33 = true) :=
  ⟨by kernel_rfl, by kernel_rfl, by kernel_rfl, by kernel_rfl, by kernel_rfl, by kernel_rfl, by kernel_rfl⟩
theorem ty34 : (tAgg Try.prog 34 = some false) ∧
    (tSize Try.prog 34 = some 1) ∧
    (tBytes Try.prog 34 = some 8) ∧
    (tZero Try.prog 34 = some [.fnil]) ∧
    (tSlice Try.prog 34 = none) ∧
    (tArr Try.prog 34 = none) ∧
    (isFn Try.prog 34 = true) :=
  ⟨by kernel_rfl, by kernel_rfl, by kernel_rfl, by kernel_rfl, by kernel_rfl, by kernel_rfl, by kernel_rfl⟩
theorem ty35 : (tAgg Try.prog 35 = some false) ∧
    (tSize Try.prog 35 = some 1) ∧
    (tBytes Try.prog 35 = some 8) ∧
    (tZero Try.prog 35 = some [.fnil]) ∧
    (tSlice Try.prog 35 = none) ∧
    (tArr Try.prog 35 = none) ∧
    (isFn Try.prog 35 = true) :=
  ⟨by kernel_rfl, by kernel_rfl, by kernel_rfl, by kernel_rfl, by kernel_rfl, by kernel_rfl, by kernel_rfl⟩
theorem ty36 : (tAgg Try.prog 36 = some false) ∧
    (tSize Try.prog 36 = some 1) ∧
    (tBytes Try.prog 36 = some 2) ∧
    (tZero Try.prog 36 = some [.d (.int .u16 0)]) ∧
    (tSlice Try.prog 36 = none) ∧
    (tArr Try.prog 36 = none) ∧
    (Try.prog.underlying 36 = some (.int .u16)) :=
  ⟨by kernel_rfl, by kernel_rfl, by kernel_rfl, by kernel_rfl, by kernel_rfl, by kernel_rfl, by kernel_rfl⟩
theorem ty37 : (tAgg Try.prog 37 = some true) ∧
    (tSize Try.prog 37 = some 4) ∧
    (tBytes Try.prog 37 = some 4) ∧
    (tZero Try.prog 37 = some [.d (.int .u8 0), .d (.int .u8 0), .d (.int .u8 0), .d (.int .u8 0)]) ∧
    (tSlice Try.prog 37 = none) ∧
    (tArr Try.prog 37 = some (4, 5)) ∧
    (tParts Try.prog 37 = true) ∧
    (tPlace Try.prog 37 0 = some (0, 1)) ∧
    (tPlace Try.prog 37 1 = some (1, 1)) ∧
    (tPlace Try.prog 37 2 = some (2, 1)) ∧
    (tPlace Try.prog 37 3 = some (3, 1)) ∧
    (Try.prog.underlying 37 = some (.array 4 5)) :=
  ⟨by kernel_rfl, by kernel_rfl, by kernel_rfl, by kernel_rfl, by kernel_rfl, by kernel_rfl, by kernel_rfl, by kernel_rfl, by kernel_rfl, by kernel_rfl, by kernel_rfl, by kernel_rfl⟩
theorem ty38 : (tAgg Try.prog 38 = some true) ∧
    (tSize Try.prog 38 = some 6) ∧
    (tBytes Try.prog 38 = some 16) ∧
    (tZero Try.prog 38 = some [.d (.int .i64 0), .d (.int .u16 0), .d (.int .u8 0), .d (.int .u8 0), .d (.int .u8 0), .d (.int .u8 0)]) ∧
    (tSlice Try.prog 38 = none) ∧
    (tArr Try.prog 38 = none) ∧
    (tParts Try.prog 38 = true) ∧
    (tField Try.prog 38 0 = some (0, 3)) ∧
    (tPlace Try.prog 38 0 = some (0, 1)) ∧
    (tField Try.prog 38 1 = some (1, 36)) ∧
    (tPlace Try.prog 38 1 = some (1, 1)) ∧
    (tField Try.prog 38 2 = some (2, 37)) ∧
    (tPlace Try.prog 38 2 = some (2, 4)) :=
  ⟨by kernel_rfl, by kernel_rfl, by kernel_rfl, by kernel_rfl, by kernel_rfl, by kernel_rfl, by kernel_rfl, by kernel_rfl, by kernel_rfl, by kernel_rfl, by kernel_rfl, by kernel_rfl, by kernel_rfl⟩
theorem ty39 : (tAgg Try.prog 39 = some true) ∧
    (tSize Try.prog 39 = some 6) ∧
    (tBytes Try.prog 39 = some 16) ∧
    (tZero Try.prog 39 = some [.d (.int .i64 0), .d (.int .u16 0), .d (.int .u8 0), .d (.int .u8 0), .d (.int .u8 0), .d (.int .u8 0)]) ∧
    (tSlice Try.prog 39 = none) ∧
    (tArr Try.prog 39 = none) ∧
    (tParts Try.prog 39 = true) ∧
    (tField Try.prog 39 0 = some (0, 3)) ∧
    (tPlace Try.prog 39 0 = some (0, 1)) ∧
    (tField Try.prog 39 1 = some (1, 36)) ∧
    (tPlace Try.prog 39 1 = some (1, 1)) ∧
    (tField Try.prog 39 2 = some (2, 37)) ∧
    (tPlace Try.prog 39 2 = some (2, 4)) :=
  ⟨by kernel_rfl, by kernel_rfl, by kernel_rfl, by kernel_rfl, by kernel_rfl, by kernel_rfl, by kernel_rfl, by kernel_rfl, by kernel_rfl, by kernel_rfl, by kernel_rfl, by kernel_rfl, by kernel_rfl⟩
theorem ty40 : (tAgg Try.prog 40 = some true) ∧
    (tSize Try.prog 40 = some 11) ∧
    (tBytes Try.prog 40 = some 72) ∧
    (tZero Try.prog 40 = some [.d (.int .i64 0), .d (.int .i64 0), .d (.int .i64 0), .d (.int .u8 0), .d (.int .i64 0), .d (.int .u16 0), .d (.int .u8 0), .d (.int .u8 0), .d (.int .u8 0), .d (.int .u8 0), .d .snil]) ∧
    (tSlice Try.prog 40 = none) ∧
    (tArr Try.prog 40 = none) ∧
    (tParts Try.prog 40 = true) ∧
    (tField Try.prog 40 0 = some (0, 3)) ∧
    (tPlace Try.prog 40 0 = some (0, 1)) ∧
    (tField Try.prog 40 1 = some (1, 3)) ∧
    (tPlace Try.prog 40 1 = some (1, 1)) ∧
    (tField Try.prog 40 2 = some (2, 3)) ∧
    (tPlace Try.prog 40 2 = some (2, 1)) ∧
    (tField Try.prog 40 3 = some (3, 5)) ∧
    (tPlace Try.prog 40 3 = some (3, 1)) ∧
    (tField Try.prog 40 4 = some (4, 39)) ∧
    (tPlace Try.prog 40 4 = some (4, 6)) ∧
    (tField Try.prog 40 5 = some (10, 23)) ∧
    (tPlace Try.prog 40 5 = some (10, 1)) :=
  ⟨by kernel_rfl, by kernel_rfl, by kernel_rfl, by kernel_rfl, by kernel_rfl, by kernel_rfl, by kernel_rfl, by kernel_rfl, by kernel_rfl, by kernel_rfl, by kernel_rfl, by kernel_rfl, by kernel_rfl, by kernel_rfl, by kernel_rfl, by kernel_rfl, by kernel_rfl, by kernel_rfl, by kernel_rfl⟩
theorem ty41 : (tAgg Try.prog 41 = some true) ∧
    (tSize Try.prog 41 = some 11) ∧
    (tBytes Try.prog 41 = some 72) ∧
    (tZero Try.prog 41 = some [.d (.int .i64 0), .d (.int .i64 0), .d (.int .i64 0), .d (.int .u8 0), .d (.int .i64 0), .d (.int .u16 0), .d (.int .u8 0), .d (.int .u8 0), .d (.int .u8 0), .d (.int .u8 0), .d .snil]) ∧
    (tSlice Try.prog 41 = none) ∧
    (tArr Try.prog 41 = none) ∧
    (tParts Try.prog 41 = true) ∧
    (tField Try.prog 41 0 = some (0, 3)) ∧
    (tPlace Try.prog 41 0 = some (0, 1)) ∧
    (tField Try.prog 41 1 = some (1, 3)) ∧
    (tPlace Try.prog 41 1 = some (1, 1)) ∧
    (tField Try.prog 41 2 = some (2, 3)) ∧
    (tPlace Try.prog 41 2 = some (2, 1)) ∧
    (tField Try.prog 41 3 = some (3, 5)) ∧
    (tPlace Try.prog 41 3 = some (3, 1)) ∧
    (tField Try.prog 41 4 = some (4, 39)) ∧
    (tPlace Try.prog 41 4 = some (4, 6)) ∧
    (tField Try.prog 41 5 = some (10, 23)) ∧
    (tPlace Try.prog 41 5 = some (10, 1)) :=
  ⟨by kernel_rfl, by kernel_rfl, by kernel_rfl, by kernel_rfl, by kernel_rfl, by kernel_rfl, by kernel_rfl, by kernel_rfl, by kernel_rfl, by kernel_rfl, by kernel_rfl, by kernel_rfl, by kernel_rfl, by kernel_rfl, by kernel_rfl, by kernel_rfl, by kernel_rfl, by kernel_rfl, by kernel_rfl⟩
theorem ty42 : (tAgg Try.prog 42 = some true) ∧
    (tSize Try.prog 42 = some 6) ∧
    (tBytes Try.prog 42 = some 16) ∧
    (tZero Try.prog 42 = some [.d (.int .i64 0), .d (.int .u16 0), .d (.int .u8 0), .d (.int .u8 0), .d (.int .u8 0), .d (.int .u8 0)]) ∧
    (tSlice Try.prog 42 = none) ∧
    (tArr Try.prog 42 = none) ∧
    (tParts Try.prog 42 = true) ∧
    (tField Try.prog 42 0 = some (0, 3)) ∧
    (tPlace Try.prog 42 0 = some (0, 1)) ∧
    (tField Try.prog 42 1 = some (1, 36)) ∧
    (tPlace Try.prog 42 1 = some (1, 1)) ∧
    (tField Try.prog 42 2 = some (2, 37)) ∧
    (tPlace Try.prog 42 2 = some (2, 4)) :=
  ⟨by kernel_rfl, by kernel_rfl, by kernel_rfl, by kernel_rfl, by kernel_rfl, by kernel_rfl, by kernel_rfl, by kernel_rfl, by kernel_rfl, by kernel_rfl, by kernel_rfl, by kernel_rfl, by kernel_rfl⟩
theorem ty43 : (tAgg Try.prog 43 = some true) ∧
    (tSize Try.prog 43 = some 11) ∧
    (tBytes Try.prog 43 = some 72) ∧
    (tZero Try.prog 43 = some [.d (.int .i64 0), .d (.int .i64 0), .d (.int .i64 0), .d (.int .u8 0), .d (.int .i64 0), .d (.int .u16 0), .d (.int .u8 0), .d (.int .u8 0), .d (.int .u8 0), .d (.int .u8 0), .d .snil]) ∧
    (tSlice Try.prog 43 = none) ∧
    (tArr Try.prog 43 = none) ∧
    (tParts Try.prog 43 = true) ∧
    (tField Try.prog 43 0 = some (0, 3)) ∧
    (tPlace Try.prog 43 0 = some (0, 1)) ∧
    (tField Try.prog 43 1 = some (1, 3)) ∧
    (tPlace Try.prog 43 1 = some (1, 1)) ∧
    (tField Try.prog 43 2 = some (2, 3)) ∧
    (tPlace Try.prog 43 2 = some (2, 1)) ∧
    (tField Try.prog 43 3 = some (3, 5)) ∧
    (tPlace Try.prog 43 3 = some (3, 1)) ∧
    (tField Try.prog 43 4 = some (4, 42)) ∧
    (tPlace Try.prog 43 4 = some (4, 6)) ∧
    (tField Try.prog 43 5 = some (10, 23)) ∧
    (tPlace Try.prog 43 5 = some (10, 1)) :=
  ⟨by kernel_rfl, by kernel_rfl, by kernel_rfl, by kernel_rfl, by kernel_rfl, by kernel_rfl, by kernel_rfl, by kernel_rfl, by kernel_rfl, by kernel_rfl, by kernel_rfl, by kernel_rfl, by kernel_rfl, by kernel_rfl, by kernel_rfl, by kernel_rfl, by kernel_rfl, by kernel_rfl, by kernel_rfl⟩
theorem ty44 : (tAgg Try.prog 44 = some true) ∧
    (tSize Try.prog 44 = some 11) ∧
    (tBytes Try.prog 44 = some 72) ∧
    (tZero Try.prog 44 = some [.d (.int .i64 0), .d (.int .i64 0), .d (.int .i64 0), .d (.int .u8 0), .d (.int .i64 0), .d (.int .u16 0), .d (.int .u8 0), .d (.int .u8 0), .d (.int .u8 0), .d (.int .u8 0), .d .snil]) ∧
    (tSlice Try.prog 44 = none) ∧
    (tArr Try.prog 44 = none) ∧
    (tParts Try.prog 44 = true) ∧
    (tField Try.prog 44 0 = some (0, 3)) ∧
    (tPlace Try.prog 44 0 = some (0, 1)) ∧
    (tField Try.prog 44 1 = some (1, 3)) ∧
    (tPlace Try.prog 44 1 = some (1, 1)) ∧
    (tField Try.prog 44 2 = some (2, 3)) ∧
    (tPlace Try.prog 44 2 = some (2, 1)) ∧
    (tField Try.prog 44 3 = some (3, 5)) ∧
    (tPlace Try.prog 44 3 = some (3, 1)) ∧
    (tField Try.prog 44 4 = some (4, 42)) ∧
    (tPlace Try.prog 44 4 = some (4, 6)) ∧
    (tField Try.prog 44 5 = some (10, 23)) ∧
    (tPlace Try.prog 44 5 = some (10, 1)) :=
  ⟨by kernel_rfl, by kernel_rfl, by kernel_rfl, by kernel_rfl, by kernel_rfl, by kernel_rfl, by kernel_rfl, by kernel_rfl, by kernel_rfl, by kernel_rfl, by kernel_rfl, by kernel_rfl, by kernel_rfl, by kernel_rfl, by kernel_rfl, by kernel_rfl, by kernel_rfl, by kernel_rfl, by kernel_rfl⟩
theorem ty45 : (tAgg Try.prog 45 = some false) ∧
    (tSize Try.prog 45 = some 1) ∧
    (tBytes Try.prog 45 = some 8) ∧
    (tZero Try.prog 45 = some [.fnil]) ∧
    (tSlice Try.prog 45 = none) ∧
    (tArr Try.prog 45 = none) ∧
    (isFn Try.prog 45 = true) :=
  ⟨by kernel_rfl, by kernel_rfl, by kernel_rfl, by kernel_rfl, by kernel_rfl, by kernel_rfl, by kernel_rfl⟩
theorem ty46 : (tAgg Try.prog 46 = some true) ∧
    (tSize Try.prog 46 = some 9) ∧
    (tBytes Try.prog 46 = some 72) ∧
    (tZero Try.prog 46 = some [.d (.int .i64 0), .d (.int .i64 0), .d (.int .i64 0), .d (.int .i64 0), .d (.int .i64 0), .d (.int .i64 0), .d (.int .i64 0), .d (.int .i64 0), .d (.int .i64 0)]) ∧
    (tSlice Try.prog 46 = none) ∧
    (tArr Try.prog 46 = some (9, 3)) ∧
    (tParts Try.prog 46 = true) ∧
    (tPlace Try.prog 46 0 = some (0, 1)) ∧
    (tPlace Try.prog 46 1 = some (1, 1)) ∧
    (tPlace Try.prog 46 2 = some (2, 1)) ∧
    (tPlace Try.prog 46 3 = some (3, 1)) ∧
    (tPlace Try.prog 46 4 = some (4, 1)) ∧
    (tPlace Try.prog 46 5 = some (5, 1)) ∧
    (tPlace Try.prog 46 6 = some (6, 1)) ∧
    (tPlace Try.prog 46 7 = some (7, 1)) ∧
    (tPlace Try.prog 46 8 = some (8, 1)) ∧
    (Try.prog.underlying 46 = some (.array 9 3)) :=
  ⟨by kernel_rfl, by kernel_rfl, by kernel_rfl, by kernel_rfl, by kernel_rfl, by kernel_rfl, by kernel_rfl, by kernel_rfl, by kernel_rfl, by kernel_rfl, by kernel_rfl, by kernel_rfl, by kernel_rfl, by kernel_rfl, by kernel_rfl, by kernel_rfl, by kernel_rfl⟩
theorem ty47 : (tAgg Try.prog 47 = some false) ∧
    (tSize Try.prog 47 = some 1) ∧
    (tBytes Try.prog 47 = some 8) ∧
    (tZero Try.prog 47 = some [.fnil]) ∧
    (tSlice Try.prog 47 = none) ∧
    (tArr Try.prog 47 = none) ∧
    (isFn Try.prog 47 = true) :=
  ⟨by kernel_rfl, by kernel_rfl, by kernel_rfl, by kernel_rfl, by kernel_rfl, by kernel_rfl, by kernel_rfl⟩
theorem ty48 : (tAgg Try.prog 48 = some false) ∧
    (tSize Try.prog 48 = some 1) ∧
    (tBytes Try.prog 48 = some 8) ∧
    (tZero Try.prog 48 = some [.fnil]) ∧
    (tSlice Try.prog 48 = none) ∧
    (tArr Try.prog 48 = none) ∧
    (isFn Try.prog 48 = true) :=
  ⟨by kernel_rfl, by kernel_rfl, by kernel_rfl, by kernel_rfl, by kernel_rfl, by kernel_rfl, by kernel_rfl⟩
theorem ty49 : (tAgg Try.prog 49 = some false) ∧
    (tSize Try.prog 49 = some 1) ∧
    (tBytes Try.prog 49 = some 8) ∧
    (tZero Try.prog 49 = some [.fnil]) ∧
    (tSlice Try.prog 49 = none) ∧
    (tArr Try.prog 49 = none) ∧
    (isFn Try.prog 49 = true) :=
  ⟨by kernel_rfl, by kernel_rfl, by kernel_rfl, by kernel_rfl, by kernel_rfl, by kernel_rfl, by kernel_rfl⟩
theorem ty50 : (tAgg Try.prog 50 = some false) ∧
    (tSize Try.prog 50 = some 1) ∧
    (tBytes Try.prog 50 = some 8) ∧
    (tZero Try.prog 50 = some [.fnil]) ∧
    (tSlice Try.prog 50 = none) ∧
    (tArr Try.prog 50 = none) ∧
    (isFn Try.prog 50 = true) :=
  ⟨by kernel_rfl, by kernel_rfl, by kernel_rfl, by kernel_rfl, by kernel_rfl, by kernel_rfl, by kernel_rfl⟩
theorem ty51 : (tAgg Try.prog 51 = some false) ∧
    (tSize Try.prog 51 = some 1) ∧
    (tBytes Try.prog 51 = some 8) ∧
    (tZero Try.prog 51 = some [.fnil]) ∧
    (tSlice Try.prog 51 = none) ∧
    (tArr Try.prog 51 = none) ∧
    (isFn Try.prog 51 = true) :=
  ⟨by kernel_rfl, by kernel_rfl, by kernel_rfl, by kernel_rfl, by kernel_rfl, by kernel_rfl, by kernel_rfl⟩
theorem ty52 : (tAgg Try.prog 52 = some false) ∧
    (tSize Try.prog 52 = some 1) ∧
    (tBytes Try.prog 52 = some 8) ∧
    (tZero Try.prog 52 = some [.fnil]) ∧
    (tSlice Try.prog 52 = none) ∧
    (tArr Try.prog 52 = none) ∧
    (isFn Try.prog 52 = true) :=
  ⟨by kernel_rfl, by kernel_rfl, by kernel_rfl, by kernel_rfl, by kernel_rfl, by kernel_rfl, by kernel_rfl⟩
theorem ty54 : (tAgg Try.prog 54 = some false) ∧
    (tSize Try.prog 54 = some 1) ∧
    (tBytes Try.prog 54 = some 8) ∧
    (tZero Try.prog 54 = some [.fnil]) ∧
    (tSlice Try.prog 54 = none) ∧
    (tArr Try.prog 54 = none) ∧
    (isFn Try.prog 54 = true) :=
  ⟨by kernel_rfl, by kernel_rfl, by kernel_rfl, by kernel_rfl, by kernel_rfl, by kernel_rfl, by kernel_rfl⟩
theorem ty56 : (tAgg Try.prog 56 = some false) ∧
    (tSize Try.prog 56 = some 1) ∧
    (tBytes Try.prog 56 = some 8) ∧
    (tZero Try.prog 56 = some [.fnil]) ∧
    (tSlice Try.prog 56 = none) ∧
    (tArr Try.prog 56 = none) ∧
    (isFn Try.prog 56 = true) :=
  ⟨by kernel_rfl, by kernel_rfl, by kernel_rfl, by kernel_rfl, by kernel_rfl, by kernel_rfl, by kernel_rfl⟩
theorem ty57 : (tAgg Try.prog 57 = some false) ∧
    (tSize Try.prog 57 = some 1) ∧
    (tBytes Try.prog 57 = some 8) ∧
    (tZero Try.prog 57 = some [.fnil]) ∧
    (tSlice Try.prog 57 = none) ∧
    (tArr Try.prog 57 = none) ∧
    (isFn Try.prog 57 = true) :=
  ⟨by kernel_rfl, by kernel_rfl, by kernel_rfl, by kernel_rfl, by kernel_rfl, by kernel_rfl, by kernel_rfl⟩
theorem ty58 : (tAgg Try.prog 58 = some false) ∧
    (tSize Try.prog 58 = some 1) ∧
    (tBytes Try.prog 58 = some 8) ∧
    (tZero Try.prog 58 = some [.fnil]) ∧
    (tSlice Try.prog 58 = none) ∧
    (tArr Try.prog 58 = none) ∧
    (isFn Try.prog 58 = true) :=
  ⟨by kernel_rfl, by kernel_rfl, by kernel_rfl, by kernel_rfl, by kernel_rfl, by kernel_rfl, by kernel_rfl⟩
theorem ty59 : (tAgg Try.prog 59 = some false) ∧
    (tSize Try.prog 59 = some 1) ∧
    (tBytes Try.prog 59 = some 8) ∧
    (tZero Try.prog 59 = some [.fnil]) ∧
    (tSlice Try.prog 59 = none) ∧
    (tArr Try.prog 59 = none) ∧
    (isFn Try.prog 59 = true) :=
  ⟨by kernel_rfl, by kernel_rfl, by kernel_rfl, by kernel_rfl, by kernel_rfl, by kernel_rfl, by kernel_rfl⟩
theorem ty60 : (tAgg Try.prog 60 = some false) ∧
    (tSize Try.prog 60 = some 1) ∧
    (tBytes Try.prog 60 = some 8) ∧
    (tZero Try.prog 60 = some [.fnil]) ∧
    (tSlice Try.prog 60 = none) ∧
    (tArr Try.prog 60 = none) ∧
    (isFn Try.prog 60 = true) :=
  ⟨by kernel_rfl, by kernel_rfl, by kernel_rfl, by kernel_rfl, by kernel_rfl, by kernel_rfl, by kernel_rfl⟩
theorem ty61 : (tAgg Try.prog 61 = some false) ∧
    (tSize Try.prog 61 = some 1) ∧
    (tBytes Try.prog 61 = some 8) ∧
    (tZero Try.prog 61 = some [.fnil]) ∧
    (tSlice Try.prog 61 = none) ∧
    (tArr Try.prog 61 = none) ∧
    (isFn Try.prog 61 = true) :=
  ⟨by kernel_rfl, by kernel_rfl, by kernel_rfl, by kernel_rfl, by kernel_rfl, by kernel_rfl, by kernel_rfl⟩
theorem ty62 : (tAgg Try.prog 62 = some false) ∧
    (tSize Try.prog 62 = some 1) ∧
    (tBytes Try.prog 62 = some 4) ∧
    (tZero Try.prog 62 = some [.d (.int .u32 0)]) ∧
    (tSlice Try.prog 62 = none) ∧
    (tArr Try.prog 62 = none) ∧
    (Try.prog.underlying 62 = some (.int .u32)) :=
  ⟨by kernel_rfl, by kernel_rfl, by kernel_rfl, by kernel_rfl, by kernel_rfl, by kernel_rfl, by kernel_rfl⟩
theorem ty63 : (tAgg Try.prog 63 = some false) ∧
    (tSize Try.prog 63 = some 1) ∧
    (tBytes Try.prog 63 = some 8) ∧
    (tZero Try.prog 63 = some [.fnil]) ∧
    (tSlice Try.prog 63 = none) ∧
    (tArr Try.prog 63 = none) ∧
    (isFn Try.prog 63 = true) :=
  ⟨by kernel_rfl, by kernel_rfl, by kernel_rfl, by kernel_rfl, by kernel_rfl, by kernel_rfl, by kernel_rfl⟩
theorem ty64 : (tAgg Try.prog 64 = some false) ∧
    (tSize Try.prog 64 = some 1) ∧
    (tBytes Try.prog 64 = some 8) ∧
    (tZero Try.prog 64 = some [.fnil]) ∧
    (tSlice Try.prog 64 = none) ∧
    (tArr Try.prog 64 = none) ∧
    (isFn Try.prog 64 = true) :=
  ⟨by kernel_rfl, by kernel_rfl, by kernel_rfl, by kernel_rfl, by kernel_rfl, by kernel_rfl, by kernel_rfl⟩
theorem ty65 : (tAgg Try.prog 65 = some false) ∧
    (tSize Try.prog 65 = some 1) ∧
    (tBytes Try.prog 65 = some 8) ∧
    (tZero Try.prog 65 = some [.d (.int .u64 0)]) ∧
    (tSlice Try.prog 65 = none) ∧
    (tArr Try.prog 65 = none) ∧
    (Try.prog.underlying 65 = some (.int .u64)) :=
  ⟨by kernel_rfl, by kernel_rfl, by kernel_rfl, by kernel_rfl, by kernel_rfl, by kernel_rfl, by kernel_rfl⟩
theorem ty66 : (tAgg Try.prog 66 = some false) ∧
    (tSize Try.prog 66 = some 1) ∧
    (tBytes Try.prog 66 = some 8) ∧
    (tZero Try.prog 66 = some [.fnil]) ∧
    (tSlice Try.prog 66 = none) ∧
    (tArr Try.prog 66 = none) ∧
    (isFn Try.prog 66 = true) :=
  ⟨by kernel_rfl, by kernel_rfl, by kernel_rfl, by kernel_rfl, by kernel_rfl, by kernel_rfl, by kernel_rfl⟩
theorem ty67 : (tAgg Try.prog 67 = some false) ∧
    (tSize Try.prog 67 = some 1) ∧
    (tBytes Try.prog 67 = some 2) ∧
    (tZero Try.prog 67 = some [.d (.int .i16 0)]) ∧
    (tSlice Try.prog 67 = none) ∧
    (tArr Try.prog 67 = none) ∧
    (Try.prog.underlying 67 = some (.int .i16)) :=
  ⟨by kernel_rfl, by kernel_rfl, by kernel_rfl, by kernel_rfl, by kernel_rfl, by kernel_rfl, by kernel_rfl⟩
theorem ty68 : (tAgg Try.prog 68 = some false) ∧
    (tSize Try.prog 68 = some 1) ∧
    (tBytes Try.prog 68 = some 24) ∧
    (tZero Try.prog 68 = some [.d .snil]) ∧
    (tSlice Try.prog 68 = some 23) ∧
    (tArr Try.prog 68 = none) ∧
    (isSl Try.prog 68 = true) ∧
    (Try.prog.underlying 68 = some (.slice 23)) :=
  ⟨by kernel_rfl, by kernel_rfl, by kernel_rfl, by kernel_rfl, by kernel_rfl, by kernel_rfl, by kernel_rfl, by kernel_rfl⟩
theorem ty69 : (tAgg Try.prog 69 = some false) ∧
    (tSize Try.prog 69 = some 1) ∧
    (tBytes Try.prog 69 = some 8) ∧
    (tZero Try.prog 69 = some [.fnil]) ∧
    (tSlice Try.prog 69 = none) ∧
    (tArr Try.prog 69 = none) ∧
    (isFn Try.prog 69 = true) :=
  ⟨by kernel_rfl, by kernel_rfl, by kernel_rfl, by kernel_rfl, by kernel_rfl, by kernel_rfl, by kernel_rfl⟩
theorem ty70 : (tAgg Try.prog 70 = some false) ∧
    (tSize Try.prog 70 = some 1) ∧
    (tBytes Try.prog 70 = some 8) ∧
    (tZero Try.prog 70 = some [.fnil]) ∧
    (tSlice Try.prog 70 = none) ∧
    (tArr Try.prog 70 = none) ∧
    (isFn Try.prog 70 = true) :=
  ⟨by kernel_rfl, by kernel_rfl, by kernel_rfl, by kernel_rfl, by kernel_rfl, by kernel_rfl, by kernel_rfl⟩
theorem ty71 : (tAgg Try.prog 71 = some true) ∧
    (tSize Try.prog 71 = some 4) ∧
    (tBytes Try.prog 71 = some 40) ∧
    (tZero Try.prog 71 = some [.pnil, .pnil, .pnil, .d (.str [])]) ∧
    (tSlice Try.prog 71 = none) ∧
    (tArr Try.prog 71 = none) ∧
    (tParts Try.prog 71 = true) ∧
    (tField Try.prog 71 0 = some (0, 17)) ∧
    (tPlace Try.prog 71 0 = some (0, 1)) ∧
    (tField Try.prog 71 1 = some (1, 17)) ∧
    (tPlace Try.prog 71 1 = some (1, 1)) ∧
    (tField Try.prog 71 2 = some (2, 17)) ∧
    (tPlace Try.prog 71 2 = some (2, 1)) ∧
    (tField Try.prog 71 3 = some (3, 9)) ∧
    (tPlace Try.prog 71 3 = some (3, 1)) :=
  ⟨by kernel_rfl, by kernel_rfl, by kernel_rfl, by kernel_rfl, by kernel_rfl, by kernel_rfl, by kernel_rfl, by kernel_rfl, by kernel_rfl, by kernel_rfl, by kernel_rfl, by kernel_rfl, by kernel_rfl, by kernel_rfl, by kernel_rfl⟩
theorem ty72 : (tAgg Try.prog 72 = some true) ∧
    (tSize Try.prog 72 = some 4) ∧
    (tBytes Try.prog 72 = some 40) ∧
    (tZero Try.prog 72 = some [.pnil, .pnil, .pnil, .d (.str [])]) ∧
    (tSlice Try.prog 72 = none) ∧
    (tArr Try.prog 72 = none) ∧
    (tParts Try.prog 72 = true) ∧
    (tField Try.prog 72 0 = some (0, 17)) ∧
    (tPlace Try.prog 72 0 = some (0, 1)) ∧
    (tField Try.prog 72 1 = some (1, 17)) ∧
    (tPlace Try.prog 72 1 = some (1, 1)) ∧
    (tField Try.prog 72 2 = some (2, 17)) ∧
    (tPlace Try.prog 72 2 = some (2, 1)) ∧
    (tField Try.prog 72 3 = some (3, 9)) ∧
    (tPlace Try.prog 72 3 = some (3, 1)) :=
  ⟨by kernel_rfl, by kernel_rfl, by kernel_rfl, by kernel_rfl, by kernel_rfl, by kernel_rfl, by kernel_rfl, by kernel_rfl, by kernel_rfl, by kernel_rfl, by kernel_rfl, by kernel_rfl, by kernel_rfl, by kernel_rfl, by kernel_rfl⟩
theorem ty73 : (tAgg Try.prog 73 = some true) ∧
    (tSize Try.prog 73 = some 0) ∧
    (tBytes Try.prog 73 = some 0) ∧
    (tZero Try.prog 73 = some []) ∧
    (tSlice Try.prog 73 = none) ∧
    (tArr Try.prog 73 = some (0, 16)) ∧
    (tParts Try.prog 73 = true) ∧
    (Try.prog.underlying 73 = some (.array 0 16)) :=
  ⟨by kernel_rfl, by kernel_rfl, by kernel_rfl, by kernel_rfl, by kernel_rfl, by kernel_rfl, by kernel_rfl, by kernel_rfl⟩
theorem ty74 : (tAgg Try.prog 74 = some true) ∧
    (tSize Try.prog 74 = some 0) ∧
    (tBytes Try.prog 74 = some 0) ∧
    (tZero Try.prog 74 = some []) ∧
    (tSlice Try.prog 74 = none) ∧
    (tArr Try.prog 74 = none) ∧
    (tParts Try.prog 74 = true) ∧
    (tField Try.prog 74 0 = some (0, 73)) ∧
    (tPlace Try.prog 74 0 = some (0, 0)) :=
  ⟨by kernel_rfl, by kernel_rfl, by kernel_rfl, by kernel_rfl, by kernel_rfl, by kernel_rfl, by kernel_rfl, by kernel_rfl, by kernel_rfl⟩
theorem ty75 : (tAgg Try.prog 75 = some true) ∧
    (tSize Try.prog 75 = some 0) ∧
    (tBytes Try.prog 75 = some 0) ∧
    (tZero Try.prog 75 = some []) ∧
    (tSlice Try.prog 75 = none) ∧
    (tArr Try.prog 75 = none) ∧
    (tParts Try.prog 75 = true) ∧
    (tField Try.prog 75 0 = some (0, 73)) ∧
    (tPlace Try.prog 75 0 = some (0, 0)) :=
  ⟨by kernel_rfl, by kernel_rfl, by kernel_rfl, by kernel_rfl, by kernel_rfl, by kernel_rfl, by kernel_rfl, by kernel_rfl, by kernel_rfl⟩
theorem ty76 : (tAgg Try.prog 76 = some false) ∧
    (tSize Try.prog 76 = some 1) ∧
    (tBytes Try.prog 76 = some 8) ∧
    (tZero Try.prog 76 = some [.fnil]) ∧
    (tSlice Try.prog 76 = none) ∧
    (tArr Try.prog 76 = none) ∧
    (isFn Try.prog 76 = true) :=
  ⟨by kernel_rfl, by kernel_rfl, by kernel_rfl, by kernel_rfl, by kernel_rfl, by kernel_rfl, by kernel_rfl⟩
theorem ty77 : (tAgg Try.prog 77 = some false) ∧
    (tSize Try.prog 77 = some 1) ∧
    (tBytes Try.prog 77 = some 1) ∧
    (tZero Try.prog 77 = some [.d (.int .u8 0)]) ∧
    (tSlice Try.prog 77 = none) ∧
    (tArr Try.prog 77 = none) ∧
    (Try.prog.underlying 77 = some (.int .u8)) :=
  ⟨by kernel_rfl, by kernel_rfl, by kernel_rfl, by kernel_rfl, by kernel_rfl, by kernel_rfl, by kernel_rfl⟩
theorem ty78 : (tAgg Try.prog 78 = some false) ∧
    (tSize Try.prog 78 = some 1) ∧
    (tBytes Try.prog 78 = some 1) ∧
    (tZero Try.prog 78 = some [.d (.int .u8 0)]) ∧
    (tSlice Try.prog 78 = none) ∧
    (tArr Try.prog 78 = none) ∧
    (Try.prog.underlying 78 = some (.int .u8)) :=
  ⟨by kernel_rfl, by kernel_rfl, by kernel_rfl, by kernel_rfl, by kernel_rfl, by kernel_rfl, by kernel_rfl⟩
theorem ty79 : (tAgg Try.prog 79 = some false) ∧
    (tSize Try.prog 79 = some 1) ∧
    (tBytes Try.prog 79 = some 8) ∧
    (tZero Try.prog 79 = some [.fnil]) ∧
    (tSlice Try.prog 79 = none) ∧
    (tArr Try.prog 79 = none) ∧
    (isFn Try.prog 79 = true) :=
  ⟨by kernel_rfl, by kernel_rfl, by kernel_rfl, by kernel_rfl, by kernel_rfl, by kernel_rfl, by kernel_rfl⟩
theorem ty80 : (tAgg Try.prog 80 = some false) ∧
    (tSize Try.prog 80 = some 1) ∧
    (tBytes Try.prog 80 = some 8) ∧
    (tZero Try.prog 80 = some [.pnil]) ∧
    (tSlice Try.prog 80 = none) ∧
    (tArr Try.prog 80 = none) ∧
    (isPtr Try.prog 80 = true) ∧
    (tPtr Try.prog 80 = some 5) ∧
    (Try.prog.underlying 80 = some (.pointer 5)) :=
  ⟨by kernel_rfl, by kernel_rfl, by kernel_rfl, by kernel_rfl, by kernel_rfl, by kernel_rfl, by kernel_rfl, by kernel_rfl, by kernel_rfl⟩
theorem ty81 : (tAgg Try.prog 81 = some false) ∧
    (tSize Try.prog 81 = some 1) ∧
    (tBytes Try.prog 81 = some 4) ∧
    (tZero Try.prog 81 = some [.d (.int .i32 0)]) ∧
    (tSlice Try.prog 81 = none) ∧
    (tArr Try.prog 81 = none) ∧
    (Try.prog.underlying 81 = some (.int .i32)) :=
  ⟨by kernel_rfl, by kernel_rfl, by kernel_rfl, by kernel_rfl, by kernel_rfl, by kernel_rfl, by kernel_rfl⟩
theorem ty82 : (tAgg Try.prog 82 = some false) ∧
    (tSize Try.prog 82 = some 1) ∧
    (tBytes Try.prog 82 = some 4) ∧
    (tZero Try.prog 82 = some [.d (.int .i32 0)]) ∧
    (tSlice Try.prog 82 = none) ∧
    (tArr Try.prog 82 = none) ∧
    (Try.prog.underlying 82 = some (.int .i32)) :=
  ⟨by kernel_rfl, by kernel_rfl, by kernel_rfl, by kernel_rfl, by kernel_rfl, by kernel_rfl, by kernel_rfl⟩
theorem ty83 : (tAgg Try.prog 83 = some true) ∧
    (tSize Try.prog 83 = some 11) ∧
    (tBytes Try.prog 83 = some 48) ∧
    (tZero Try.prog 83 = some [.d (.int .u64 0), .d (.int .u64 0), .d (.int .u32 0), .d (.int .u8 0), .d (.int .u8 0), .d (.int .u8 0), .d (.int .u8 0), .fnil, .pnil, .d (.int .i32 0), .d (.int .i32 0)]) ∧
    (tSlice Try.prog 83 = none) ∧
    (tArr Try.prog 83 = none) ∧
    (tParts Try.prog 83 = true) ∧
    (tField Try.prog 83 0 = some (0, 12)) ∧
    (tPlace Try.prog 83 0 = some (0, 1)) ∧
    (tField Try.prog 83 1 = some (1, 12)) ∧
    (tPlace Try.prog 83 1 = some (1, 1)) ∧
    (tField Try.prog 83 2 = some (2, 62)) ∧
    (tPlace Try.prog 83 2 = some (2, 1)) ∧
    (tField Try.prog 83 3 = some (3, 77)) ∧
    (tPlace Try.prog 83 3 = some (3, 1)) ∧
    (tField Try.prog 83 4 = some (4, 5)) ∧
    (tPlace Try.prog 83 4 = some (4, 1)) ∧
    (tField Try.prog 83 5 = some (5, 5)) ∧
    (tPlace Try.prog 83 5 = some (5, 1)) ∧
    (tField Try.prog 83 6 = some (6, 78)) ∧
    (tPlace Try.prog 83 6 = some (6, 1)) ∧
    (tField Try.prog 83 7 = some (7, 79)) ∧
    (tPlace Try.prog 83 7 = some (7, 1)) ∧
    (tField Try.prog 83 8 = some (8, 80)) ∧
    (tPlace Try.prog 83 8 = some (8, 1)) ∧
    (tField Try.prog 83 9 = some (9, 81)) ∧
    (tPlace Try.prog 83 9 = some (9, 1)) ∧
    (tField Try.prog 83 10 = some (10, 82)) ∧
    (tPlace Try.prog 83 10 = some (10, 1)) :=
  ⟨by kernel_rfl, by kernel_rfl, by kernel_rfl, by kernel_rfl, by kernel_rfl, by kernel_rfl, by kernel_rfl, by kernel_rfl, by kernel_rfl, by kernel_rfl, by kernel_rfl, by kernel_rfl, by kernel_rfl, by kernel_rfl, by kernel_rfl, by kernel_rfl, by kernel_rfl, by kernel_rfl, by kernel_rfl, by kernel_rfl, by kernel_rfl, by kernel_rfl, by kernel_rfl, by kernel_rfl, by kernel_rfl, by kernel_rfl, by kernel_rfl, by kernel_rfl, by kernel_rfl⟩
theorem ty84 : (tAgg Try.prog 84 = some true) ∧
    (tSize Try.prog 84 = some 11) ∧
    (tBytes Try.prog 84 = some 48) ∧
    (tZero Try.prog 84 = some [.d (.int .u64 0), .d (.int .u64 0), .d (.int .u32 0), .d (.int .u8 0), .d (.int .u8 0), .d (.int .u8 0), .d (.int .u8 0), .fnil, .pnil, .d (.int .i32 0), .d (.int .i32 0)]) ∧
    (tSlice Try.prog 84 = none) ∧
    (tArr Try.prog 84 = none) ∧
    (tParts Try.prog 84 = true) ∧
    (tField Try.prog 84 0 = some (0, 12)) ∧
    (tPlace Try.prog 84 0 = some (0, 1)) ∧
    (tField Try.prog 84 1 = some (1, 12)) ∧
    (tPlace Try.prog 84 1 = some (1, 1)) ∧
    (tField Try.prog 84 2 = some (2, 62)) ∧
    (tPlace Try.prog 84 2 = some (2, 1)) ∧
    (tField Try.prog 84 3 = some (3, 77)) ∧
    (tPlace Try.prog 84 3 = some (3, 1)) ∧
    (tField Try.prog 84 4 = some (4, 5)) ∧
    (tPlace Try.prog 84 4 = some (4, 1)) ∧
    (tField Try.prog 84 5 = some (5, 5)) ∧
    (tPlace Try.prog 84 5 = some (5, 1)) ∧
    (tField Try.prog 84 6 = some (6, 78)) ∧
    (tPlace Try.prog 84 6 = some (6, 1)) ∧
    (tField Try.prog 84 7 = some (7, 79)) ∧
    (tPlace Try.prog 84 7 = some (7, 1)) ∧
    (tField Try.prog 84 8 = some (8, 80)) ∧
    (tPlace Try.prog 84 8 = some (8, 1)) ∧
    (tField Try.prog 84 9 = some (9, 81)) ∧
    (tPlace Try.prog 84 9 = some (9, 1)) ∧
    (tField Try.prog 84 10 = some (10, 82)) ∧
    (tPlace Try.prog 84 10 = some (10, 1)) :=
  ⟨by kernel_rfl, by kernel_rfl, by kernel_rfl, by kernel_rfl, by kernel_rfl, by kernel_rfl, by kernel_rfl, by kernel_rfl, by kernel_rfl, by kernel_rfl, by kernel_rfl, by kernel_rfl, by kernel_rfl, by kernel_rfl, by kernel_rfl, by kernel_rfl, by kernel_rfl, by kernel_rfl, by kernel_rfl, by kernel_rfl, by kernel_rfl, by kernel_rfl, by kernel_rfl, by kernel_rfl, by kernel_rfl, by kernel_rfl, by kernel_rfl, by kernel_rfl, by kernel_rfl⟩
theorem ca3 : callable Try.prog 3 = true := by kernel_rfl
theorem ca4 : callable Try.prog 4 = true := by kernel_rfl
theorem ca5 : callable Try.prog 5 = true := by kernel_rfl
theorem ca6 : callable Try.prog 6 = true := by kernel_rfl
theorem ca7 : callable Try.prog 7 = true := by kernel_rfl
theorem ca8 : callable Try.prog 8 = true := by kernel_rfl
theorem ca9 : callable Try.prog 9 = true := by kernel_rfl
theorem ca10 : callable Try.prog 10 = true := by kernel_rfl
theorem ca11 : callable Try.prog 11 = true := by kernel_rfl
theorem ca12 : callable Try.prog 12 = true := by kernel_rfl
theorem ca13 : callable Try.prog 13 = true := by kernel_rfl
theorem ca14 : callable Try.prog 14 = true := by kernel_rfl
theorem ca15 : callable Try.prog 15 = true := by kernel_rfl
theorem ca16 : callable Try.prog 16 = true := by kernel_rfl
theorem ca17 : callable Try.prog 17 = true := by kernel_rfl
theorem ca18 : callable Try.prog 18 = true := by kernel_rfl
theorem ca19 : callable Try.prog 19 = true := by kernel_rfl
theorem ca20 : callable Try.prog 20 = true := by kernel_rfl
theorem ca21 : callable Try.prog 21 = true := by kernel_rfl
theorem ca22 : callable Try.prog 22 = true := by kernel_rfl
theorem ca23 : callable Try.prog 23 = true := by kernel_rfl
theorem ca24 : callable Try.prog 24 = true := by kernel_rfl
theorem ca25 : callable Try.prog 25 = true := by kernel_rfl
theorem ca26 : callable Try.prog 26 = true := by kernel_rfl
theorem ca27 : callable Try.prog 27 = true := by kernel_rfl
theorem ca28 : callable Try.prog 28 = true := by kernel_rfl
theorem ca29 : callable Try.prog 29 = true := by kernel_rfl
theorem ca30 : callable Try.prog 30 = true := by kernel_rfl
theorem ca31 : callable Try.prog 31 = true := by kernel_rfl
theorem ca32 : callable Try.prog 32 = true := by kernel_rfl
end Go.Proofs.Ytmnmcbhaabnnfaa.R
