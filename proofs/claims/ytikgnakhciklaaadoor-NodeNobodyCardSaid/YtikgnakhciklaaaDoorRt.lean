/-
  Facts on the types and the functions of the dump, each by the kernel's computation.
-/
import Derived.Test.YtikgnakhciklaaaDoorProg
import Derived.Test.YtikgnakhciklaaaDoorRn
import Derived.KernelRfl
namespace Go.Proofs.YtikgnakhciklaaaDoor.R
open Go Go.R Go.Proofs

theorem ty1 : (tAgg Tryd.prog 1 = some false) ∧
    (tSize Tryd.prog 1 = some 1) ∧
    (tBytes Tryd.prog 1 = some 8) ∧
    (tZero Tryd.prog 1 = some [.fnil]) ∧
    (tSlice Tryd.prog 1 = none) ∧
    (tArr Tryd.prog 1 = none) ∧
    (isFn Tryd.prog 1 = true) :=
  ⟨by kernel_rfl, by kernel_rfl, by kernel_rfl, by kernel_rfl, by kernel_rfl, by kernel_rfl, by kernel_rfl⟩
theorem ty2 : (tAgg Tryd.prog 2 = some false) ∧
    (tSize Tryd.prog 2 = some 1) ∧
    (tBytes Tryd.prog 2 = some 8) ∧
    (tZero Tryd.prog 2 = some [.d (.int .i64 0)]) ∧
    (tSlice Tryd.prog 2 = none) ∧
    (tArr Tryd.prog 2 = none) ∧
    (Tryd.prog.underlying 2 = some (.int .i64)) :=
  ⟨by kernel_rfl, by kernel_rfl, by kernel_rfl, by kernel_rfl, by kernel_rfl, by kernel_rfl, by kernel_rfl⟩
theorem ty3 : (tAgg Tryd.prog 3 = some false) ∧
    (tSize Tryd.prog 3 = some 1) ∧
    (tBytes Tryd.prog 3 = some 8) ∧
    (tZero Tryd.prog 3 = some [.d (.int .i64 0)]) ∧
    (tSlice Tryd.prog 3 = none) ∧
    (tArr Tryd.prog 3 = none) ∧
    (Tryd.prog.underlying 3 = some (.int .i64)) :=
  ⟨by kernel_rfl, by kernel_rfl, by kernel_rfl, by kernel_rfl, by kernel_rfl, by kernel_rfl, by kernel_rfl⟩
theorem ty4 : (tAgg Tryd.prog 4 = some false) ∧
    (tSize Tryd.prog 4 = some 1) ∧
    (tBytes Tryd.prog 4 = some 1) ∧
    (tZero Tryd.prog 4 = some [.d (.bool false)]) ∧
    (tSlice Tryd.prog 4 = none) ∧
    (tArr Tryd.prog 4 = none) ∧
    (isBool Tryd.prog 4 = true) ∧
    (Tryd.prog.underlying 4 = some (.bool)) :=
  ⟨by kernel_rfl, by kernel_rfl, by kernel_rfl, by kernel_rfl, by kernel_rfl, by kernel_rfl, by kernel_rfl, by kernel_rfl⟩
theorem ty5 : (tAgg Tryd.prog 5 = some false) ∧
    (tSize Tryd.prog 5 = some 1) ∧
    (tBytes Tryd.prog 5 = some 1) ∧
    (tZero Tryd.prog 5 = some [.d (.int .u8 0)]) ∧
    (tSlice Tryd.prog 5 = none) ∧
    (tArr Tryd.prog 5 = none) ∧
    (Tryd.prog.underlying 5 = some (.int .u8)) :=
  ⟨by kernel_rfl, by kernel_rfl, by kernel_rfl, by kernel_rfl, by kernel_rfl, by kernel_rfl, by kernel_rfl⟩
theorem ty6 : (tAgg Tryd.prog 6 = some false) ∧
    (tSize Tryd.prog 6 = some 1) ∧
    (tBytes Tryd.prog 6 = some 1) ∧
    (tZero Tryd.prog 6 = some [.d (.int .u8 0)]) ∧
    (tSlice Tryd.prog 6 = none) ∧
    (tArr Tryd.prog 6 = none) ∧
    (Tryd.prog.underlying 6 = some (.int .u8)) :=
  ⟨by kernel_rfl, by kernel_rfl, by kernel_rfl, by kernel_rfl, by kernel_rfl, by kernel_rfl, by kernel_rfl⟩
theorem ty7 : (tAgg Tryd.prog 7 = some true) ∧
    (tSize Tryd.prog 7 = some 4) ∧
    (tBytes Tryd.prog 7 = some 24) ∧
    (tZero Tryd.prog 7 = some [.d (.int .i64 0), .d (.int .i64 0), .d (.bool false), .d (.int .u8 0)]) ∧
    (tSlice Tryd.prog 7 = none) ∧
    (tArr Tryd.prog 7 = none) ∧
    (tParts Tryd.prog 7 = true) ∧
    (tField Tryd.prog 7 0 = some (0, 2)) ∧
    (tPlace Tryd.prog 7 0 = some (0, 1)) ∧
    (tField Tryd.prog 7 1 = some (1, 3)) ∧
    (tPlace Tryd.prog 7 1 = some (1, 1)) ∧
    (tField Tryd.prog 7 2 = some (2, 4)) ∧
    (tPlace Tryd.prog 7 2 = some (2, 1)) ∧
    (tField Tryd.prog 7 3 = some (3, 6)) ∧
    (tPlace Tryd.prog 7 3 = some (3, 1)) :=
  ⟨by kernel_rfl, by kernel_rfl, by kernel_rfl, by kernel_rfl, by kernel_rfl, by kernel_rfl, by kernel_rfl, by kernel_rfl, by kernel_rfl, by kernel_rfl, by kernel_rfl, by kernel_rfl, by kernel_rfl, by kernel_rfl, by kernel_rfl⟩
theorem ty8 : (tAgg Tryd.prog 8 = some true) ∧
    (tSize Tryd.prog 8 = some 4) ∧
    (tBytes Tryd.prog 8 = some 24) ∧
    (tZero Tryd.prog 8 = some [.d (.int .i64 0), .d (.int .i64 0), .d (.bool false), .d (.int .u8 0)]) ∧
    (tSlice Tryd.prog 8 = none) ∧
    (tArr Tryd.prog 8 = none) ∧
    (tParts Tryd.prog 8 = true) ∧
    (tField Tryd.prog 8 0 = some (0, 2)) ∧
    (tPlace Tryd.prog 8 0 = some (0, 1)) ∧
    (tField Tryd.prog 8 1 = some (1, 3)) ∧
    (tPlace Tryd.prog 8 1 = some (1, 1)) ∧
    (tField Tryd.prog 8 2 = some (2, 4)) ∧
    (tPlace Tryd.prog 8 2 = some (2, 1)) ∧
    (tField Tryd.prog 8 3 = some (3, 6)) ∧
    (tPlace Tryd.prog 8 3 = some (3, 1)) :=
  ⟨by kernel_rfl, by kernel_rfl, by kernel_rfl, by kernel_rfl, by kernel_rfl, by kernel_rfl, by kernel_rfl, by kernel_rfl, by kernel_rfl, by kernel_rfl, by kernel_rfl, by kernel_rfl, by kernel_rfl, by kernel_rfl, by kernel_rfl⟩
theorem ty9 : (tAgg Tryd.prog 9 = some false) ∧
    (tSize Tryd.prog 9 = some 1) ∧
    (tBytes Tryd.prog 9 = some 16) ∧
    (tZero Tryd.prog 9 = some [.d (.str [])]) ∧
    (tSlice Tryd.prog 9 = none) ∧
    (tArr Tryd.prog 9 = none) ∧
    (isStr Tryd.prog 9 = true) ∧
    (Tryd.prog.underlying 9 = some (.string)) :=
  ⟨by kernel_rfl, by kernel_rfl, by kernel_rfl, by kernel_rfl, by kernel_rfl, by kernel_rfl, by kernel_rfl, by kernel_rfl⟩
theorem ty10 : (tAgg Tryd.prog 10 = some false) ∧
    (tSize Tryd.prog 10 = some 1) ∧
    (tBytes Tryd.prog 10 = some 16) ∧
    (tZero Tryd.prog 10 = some [.d (.str [])]) ∧
    (tSlice Tryd.prog 10 = none) ∧
    (tArr Tryd.prog 10 = none) ∧
    (isStr Tryd.prog 10 = true) ∧
    (Tryd.prog.underlying 10 = some (.string)) :=
  ⟨by kernel_rfl, by kernel_rfl, by kernel_rfl, by kernel_rfl, by kernel_rfl, by kernel_rfl, by kernel_rfl, by kernel_rfl⟩
theorem ty11 : (tAgg Tryd.prog 11 = some false) ∧
    (tSize Tryd.prog 11 = some 1) ∧
    (tBytes Tryd.prog 11 = some 16) ∧
    (tZero Tryd.prog 11 = some [.d (.str [])]) ∧
    (tSlice Tryd.prog 11 = none) ∧
    (tArr Tryd.prog 11 = none) ∧
    (isStr Tryd.prog 11 = true) ∧
    (Tryd.prog.underlying 11 = some (.string)) :=
  ⟨by kernel_rfl, by kernel_rfl, by kernel_rfl, by kernel_rfl, by kernel_rfl, by kernel_rfl, by kernel_rfl, by kernel_rfl⟩
theorem ty12 : (tAgg Tryd.prog 12 = some false) ∧
    (tSize Tryd.prog 12 = some 1) ∧
    (tBytes Tryd.prog 12 = some 8) ∧
    (tZero Tryd.prog 12 = some [.d (.int .u64 0)]) ∧
    (tSlice Tryd.prog 12 = none) ∧
    (tArr Tryd.prog 12 = none) ∧
    (Tryd.prog.underlying 12 = some (.int .u64)) :=
  ⟨by kernel_rfl, by kernel_rfl, by kernel_rfl, by kernel_rfl, by kernel_rfl, by kernel_rfl, by kernel_rfl⟩
theorem ty13 : (tAgg Tryd.prog 13 = some true) ∧
    (tSize Tryd.prog 13 = some 2) ∧
    (tBytes Tryd.prog 13 = some 24) ∧
    (tZero Tryd.prog 13 = some [.d (.str []), .d (.int .u64 0)]) ∧
    (tSlice Tryd.prog 13 = none) ∧
    (tArr Tryd.prog 13 = none) ∧
    (tParts Tryd.prog 13 = true) ∧
    (tField Tryd.prog 13 0 = some (0, 9)) ∧
    (tPlace Tryd.prog 13 0 = some (0, 1)) ∧
    (tField Tryd.prog 13 1 = some (1, 12)) ∧
    (tPlace Tryd.prog 13 1 = some (1, 1)) :=
  ⟨by kernel_rfl, by kernel_rfl, by kernel_rfl, by kernel_rfl, by kernel_rfl, by kernel_rfl, by kernel_rfl, by kernel_rfl, by kernel_rfl, by kernel_rfl, by kernel_rfl⟩
theorem ty14 : (tAgg Tryd.prog 14 = some true) ∧
    (tSize Tryd.prog 14 = some 2) ∧
    (tBytes Tryd.prog 14 = some 24) ∧
    (tZero Tryd.prog 14 = some [.d (.str []), .d (.int .u64 0)]) ∧
    (tSlice Tryd.prog 14 = none) ∧
    (tArr Tryd.prog 14 = none) ∧
    (tParts Tryd.prog 14 = true) ∧
    (tField Tryd.prog 14 0 = some (0, 9)) ∧
    (tPlace Tryd.prog 14 0 = some (0, 1)) ∧
    (tField Tryd.prog 14 1 = some (1, 12)) ∧
    (tPlace Tryd.prog 14 1 = some (1, 1)) :=
  ⟨by kernel_rfl, by kernel_rfl, by kernel_rfl, by kernel_rfl, by kernel_rfl, by kernel_rfl, by kernel_rfl, by kernel_rfl, by kernel_rfl, by kernel_rfl, by kernel_rfl⟩
theorem ty15 : (tAgg Tryd.prog 15 = some false) ∧
    (tSize Tryd.prog 15 = some 1) ∧
    (tBytes Tryd.prog 15 = some 8) ∧
    (tZero Tryd.prog 15 = some [.pnil]) ∧
    (tSlice Tryd.prog 15 = none) ∧
    (tArr Tryd.prog 15 = none) ∧
    (isPtr Tryd.prog 15 = true) ∧
    (tPtr Tryd.prog 15 = some 135) ∧
    (Tryd.prog.underlying 15 = some (.pointer 135)) :=
  ⟨by kernel_rfl, by kernel_rfl, by kernel_rfl, by kernel_rfl, by kernel_rfl, by kernel_rfl, by kernel_rfl, by kernel_rfl, by kernel_rfl⟩
theorem ty16 : (tAgg Tryd.prog 16 = some false) ∧
    (tSize Tryd.prog 16 = some 1) ∧
    (tBytes Tryd.prog 16 = some 8) ∧
    (tZero Tryd.prog 16 = some [.pnil]) ∧
    (tSlice Tryd.prog 16 = none) ∧
    (tArr Tryd.prog 16 = none) ∧
    (isPtr Tryd.prog 16 = true) ∧
    (tPtr Tryd.prog 16 = some 138) ∧
    (Tryd.prog.underlying 16 = some (.pointer 138)) :=
  ⟨by kernel_rfl, by kernel_rfl, by kernel_rfl, by kernel_rfl, by kernel_rfl, by kernel_rfl, by kernel_rfl, by kernel_rfl, by kernel_rfl⟩
theorem ty17 : (tAgg Tryd.prog 17 = some false) ∧
    (tSize Tryd.prog 17 = some 1) ∧
    (tBytes Tryd.prog 17 = some 8) ∧
    (tZero Tryd.prog 17 = some [.pnil]) ∧
    (tSlice Tryd.prog 17 = none) ∧
    (tArr Tryd.prog 17 = none) ∧
    (isPtr Tryd.prog 17 = true) ∧
    (tPtr Tryd.prog 17 = some 147) ∧
    (Tryd.prog.underlying 17 = some (.pointer 147)) :=
  ⟨by kernel_rfl, by kernel_rfl, by kernel_rfl, by kernel_rfl, by kernel_rfl, by kernel_rfl, by kernel_rfl, by kernel_rfl, by kernel_rfl⟩
theorem ty18 : (tAgg Tryd.prog 18 = some true) ∧
    (tSize Tryd.prog 18 = some 1) ∧
    (tBytes Tryd.prog 18 = some 8) ∧
    (tZero Tryd.prog 18 = some [.pnil]) ∧
    (tSlice Tryd.prog 18 = none) ∧
    (tArr Tryd.prog 18 = none) ∧
    (tParts Tryd.prog 18 = true) ∧
    (tField Tryd.prog 18 0 = some (0, 17)) ∧
    (tPlace Tryd.prog 18 0 = some (0, 1)) :=
  ⟨by kernel_rfl, by kernel_rfl, by kernel_rfl, by kernel_rfl, by kernel_rfl, by kernel_rfl, by kernel_rfl, by kernel_rfl, by kernel_rfl⟩
theorem ty19 : (tAgg Tryd.prog 19 = some true) ∧
    (tSize Tryd.prog 19 = some 1) ∧
    (tBytes Tryd.prog 19 = some 8) ∧
    (tZero Tryd.prog 19 = some [.pnil]) ∧
    (tSlice Tryd.prog 19 = none) ∧
    (tArr Tryd.prog 19 = none) ∧
    (tParts Tryd.prog 19 = true) ∧
    (tField Tryd.prog 19 0 = some (0, 17)) ∧
    (tPlace Tryd.prog 19 0 = some (0, 1)) :=
  ⟨by kernel_rfl, by kernel_rfl, by kernel_rfl, by kernel_rfl, by kernel_rfl, by kernel_rfl, by kernel_rfl, by kernel_rfl, by kernel_rfl⟩
theorem ty21 : (tAgg Tryd.prog 21 = some false) ∧
    (tSize Tryd.prog 21 = some 1) ∧
    (tBytes Tryd.prog 21 = some 4) ∧
    (tZero Tryd.prog 21 = some [.d (.int .i32 0)]) ∧
    (tSlice Tryd.prog 21 = none) ∧
    (tArr Tryd.prog 21 = none) ∧
    (Tryd.prog.underlying 21 = some (.int .i32)) :=
  ⟨by kernel_rfl, by kernel_rfl, by kernel_rfl, by kernel_rfl, by kernel_rfl, by kernel_rfl, by kernel_rfl⟩
theorem ty22 : (tAgg Tryd.prog 22 = some false) ∧
    (tSize Tryd.prog 22 = some 1) ∧
    (tBytes Tryd.prog 22 = some 24) ∧
    (tZero Tryd.prog 22 = some [.d .snil]) ∧
    (tSlice Tryd.prog 22 = some 32) ∧
    (tArr Tryd.prog 22 = none) ∧
    (isSl Tryd.prog 22 = true) ∧
    (Tryd.prog.underlying 22 = some (.slice 32)) :=
  ⟨by kernel_rfl, by kernel_rfl, by kernel_rfl, by kernel_rfl, by kernel_rfl, by kernel_rfl, by kernel_rfl, by kernel_rfl⟩
theorem ty23 : (tAgg Tryd.prog 23 = some false) ∧
    (tSize Tryd.prog 23 = some 1) ∧
    (tBytes Tryd.prog 23 = some 8) ∧
    (tZero Tryd.prog 23 = some [.pnil]) ∧
    (tSlice Tryd.prog 23 = none) ∧
    (tArr Tryd.prog 23 = none) ∧
    (isPtr Tryd.prog 23 = true) ∧
    (tPtr Tryd.prog 23 = some 43) ∧
    (Tryd.prog.underlying 23 = some (.pointer 43)) :=
  ⟨by kernel_rfl, by kernel_rfl, by kernel_rfl, by kernel_rfl, by kernel_rfl, by kernel_rfl, by kernel_rfl, by kernel_rfl, by kernel_rfl⟩
theorem ty24 : (tAgg Tryd.prog 24 = some false) ∧
    (tSize Tryd.prog 24 = some 1) ∧
    (tBytes Tryd.prog 24 = some 8) ∧
    (tZero Tryd.prog 24 = some [.fnil]) ∧
    (tSlice Tryd.prog 24 = none) ∧
    (tArr Tryd.prog 24 = none) ∧
    (isFn Tryd.prog 24 = true) :=
  ⟨by kernel_rfl, by kernel_rfl, by kernel_rfl, by kernel_rfl, by kernel_rfl, by kernel_rfl, by kernel_rfl⟩
theorem ty25 : (tAgg Tryd.prog 25 = some false) ∧
    (tSize Tryd.prog 25 = some 1) ∧
    (tBytes Tryd.prog 25 = some 8) ∧
    (tZero Tryd.prog 25 = some [.fnil]) ∧
    (tSlice Tryd.prog 25 = none) ∧
    (tArr Tryd.prog 25 = none) ∧
    (isFn Tryd.prog 25 = true) :=
  ⟨by kernel_rfl, by kernel_rfl, by kernel_rfl, by kernel_rfl, by kernel_rfl, by kernel_rfl, by kernel_rfl⟩
theorem ty26 : (tAgg Tryd.prog 26 = some false) ∧
    (tSize Tryd.prog 26 = some 1) ∧
    (tBytes Tryd.prog 26 = some 8) ∧
    (tZero Tryd.prog 26 = some [.fnil]) ∧
    (tSlice Tryd.prog 26 = none) ∧
    (tArr Tryd.prog 26 = none) ∧
    (isFn Tryd.prog 26 = true) :=
  ⟨by kernel_rfl, by kernel_rfl, by kernel_rfl, by kernel_rfl, by kernel_rfl, by kernel_rfl, by kernel_rfl⟩
theorem ty27 : (tAgg Tryd.prog 27 = some false) ∧
    (tSize Tryd.prog 27 = some 1) ∧
    (tBytes Tryd.prog 27 = some 8) ∧
    (tZero Tryd.prog 27 = some [.fnil]) ∧
    (tSlice Tryd.prog 27 = none) ∧
    (tArr Tryd.prog 27 = none) ∧
    (isFn Tryd.prog 27 = true) :=
  ⟨by kernel_rfl, by kernel_rfl, by kernel_rfl, by kernel_rfl, by kernel_rfl, by kernel_rfl, by kernel_rfl⟩
theorem ty28 : (tAgg Tryd.prog 28 = some true) ∧
    (tSize Tryd.prog 28 = some 4) ∧
    (tBytes Tryd.prog 28 = some 32) ∧
    (tZero Tryd.prog 28 = some [.d (.int .i64 0), .d (.int .i64 0), .d (.int .i64 0), .d (.int .i64 0)]) ∧
    (tSlice Tryd.prog 28 = none) ∧
    (tArr Tryd.prog 28 = none) ∧
    (tParts Tryd.prog 28 = true) ∧
    (tField Tryd.prog 28 0 = some (0, 2)) ∧
    (tPlace Tryd.prog 28 0 = some (0, 1)) ∧
    (tField Tryd.prog 28 1 = some (1, 2)) ∧
    (tPlace Tryd.prog 28 1 = some (1, 1)) ∧
    (tField Tryd.prog 28 2 = some (2, 2)) ∧
    (tPlace Tryd.prog 28 2 = some (2, 1)) ∧
    (tField Tryd.prog 28 3 = some (3, 2)) ∧
    (tPlace Tryd.prog 28 3 = some (3, 1)) :=
  ⟨by kernel_rfl, by kernel_rfl, by kernel_rfl, by kernel_rfl, by kernel_rfl, by kernel_rfl, by kernel_rfl, by kernel_rfl, by kernel_rfl, by kernel_rfl, by kernel_rfl, by kernel_rfl, by kernel_rfl, by kernel_rfl, by kernel_rfl⟩
theorem ty29 : (tAgg Tryd.prog 29 = some true) ∧
    (tSize Tryd.prog 29 = some 4) ∧
    (tBytes Tryd.prog 29 = some 32) ∧
    (tZero Tryd.prog 29 = some [.d (.int .i64 0), .d (.int .i64 0), .d (.int .i64 0), .d (.int .i64 0)]) ∧
    (tSlice Tryd.prog 29 = none) ∧
    (tArr Tryd.prog 29 = none) ∧
    (tParts Tryd.prog 29 = true) ∧
    (tField Tryd.prog 29 0 = some (0, 2)) ∧
    (tPlace Tryd.prog 29 0 = some (0, 1)) ∧
    (tField Tryd.prog 29 1 = some (1, 2)) ∧
    (tPlace Tryd.prog 29 1 = some (1, 1)) ∧
    (tField Tryd.prog 29 2 = some (2, 2)) ∧
    (tPlace Tryd.prog 29 2 = some (2, 1)) ∧
    (tField Tryd.prog 29 3 = some (3, 2)) ∧
    (tPlace Tryd.prog 29 3 = some (3, 1)) :=
  ⟨by kernel_rfl, by kernel_rfl, by kernel_rfl, by kernel_rfl, by kernel_rfl, by kernel_rfl, by kernel_rfl, by kernel_rfl, by kernel_rfl, by kernel_rfl, by kernel_rfl, by kernel_rfl, by kernel_rfl, by kernel_rfl, by kernel_rfl⟩
theorem ty30 : (tAgg Tryd.prog 30 = some false) ∧
    (tSize Tryd.prog 30 = some 1) ∧
    (tBytes Tryd.prog 30 = some 24) ∧
    (tZero Tryd.prog 30 = some [.d .snil]) ∧
    (tSlice Tryd.prog 30 = some 5) ∧
    (tArr Tryd.prog 30 = none) ∧
    (isSl Tryd.prog 30 = true) ∧
    (Tryd.prog.underlying 30 = some (.slice 5)) :=
  ⟨by kernel_rfl, by kernel_rfl, by kernel_rfl, by kernel_rfl, by kernel_rfl, by kernel_rfl, by kernel_rfl, by kernel_rfl⟩
theorem ty31 : (tAgg Tryd.prog 31 = some true) ∧
    (tSize Tryd.prog 31 = some 8) ∧
    (tBytes Tryd.prog 31 = some 96) ∧
    (tZero Tryd.prog 31 = some [.d (.int .u8 0), .d (.str []), .d (.str []), .d (.int .i64 0), .d (.int .i64 0), .d (.int .i64 0), .d (.int .i64 0), .d .snil]) ∧
    (tSlice Tryd.prog 31 = none) ∧
    (tArr Tryd.prog 31 = none) ∧
    (tParts Tryd.prog 31 = true) ∧
    (tField Tryd.prog 31 0 = some (0, 5)) ∧
    (tPlace Tryd.prog 31 0 = some (0, 1)) ∧
    (tField Tryd.prog 31 1 = some (1, 9)) ∧
    (tPlace Tryd.prog 31 1 = some (1, 1)) ∧
    (tField Tryd.prog 31 2 = some (2, 9)) ∧
    (tPlace Tryd.prog 31 2 = some (2, 1)) ∧
    (tField Tryd.prog 31 3 = some (3, 29)) ∧
    (tPlace Tryd.prog 31 3 = some (3, 4)) ∧
    (tField Tryd.prog 31 4 = some (7, 30)) ∧
    (tPlace Tryd.prog 31 4 = some (7, 1)) :=
  ⟨by kernel_rfl, by kernel_rfl, by kernel_rfl, by kernel_rfl, by kernel_rfl, by kernel_rfl, by kernel_rfl, by kernel_rfl, by kernel_rfl, by kernel_rfl, by kernel_rfl, by kernel_rfl, by kernel_rfl, by kernel_rfl, by kernel_rfl, by kernel_rfl, by kernel_rfl⟩
theorem ty32 : (tAgg Tryd.prog 32 = some true) ∧
    (tSize Tryd.prog 32 = some 8) ∧
    (tBytes Tryd.prog 32 = some 96) ∧
    (tZero Tryd.prog 32 = some [.d (.int .u8 0), .d (.str []), .d (.str []), .d (.int .i64 0), .d (.int .i64 0), .d (.int .i64 0), .d (.int .i64 0), .d .snil]) ∧
    (tSlice Tryd.prog 32 = none) ∧
    (tArr Tryd.prog 32 = none) ∧
    (tParts Tryd.prog 32 = true) ∧
    (tField Tryd.prog 32 0 = some (0, 5)) ∧
    (tPlace Tryd.prog 32 0 = some (0, 1)) ∧
    (tField Tryd.prog 32 1 = some (1, 9)) ∧
    (tPlace Tryd.prog 32 1 = some (1, 1)) ∧
    (tField Tryd.prog 32 2 = some (2, 9)) ∧
    (tPlace Tryd.prog 32 2 = some (2, 1)) ∧
    (tField Tryd.prog 32 3 = some (3, 29)) ∧
    (tPlace Tryd.prog 32 3 = some (3, 4)) ∧
    (tField Tryd.prog 32 4 = some (7, 30)) ∧
    (tPlace Tryd.prog 32 4 = some (7, 1)) :=
  ⟨by kernel_rfl, by kernel_rfl, by kernel_rfl, by kernel_rfl, by kernel_rfl, by kernel_rfl, by kernel_rfl, by kernel_rfl, by kernel_rfl, by kernel_rfl, by kernel_rfl, by kernel_rfl, by kernel_rfl, by kernel_rfl, by kernel_rfl, by kernel_rfl, by kernel_rfl⟩
theorem ty33 : (tAgg Tryd.prog 33 = some false) ∧
    (tSize Tryd.prog 33 = some 1) ∧
    (tBytes Tryd.prog 33 = some 8) ∧
    (tZero Tryd.prog 33 = some [.d (.int .i64 0)]) ∧
    (tSlice Tryd.prog 33 = none) ∧
    (tArr Tryd.prog 33 = none) ∧
    (Tryd.prog.underlying 33 = some (.int .i64)) :=
  ⟨by kernel_rfl, by kernel_rfl, by kernel_rfl, by kernel_rfl, by kernel_rfl, by kernel_rfl, by kernel_rfl⟩
theorem ty34 : (tAgg Tryd.prog 34 = some false) ∧
    (tSize Tryd.prog 34 = some 1) ∧
    (tBytes Tryd.prog 34 = some 8) ∧
    (tZero Tryd.prog 34 = some [.fnil]) ∧
    (tSlice Tryd.prog 34 = none) ∧
    (tArr Tryd.prog 34 = none) ∧
    (isFn Tryd.prog 34 = true) :=
  ⟨by kernel_rfl, by kernel_rfl, by kernel_rfl, by kernel_rfl, by kernel_rfl, by kernel_rfl, by kernel_rfl⟩
theorem ty35 : (tAgg Tryd.prog 35 = some false) ∧
    (tSize Tryd.prog 35 = some 1) ∧
    (tBytes Tryd.prog 35 = some 24) ∧
    (tZero Tryd.prog 35 = some [.d .snil]) ∧
    (tSlice Tryd.prog 35 = some 9) ∧
    (tArr Tryd.prog 35 = none) ∧
    (isSl Tryd.prog 35 = true) ∧
    (Tryd.prog.underlying 35 = some (.slice 9)) :=
  ⟨by kernel_rfl, by kernel_rfl, by kernel_rfl, by kernel_rfl, by kernel_rfl, by kernel_rfl, by kernel_rfl, by kernel_rfl⟩
theorem ty37 : (tAgg Tryd.prog 37 = some false) ∧
    (tSize Tryd.prog 37 = some 1) ∧
    (tBytes Tryd.prog 37 = some 8) ∧
    (tZero Tryd.prog 37 = some [.fnil]) ∧
    (tSlice Tryd.prog 37 = none) ∧
    (tArr Tryd.prog 37 = none) ∧
    (isFn Tryd.prog 37 = true) :=
  ⟨by kernel_rfl, by kernel_rfl, by kernel_rfl, by kernel_rfl, by kernel_rfl, by kernel_rfl, by kernel_rfl⟩
theorem ty38 : (tAgg Tryd.prog 38 = some false) ∧
    (tSize Tryd.prog 38 = some 1) ∧
    (tBytes Tryd.prog 38 = some 8) ∧
    (tZero Tryd.prog 38 = some [.fnil]) ∧
    (tSlice Tryd.prog 38 = none) ∧
    (tArr Tryd.prog 38 = none) ∧
    (isFn Tryd.prog 38 = true) :=
  ⟨by kernel_rfl, by kernel_rfl, by kernel_rfl, by kernel_rfl, by kernel_rfl, by kernel_rfl, by kernel_rfl⟩
theorem ty40 : (tAgg Tryd.prog 40 = some false) ∧
    (tSize Tryd.prog 40 = some 1) ∧
    (tBytes Tryd.prog 40 = some 8) ∧
    (tZero Tryd.prog 40 = some [.fnil]) ∧
    (tSlice Tryd.prog 40 = none) ∧
    (tArr Tryd.prog 40 = none) ∧
    (isFn Tryd.prog 40 = true) :=
  ⟨by kernel_rfl, by kernel_rfl, by kernel_rfl, by kernel_rfl, by kernel_rfl, by kernel_rfl, by kernel_rfl⟩
theorem ty41 : (tAgg Tryd.prog 41 = some false) ∧
    (tSize Tryd.prog 41 = some 1) ∧
    (tBytes Tryd.prog 41 = some 8) ∧
    (tZero Tryd.prog 41 = some [.pnil]) ∧
    (tSlice Tryd.prog 41 = none) ∧
    (tArr Tryd.prog 41 = none) ∧
    (isPtr Tryd.prog 41 = true) ∧
    (tPtr Tryd.prog 41 = some 63) ∧
    (Tryd.prog.underlying 41 = some (.pointer 63)) :=
  ⟨by kernel_rfl, by kernel_rfl, by kernel_rfl, by kernel_rfl, by kernel_rfl, by kernel_rfl, by kernel_rfl, by kernel_rfl, by kernel_rfl⟩
theorem ty42 : (tAgg Tryd.prog 42 = some true) ∧
    (tSize Tryd.prog 42 = some 5) ∧
    (tBytes Tryd.prog 42 = some 40) ∧
    (tZero Tryd.prog 42 = some [.pnil, .d (.int .i64 0), .d (.int .i64 0), .d (.int .i64 0), .d (.int .i64 0)]) ∧
    (tSlice Tryd.prog 42 = none) ∧
    (tArr Tryd.prog 42 = none) ∧
    (tParts Tryd.prog 42 = true) ∧
    (tField Tryd.prog 42 0 = some (0, 41)) ∧
    (tPlace Tryd.prog 42 0 = some (0, 1)) ∧
    (tField Tryd.prog 42 1 = some (1, 3)) ∧
    (tPlace Tryd.prog 42 1 = some (1, 1)) ∧
    (tField Tryd.prog 42 2 = some (2, 3)) ∧
    (tPlace Tryd.prog 42 2 = some (2, 1)) ∧
    (tField Tryd.prog 42 3 = some (3, 3)) ∧
    (tPlace Tryd.prog 42 3 = some (3, 1)) ∧
    (tField Tryd.prog 42 4 = some (4, 3)) ∧
    (tPlace Tryd.prog 42 4 = some (4, 1)) :=
  ⟨by kernel_rfl, by kernel_rfl, by kernel_rfl, by kernel_rfl, by kernel_rfl, by kernel_rfl, by kernel_rfl, by kernel_rfl, by kernel_rfl, by kernel_rfl, by kernel_rfl, by kernel_rfl, by kernel_rfl, by kernel_rfl, by kernel_rfl, by kernel_rfl, by kernel_rfl⟩
theorem ty43 : (tAgg Tryd.prog 43 = some true) ∧
    (tSize Tryd.prog 43 = some 5) ∧
    (tBytes Tryd.prog 43 = some 40) ∧
    (tZero Tryd.prog 43 = some [.pnil, .d (.int .i64 0), .d (.int .i64 0), .d (.int .i64 0), .d (.int .i64 0)]) ∧
    (tSlice Tryd.prog 43 = none) ∧
    (tArr Tryd.prog 43 = none) ∧
    (tParts Tryd.prog 43 = true) ∧
    (tField Tryd.prog 43 0 = some (0, 41)) ∧
    (tPlace Tryd.prog 43 0 = some (0, 1)) ∧
    (tField Tryd.prog 43 1 = some (1, 3)) ∧
    (tPlace Tryd.prog 43 1 = some (1, 1)) ∧
    (tField Tryd.prog 43 2 = some (2, 3)) ∧
    (tPlace Tryd.prog 43 2 = some (2, 1)) ∧
    (tField Tryd.prog 43 3 = some (3, 3)) ∧
    (tPlace Tryd.prog 43 3 = some (3, 1)) ∧
    (tField Tryd.prog 43 4 = some (4, 3)) ∧
    (tPlace Tryd.prog 43 4 = some (4, 1)) :=
  ⟨by kernel_rfl, by kernel_rfl, by kernel_rfl, by kernel_rfl, by kernel_rfl, by kernel_rfl, by kernel_rfl, by kernel_rfl, by kernel_rfl, by kernel_rfl, by kernel_rfl, by kernel_rfl, by kernel_rfl, by kernel_rfl, by kernel_rfl, by kernel_rfl, by kernel_rfl⟩
theorem ty44 : (tAgg Tryd.prog 44 = some false) ∧
    (tSize Tryd.prog 44 = some 1) ∧
    (tBytes Tryd.prog 44 = some 24) ∧
    (tZero Tryd.prog 44 = some [.d .snil]) ∧
    (tSlice Tryd.prog 44 = some 23) ∧
    (tArr Tryd.prog 44 = none) ∧
    (isSl Tryd.prog 44 = true) ∧
    (Tryd.prog.underlying 44 = some (.slice 23)) :=
  ⟨by kernel_rfl, by kernel_rfl, by kernel_rfl, by kernel_rfl, by kernel_rfl, by kernel_rfl, by kernel_rfl, by kernel_rfl⟩
theorem ty45 : (tAgg Tryd.prog 45 = some true) ∧
    (tSize Tryd.prog 45 = some 4) ∧
    (tBytes Tryd.prog 45 = some 32) ∧
    (tZero Tryd.prog 45 = some [.d (.int .i64 0), .d (.int .i64 0), .d (.int .i64 0), .d (.int .i64 0)]) ∧
    (tSlice Tryd.prog 45 = none) ∧
    (tArr Tryd.prog 45 = none) ∧
    (tParts Tryd.prog 45 = true) ∧
    (tField Tryd.prog 45 0 = some (0, 2)) ∧
    (tPlace Tryd.prog 45 0 = some (0, 1)) ∧
    (tField Tryd.prog 45 1 = some (1, 2)) ∧
    (tPlace Tryd.prog 45 1 = some (1, 1)) ∧
    (tField Tryd.prog 45 2 = some (2, 2)) ∧
    (tPlace Tryd.prog 45 2 = some (2, 1)) ∧
    (tField Tryd.prog 45 3 = some (3, 2)) ∧
    (tPlace Tryd.prog 45 3 = some (3, 1)) :=
  ⟨by kernel_rfl, by kernel_rfl, by kernel_rfl, by kernel_rfl, by kernel_rfl, by kernel_rfl, by kernel_rfl, by kernel_rfl, by kernel_rfl, by kernel_rfl, by kernel_rfl, by kernel_rfl, by kernel_rfl, by kernel_rfl, by kernel_rfl⟩
theorem ty46 : (tAgg Tryd.prog 46 = some true) ∧
    (tSize Tryd.prog 46 = some 8) ∧
    (tBytes Tryd.prog 46 = some 88) ∧
    (tZero Tryd.prog 46 = some [.d (.int .i64 0), .d (.int .i64 0), .d (.int .i64 0), .d (.int .i64 0), .d (.int .i64 0), .d (.str []), .d .snil, .d (.int .i64 0)]) ∧
    (tSlice Tryd.prog 46 = none) ∧
    (tArr Tryd.prog 46 = none) ∧
    (tParts Tryd.prog 46 = true) ∧
    (tField Tryd.prog 46 0 = some (0, 3)) ∧
    (tPlace Tryd.prog 46 0 = some (0, 1)) ∧
    (tField Tryd.prog 46 1 = some (1, 45)) ∧
    (tPlace Tryd.prog 46 1 = some (1, 4)) ∧
    (tField Tryd.prog 46 2 = some (5, 9)) ∧
    (tPlace Tryd.prog 46 2 = some (5, 1)) ∧
    (tField Tryd.prog 46 3 = some (6, 30)) ∧
    (tPlace Tryd.prog 46 3 = some (6, 1)) ∧
    (tField Tryd.prog 46 4 = some (7, 3)) ∧
    (tPlace Tryd.prog 46 4 = some (7, 1)) :=
  ⟨by kernel_rfl, by kernel_rfl, by kernel_rfl, by kernel_rfl, by kernel_rfl, by kernel_rfl, by kernel_rfl, by kernel_rfl, by kernel_rfl, by kernel_rfl, by kernel_rfl, by kernel_rfl, by kernel_rfl, by kernel_rfl, by kernel_rfl, by kernel_rfl, by kernel_rfl⟩
theorem ty47 : (tAgg Tryd.prog 47 = some true) ∧
    (tSize Tryd.prog 47 = some 8) ∧
    (tBytes Tryd.prog 47 = some 88) ∧
    (tZero Tryd.prog 47 = some [.d (.int .i64 0), .d (.int .i64 0), .d (.int .i64 0), .d (.int .i64 0), .d (.int .i64 0), .d (.str []), .d .snil, .d (.int .i64 0)]) ∧
    (tSlice Tryd.prog 47 = none) ∧
    (tArr Tryd.prog 47 = none) ∧
    (tParts Tryd.prog 47 = true) ∧
    (tField Tryd.prog 47 0 = some (0, 3)) ∧
    (tPlace Tryd.prog 47 0 = some (0, 1)) ∧
    (tField Tryd.prog 47 1 = some (1, 45)) ∧
    (tPlace Tryd.prog 47 1 = some (1, 4)) ∧
    (tField Tryd.prog 47 2 = some (5, 9)) ∧
    (tPlace Tryd.prog 47 2 = some (5, 1)) ∧
    (tField Tryd.prog 47 3 = some (6, 30)) ∧
    (tPlace Tryd.prog 47 3 = some (6, 1)) ∧
    (tField Tryd.prog 47 4 = some (7, 3)) ∧
    (tPlace Tryd.prog 47 4 = some (7, 1)) :=
  ⟨by kernel_rfl, by kernel_rfl, by kernel_rfl, by kernel_rfl, by kernel_rfl, by kernel_rfl, by kernel_rfl, by kernel_rfl, by kernel_rfl, by kernel_rfl, by kernel_rfl, by kernel_rfl, by kernel_rfl, by kernel_rfl, by kernel_rfl, by kernel_rfl, by kernel_rfl⟩
theorem ty49 : (tAgg Tryd.prog 49 = some false) ∧
    (tSize Tryd.prog 49 = some 1) ∧
    (tBytes Tryd.prog 49 = some 8) ∧
    (tZero Tryd.prog 49 = some [.fnil]) ∧
    (tSlice Tryd.prog 49 = none) ∧
    (tArr Tryd.prog 49 = none) ∧
    (isFn Tryd.prog 49 = true) :=
  ⟨by kernel_rfl, by kernel_rfl, by kernel_rfl, by kernel_rfl, by kernel_rfl, by kernel_rfl, by kernel_rfl⟩
theorem ty50 : (tAgg Tryd.prog 50 = some false) ∧
    (tSize Tryd.prog 50 = some 1) ∧
    (tBytes Tryd.prog 50 = some 8) ∧
    (tZero Tryd.prog 50 = some [.fnil]) ∧
    (tSlice Tryd.prog 50 = none) ∧
    (tArr Tryd.prog 50 = none) ∧
    (isFn Tryd.prog 50 = true) :=
  ⟨by kernel_rfl, by kernel_rfl, by kernel_rfl, by kernel_rfl, by kernel_rfl, by kernel_rfl, by kernel_rfl⟩
theorem ty51 : (tAgg Tryd.prog 51 = some false) ∧
    (tSize Tryd.prog 51 = some 1) ∧
    (tBytes Tryd.prog 51 = some 8) ∧
    (tZero Tryd.prog 51 = some [.fnil]) ∧
    (tSlice Tryd.prog 51 = none) ∧
    (tArr Tryd.prog 51 = none) ∧
    (isFn Tryd.prog 51 = true) :=
  ⟨by kernel_rfl, by kernel_rfl, by kernel_rfl, by kernel_rfl, by kernel_rfl, by kernel_rfl, by kernel_rfl⟩
theorem ty52 : (tAgg Tryd.prog 52 = some false) ∧
    (tSize Tryd.prog 52 = some 1) ∧
    (tBytes Tryd.prog 52 = some 8) ∧
    (tZero Tryd.prog 52 = some [.fnil]) ∧
    (tSlice Tryd.prog 52 = none) ∧
    (tArr Tryd.prog 52 = none) ∧
    (isFn Tryd.prog 52 = true) :=
  ⟨by kernel_rfl, by kernel_rfl, by kernel_rfl, by kernel_rfl, by kernel_rfl, by kernel_rfl, by kernel_rfl⟩
theorem ty53 : (tAgg Tryd.prog 53 = some false) ∧
    (tSize Tryd.prog 53 = some 1) ∧
    (tBytes Tryd.prog 53 = some 8) ∧
    (tZero Tryd.prog 53 = some [.fnil]) ∧
    (tSlice Tryd.prog 53 = none) ∧
    (tArr Tryd.prog 53 = none) ∧
    (isFn Tryd.prog 53 = true) :=
  ⟨by kernel_rfl, by kernel_rfl, by kernel_rfl, by kernel_rfl, by kernel_rfl, by kernel_rfl, by kernel_rfl⟩
theorem ty54 : (tAgg Tryd.prog 54 = some false) ∧
    (tSize Tryd.prog 54 = some 1) ∧
    (tBytes Tryd.prog 54 = some 8) ∧
    (tZero Tryd.prog 54 = some [.fnil]) ∧
    (tSlice Tryd.prog 54 = none) ∧
    (tArr Tryd.prog 54 = none) ∧
    (isFn Tryd.prog 54 = true) :=
  ⟨by kernel_rfl, by kernel_rfl, by kernel_rfl, by kernel_rfl, by kernel_rfl, by kernel_rfl, by kernel_rfl⟩
theorem ty55 : (tAgg Tryd.prog 55 = some false) ∧
    (tSize Tryd.prog 55 = some 1) ∧
    (tBytes Tryd.prog 55 = some 8) ∧
    (tZero Tryd.prog 55 = some [.fnil]) ∧
    (tSlice Tryd.prog 55 = none) ∧
    (tArr Tryd.prog 55 = none) ∧
    (isFn Tryd.prog 55 = true) :=
  ⟨by kernel_rfl, by kernel_rfl, by kernel_rfl, by kernel_rfl, by kernel_rfl, by kernel_rfl, by kernel_rfl⟩
theorem ty56 : (tAgg Tryd.prog 56 = some false) ∧
    (tSize Tryd.prog 56 = some 1) ∧
    (tBytes Tryd.prog 56 = some 8) ∧
    (tZero Tryd.prog 56 = some [.fnil]) ∧
    (tSlice Tryd.prog 56 = none) ∧
    (tArr Tryd.prog 56 = none) ∧
    (isFn Tryd.prog 56 = true) :=
  ⟨by kernel_rfl, by kernel_rfl, by kernel_rfl, by kernel_rfl, by kernel_rfl, by kernel_rfl, by kernel_rfl⟩
theorem ty57 : (tAgg Tryd.prog 57 = some false) ∧
    (tSize Tryd.prog 57 = some 1) ∧
    (tBytes Tryd.prog 57 = some 8) ∧
    (tZero Tryd.prog 57 = some [.fnil]) ∧
    (tSlice Tryd.prog 57 = none) ∧
    (tArr Tryd.prog 57 = none) ∧
    (isFn Tryd.prog 57 = true) :=
  ⟨by kernel_rfl, by kernel_rfl, by kernel_rfl, by kernel_rfl, by kernel_rfl, by kernel_rfl, by kernel_rfl⟩
theorem ty58 : (tAgg Tryd.prog 58 = some false) ∧
    (tSize Tryd.prog 58 = some 1) ∧
    (tBytes Tryd.prog 58 = some 8) ∧
    (tZero Tryd.prog 58 = some [.fnil]) ∧
    (tSlice Tryd.prog 58 = none) ∧
    (tArr Tryd.prog 58 = none) ∧
    (isFn Tryd.prog 58 = true) :=
  ⟨by kernel_rfl, by kernel_rfl, by kernel_rfl, by kernel_rfl, by kernel_rfl, by kernel_rfl, by kernel_rfl⟩
theorem ty60 : (tAgg Tryd.prog 60 = some false) ∧
    (tSize Tryd.prog 60 = some 1) ∧
    (tBytes Tryd.prog 60 = some 8) ∧
    (tZero Tryd.prog 60 = some [.fnil]) ∧
    (tSlice Tryd.prog 60 = none) ∧
    (tArr Tryd.prog 60 = none) ∧
    (isFn Tryd.prog 60 = true) :=
  ⟨by kernel_rfl, by kernel_rfl, by kernel_rfl, by kernel_rfl, by kernel_rfl, by kernel_rfl, by kernel_rfl⟩
theorem ty61 : (tAgg Tryd.prog 61 = some false) ∧
    (tSize Tryd.prog 61 = some 1) ∧
    (tBytes Tryd.prog 61 = some 8) ∧
    (tZero Tryd.prog 61 = some [.mnil]) ∧
    (tSlice Tryd.prog 61 = none) ∧
    (tArr Tryd.prog 61 = none) ∧
    (isMap Tryd.prog 61 = true) ∧
    (Tryd.prog.underlying 61 = some (.map 9 41)) :=
  ⟨by kernel_rfl, by kernel_rfl, by kernel_rfl, by kernel_rfl, by kernel_rfl, by kernel_rfl, by kernel_rfl, by kernel_rfl⟩
theorem ty62 : (tAgg Tryd.prog 62 = some true) ∧
    (tSize Tryd.prog 62 = some 9) ∧
    (tBytes Tryd.prog 62 = some 96) ∧
    (tZero Tryd.prog 62 = some [.d (.int .i64 0), .d (.int .i64 0), .d (.int .i64 0), .d (.int .i64 0), .d (.int .i64 0), .d (.str []), .d .snil, .d (.int .i64 0), .mnil]) ∧
    (tSlice Tryd.prog 62 = none) ∧
    (tArr Tryd.prog 62 = none) ∧
    (tParts Tryd.prog 62 = true) ∧
    (tField Tryd.prog 62 0 = some (0, 3)) ∧
    (tPlace Tryd.prog 62 0 = some (0, 1)) ∧
    (tField Tryd.prog 62 1 = some (1, 45)) ∧
    (tPlace Tryd.prog 62 1 = some (1, 4)) ∧
    (tField Tryd.prog 62 2 = some (5, 9)) ∧
    (tPlace Tryd.prog 62 2 = some (5, 1)) ∧
    (tField Tryd.prog 62 3 = some (6, 30)) ∧
    (tPlace Tryd.prog 62 3 = some (6, 1)) ∧
    (tField Tryd.prog 62 4 = some (7, 3)) ∧
    (tPlace Tryd.prog 62 4 = some (7, 1)) ∧
    (tField Tryd.prog 62 5 = some (8, 61)) ∧
    (tPlace Tryd.prog 62 5 = some (8, 1)) :=
  ⟨by kernel_rfl, by kernel_rfl, by kernel_rfl, by kernel_rfl, by kernel_rfl, by kernel_rfl, by kernel_rfl, by kernel_rfl, by kernel_rfl, by kernel_rfl, by kernel_rfl, by kernel_rfl, by kernel_rfl, by kernel_rfl, by kernel_rfl, by kernel_rfl, by kernel_rfl, by kernel_rfl, by kernel_rfl⟩
theorem ty63 : (tAgg Tryd.prog 63 = some true) ∧
    (tSize Tryd.prog 63 = some 9) ∧
    (tBytes Tryd.prog 63 = some 96) ∧
    (tZero Tryd.prog 63 = some [.d (.int .i64 0), .d (.int .i64 0), .d (.int .i64 0), .d (.int .i64 0), .d (.int .i64 0), .d (.str []), .d .snil, .d (.int .i64 0), .mnil]) ∧
    (tSlice Tryd.prog 63 = none) ∧
    (tArr Tryd.prog 63 = none) ∧
    (tParts Tryd.prog 63 = true) ∧
    (tField Tryd.prog 63 0 = some (0, 3)) ∧
    (tPlace Tryd.prog 63 0 = some (0, 1)) ∧
    (tField Tryd.prog 63 1 = some (1, 45)) ∧
    (tPlace Tryd.prog 63 1 = some (1, 4)) ∧
    (tField Tryd.prog 63 2 = some (5, 9)) ∧
    (tPlace Tryd.prog 63 2 = some (5, 1)) ∧
    (tField Tryd.prog 63 3 = some (6, 30)) ∧
    (tPlace Tryd.prog 63 3 = some (6, 1)) ∧
    (tField Tryd.prog 63 4 = some (7, 3)) ∧
    (tPlace Tryd.prog 63 4 = some (7, 1)) ∧
    (tField Tryd.prog 63 5 = some (8, 61)) ∧
    (tPlace Tryd.prog 63 5 = some (8, 1)) :=
  ⟨by kernel_rfl, by kernel_rfl, by kernel_rfl, by kernel_rfl, by kernel_rfl, by kernel_rfl, by kernel_rfl, by kernel_rfl, by kernel_rfl, by kernel_rfl, by kernel_rfl, by kernel_rfl, by kernel_rfl, by kernel_rfl, by kernel_rfl, by kernel_rfl, by kernel_rfl, by kernel_rfl, by kernel_rfl⟩
theorem ty64 : (tAgg Tryd.prog 64 = some false) ∧
    (tSize Tryd.prog 64 = some 1) ∧
    (tBytes Tryd.prog 64 = some 8) ∧
    (tZero Tryd.prog 64 = some [.fnil]) ∧
    (tSlice Tryd.prog 64 = none) ∧
    (tArr Tryd.prog 64 = none) ∧
    (isFn Tryd.prog 64 = true) :=
  ⟨by kernel_rfl, by kernel_rfl, by kernel_rfl, by kernel_rfl, by kernel_rfl, by kernel_rfl, by kernel_rfl⟩
theorem ty65 : (tAgg Tryd.prog 65 = some false) ∧
    (tSize Tryd.prog 65 = some 1) ∧
    (tBytes Tryd.prog 65 = some 8) ∧
    (tZero Tryd.prog 65 = some [.fnil]) ∧
    (tSlice Tryd.prog 65 = none) ∧
    (tArr Tryd.prog 65 = none) ∧
    (isFn Tryd.prog 65 = true) :=
  ⟨by kernel_rfl, by kernel_rfl, by kernel_rfl, by kernel_rfl, by kernel_rfl, by kernel_rfl, by kernel_rfl⟩
theorem ty66 : (tAgg Tryd.prog 66 = some false) ∧
    (tSize Tryd.prog 66 = some 1) ∧
    (tBytes Tryd.prog 66 = some 8) ∧
    (tZero Tryd.prog 66 = some [.fnil]) ∧
    (tSlice Tryd.prog 66 = none) ∧
    (tArr Tryd.prog 66 = none) ∧
    (isFn Tryd.prog 66 = true) :=
  ⟨by kernel_rfl, by kernel_rfl, by kernel_rfl, by kernel_rfl, by kernel_rfl, by kernel_rfl, by kernel_rfl⟩
theorem ty67 : (tAgg Tryd.prog 67 = some false) ∧
    (tSize Tryd.prog 67 = some 1) ∧
    (tBytes Tryd.prog 67 = some 8) ∧
    (tZero Tryd.prog 67 = some [.fnil]) ∧
    (tSlice Tryd.prog 67 = none) ∧
    (tArr Tryd.prog 67 = none) ∧
    (isFn Tryd.prog 67 = true) :=
  ⟨by kernel_rfl, by kernel_rfl, by kernel_rfl, by kernel_rfl, by kernel_rfl, by kernel_rfl, by kernel_rfl⟩
theorem ty68 : (tAgg Tryd.prog 68 = some false) ∧
    (tSize Tryd.prog 68 = some 1) ∧
    (tBytes Tryd.prog 68 = some 8) ∧
    (tZero Tryd.prog 68 = some [.fnil]) ∧
    (tSlice Tryd.prog 68 = none) ∧
    (tArr Tryd.prog 68 = none) ∧
    (isFn Tryd.prog 68 = true) :=
  ⟨by kernel_rfl, by kernel_rfl, by kernel_rfl, by kernel_rfl, by kernel_rfl, by kernel_rfl, by kernel_rfl⟩
theorem ty69 : (tAgg Tryd.prog 69 = some false) ∧
    (tSize Tryd.prog 69 = some 1) ∧
    (tBytes Tryd.prog 69 = some 8) ∧
    (tZero Tryd.prog 69 = some [.fnil]) ∧
    (tSlice Tryd.prog 69 = none) ∧
    (tArr Tryd.prog 69 = none) ∧
    (isFn Tryd.prog 69 = true) :=
  ⟨by kernel_rfl, by kernel_rfl, by kernel_rfl, by kernel_rfl, by kernel_rfl, by kernel_rfl, by kernel_rfl⟩
theorem ty70 : (tAgg Tryd.prog 70 = some false) ∧
    (tSize Tryd.prog 70 = some 1) ∧
    (tBytes Tryd.prog 70 = some 8) ∧
    (tZero Tryd.prog 70 = some [.fnil]) ∧
    (tSlice Tryd.prog 70 = none) ∧
    (tArr Tryd.prog 70 = none) ∧
    (isFn Tryd.prog 70 = true) :=
  ⟨by kernel_rfl, by kernel_rfl, by kernel_rfl, by kernel_rfl, by kernel_rfl, by kernel_rfl, by kernel_rfl⟩
theorem ty71 : (tAgg Tryd.prog 71 = some false) ∧
    (tSize Tryd.prog 71 = some 1) ∧
    (tBytes Tryd.prog 71 = some 8) ∧
    (tZero Tryd.prog 71 = some [.mnil]) ∧
    (tSlice Tryd.prog 71 = none) ∧
    (tArr Tryd.prog 71 = none) ∧
    (isMap Tryd.prog 71 = true) ∧
    (Tryd.prog.underlying 71 = some (.map 41 41)) :=
  ⟨by kernel_rfl, by kernel_rfl, by kernel_rfl, by kernel_rfl, by kernel_rfl, by kernel_rfl, by kernel_rfl, by kernel_rfl⟩
theorem ty72 : (tAgg Tryd.prog 72 = some false) ∧
    (tSize Tryd.prog 72 = some 1) ∧
    (tBytes Tryd.prog 72 = some 8) ∧
    (tZero Tryd.prog 72 = some [.fnil]) ∧
    (tSlice Tryd.prog 72 = none) ∧
    (tArr Tryd.prog 72 = none) ∧
    (isFn Tryd.prog 72 = true) :=
  ⟨by kernel_rfl, by kernel_rfl, by kernel_rfl, by kernel_rfl, by kernel_rfl, by kernel_rfl, by kernel_rfl⟩
theorem ty73 : (tAgg Tryd.prog 73 = some false) ∧
    (tSize Tryd.prog 73 = some 1) ∧
    (tBytes Tryd.prog 73 = some 8) ∧
    (tZero Tryd.prog 73 = some [.fnil]) ∧
    (tSlice Tryd.prog 73 = none) ∧
    (tArr Tryd.prog 73 = none) ∧
    (isFn Tryd.prog 73 = true) :=
  ⟨by kernel_rfl, by kernel_rfl, by kernel_rfl, by kernel_rfl, by kernel_rfl, by kernel_rfl, by kernel_rfl⟩
theorem ty75 : (tAgg Tryd.prog 75 = some false) ∧
    (tSize Tryd.prog 75 = some 1) ∧
    (tBytes Tryd.prog 75 = some 8) ∧
    (tZero Tryd.prog 75 = some [.fnil]) ∧
    (tSlice Tryd.prog 75 = none) ∧
    (tArr Tryd.prog 75 = none) ∧
    (isFn Tryd.prog 75 = true) :=
  ⟨by kernel_rfl, by kernel_rfl, by kernel_rfl, by kernel_rfl, by kernel_rfl, by kernel_rfl, by kernel_rfl⟩
theorem ty76 : (tAgg Tryd.prog 76 = some false) ∧
    (tSize Tryd.prog 76 = some 1) ∧
    (tBytes Tryd.prog 76 = some 8) ∧
    (tZero Tryd.prog 76 = some [.fnil]) ∧
    (tSlice Tryd.prog 76 = none) ∧
    (tArr Tryd.prog 76 = none) ∧
    (isFn Tryd.prog 76 = true) :=
  ⟨by kernel_rfl, by kernel_rfl, by kernel_rfl, by kernel_rfl, by kernel_rfl, by kernel_rfl, by kernel_rfl⟩
theorem ty77 : (tAgg Tryd.prog 77 = some false) ∧
    (tSize Tryd.prog 77 = some 1) ∧
    (tBytes Tryd.prog 77 = some 8) ∧
    (tZero Tryd.prog 77 = some [.fnil]) ∧
    (tSlice Tryd.prog 77 = none) ∧
    (tArr Tryd.prog 77 = none) ∧
    (isFn Tryd.prog 77 = true) :=
  ⟨by kernel_rfl, by kernel_rfl, by kernel_rfl, by kernel_rfl, by kernel_rfl, by kernel_rfl, by kernel_rfl⟩
theorem ty78 : (tAgg Tryd.prog 78 = some false) ∧
    (tSize Tryd.prog 78 = some 1) ∧
    (tBytes Tryd.prog 78 = some 8) ∧
    (tZero Tryd.prog 78 = some [.fnil]) ∧
    (tSlice Tryd.prog 78 = none) ∧
    (tArr Tryd.prog 78 = none) ∧
    (isFn Tryd.prog 78 = true) :=
  ⟨by kernel_rfl, by kernel_rfl, by kernel_rfl, by kernel_rfl, by kernel_rfl, by kernel_rfl, by kernel_rfl⟩
theorem ty80 : (tAgg Tryd.prog 80 = some false) ∧
    (tSize Tryd.prog 80 = some 1) ∧
    (tBytes Tryd.prog 80 = some 8) ∧
    (tZero Tryd.prog 80 = some [.fnil]) ∧
    (tSlice Tryd.prog 80 = none) ∧
    (tArr Tryd.prog 80 = none) ∧
    (isFn Tryd.prog 80 = true) :=
  ⟨by kernel_rfl, by kernel_rfl, by kernel_rfl, by kernel_rfl, by kernel_rfl, by kernel_rfl, by kernel_rfl⟩
theorem ty81 : (tAgg Tryd.prog 81 = some false) ∧
    (tSize Tryd.prog 81 = some 1) ∧
    (tBytes Tryd.prog 81 = some 8) ∧
    (tZero Tryd.prog 81 = some [.fnil]) ∧
    (tSlice Tryd.prog 81 = none) ∧
    (tArr Tryd.prog 81 = none) ∧
    (isFn Tryd.prog 81 = true) :=
  ⟨by kernel_rfl, by kernel_rfl, by kernel_rfl, by kernel_rfl, by kernel_rfl, by kernel_rfl, by kernel_rfl⟩
theorem ty82 : (tAgg Tryd.prog 82 = some false) ∧
    (tSize Tryd.prog 82 = some 1) ∧
    (tBytes Tryd.prog 82 = some 8) ∧
    (tZero Tryd.prog 82 = some [.fnil]) ∧
    (tSlice Tryd.prog 82 = none) ∧
    (tArr Tryd.prog 82 = none) ∧
    (isFn Tryd.prog 82 = true) :=
  ⟨by kernel_rfl, by kernel_rfl, by kernel_rfl, by kernel_rfl, by kernel_rfl, by kernel_rfl, by kernel_rfl⟩
theorem ty83 : (tAgg Tryd.prog 83 = some false) ∧
    (tSize Tryd.prog 83 = some 1) ∧
    (tBytes Tryd.prog 83 = some 8) ∧
    (tZero Tryd.prog 83 = some [.fnil]) ∧
    (tSlice Tryd.prog 83 = none) ∧
    (tArr Tryd.prog 83 = none) ∧
    (isFn Tryd.prog 83 = true) :=
  ⟨by kernel_rfl, by kernel_rfl, by kernel_rfl, by kernel_rfl, by kernel_rfl, by kernel_rfl, by kernel_rfl⟩
theorem ty84 : (tAgg Tryd.prog 84 = some false) ∧
    (tSize Tryd.prog 84 = some 1) ∧
    (tBytes Tryd.prog 84 = some 8) ∧
    (tZero Tryd.prog 84 = some [.fnil]) ∧
    (tSlice Tryd.prog 84 = none) ∧
    (tArr Tryd.prog 84 = none) ∧
    (isFn Tryd.prog 84 = true) :=
  ⟨by kernel_rfl, by kernel_rfl, by kernel_rfl, by kernel_rfl, by kernel_rfl, by kernel_rfl, by kernel_rfl⟩
theorem ty85 : (tAgg Tryd.prog 85 = some false) ∧
    (tSize Tryd.prog 85 = some 1) ∧
    (tBytes Tryd.prog 85 = some 8) ∧
    (tZero Tryd.prog 85 = some [.fnil]) ∧
    (tSlice Tryd.prog 85 = none) ∧
    (tArr Tryd.prog 85 = none) ∧
    (isFn Tryd.prog 85 = true) :=
  ⟨by kernel_rfl, by kernel_rfl, by kernel_rfl, by kernel_rfl, by kernel_rfl, by kernel_rfl, by kernel_rfl⟩
theorem ty86 : (tAgg Tryd.prog 86 = some false) ∧
    (tSize Tryd.prog 86 = some 1) ∧
    (tBytes Tryd.prog 86 = some 8) ∧
    (tZero Tryd.prog 86 = some [.fnil]) ∧
    (tSlice Tryd.prog 86 = none) ∧
    (tArr Tryd.prog 86 = none) ∧
    (isFn Tryd.prog 86 = true) :=
  ⟨by kernel_rfl, by kernel_rfl, by kernel_rfl, by kernel_rfl, by kernel_rfl, by kernel_rfl, by kernel_rfl⟩
theorem ty87 : (tAgg Tryd.prog 87 = some false) ∧
    (tSize Tryd.prog 87 = some 1) ∧
    (tBytes Tryd.prog 87 = some 8) ∧
    (tZero Tryd.prog 87 = some [.fnil]) ∧
    (tSlice Tryd.prog 87 = none) ∧
    (tArr Tryd.prog 87 = none) ∧
    (isFn Tryd.prog 87 = true) :=
  ⟨by kernel_rfl, by kernel_rfl, by kernel_rfl, by kernel_rfl, by kernel_rfl, by kernel_rfl, by kernel_rfl⟩
theorem ty88 : (tAgg Tryd.prog 88 = some false) ∧
    (tSize Tryd.prog 88 = some 1) ∧
    (tBytes Tryd.prog 88 = some 8) ∧
    (tZero Tryd.prog 88 = some [.fnil]) ∧
    (tSlice Tryd.prog 88 = none) ∧
    (tArr Tryd.prog 88 = none) ∧
    (isFn Tryd.prog 88 = true) :=
  ⟨by kernel_rfl, by kernel_rfl, by kernel_rfl, by kernel_rfl, by kernel_rfl, by kernel_rfl, by kernel_rfl⟩
theorem ty89 : (tAgg Tryd.prog 89 = some false) ∧
    (tSize Tryd.prog 89 = some 1) ∧
    (tBytes Tryd.prog 89 = some 8) ∧
    (tZero Tryd.prog 89 = some [.d (.int .u64 0)]) ∧
    (tSlice Tryd.prog 89 = none) ∧
    (tArr Tryd.prog 89 = none) ∧
    (Tryd.prog.underlying 89 = some (.int .u64)) :=
  ⟨by kernel_rfl, by kernel_rfl, by kernel_rfl, by kernel_rfl, by kernel_rfl, by kernel_rfl, by kernel_rfl⟩
theorem ty90 : (tAgg Tryd.prog 90 = some false) ∧
    (tSize Tryd.prog 90 = some 1) ∧
    (tBytes Tryd.prog 90 = some 8) ∧
    (tZero Tryd.prog 90 = some [.fnil]) ∧
    (tSlice Tryd.prog 90 = none) ∧
    (tArr Tryd.prog 90 = none) ∧
    (isFn Tryd.prog 90 = true) :=
  ⟨by kernel_rfl, by kernel_rfl, by kernel_rfl, by kernel_rfl, by kernel_rfl, by kernel_rfl, by kernel_rfl⟩
theorem ty92 : (tAgg Tryd.prog 92 = some false) ∧
    (tSize Tryd.prog 92 = some 1) ∧
    (tBytes Tryd.prog 92 = some 8) ∧
    (tZero Tryd.prog 92 = some [.fnil]) ∧
    (tSlice Tryd.prog 92 = none) ∧
    (tArr Tryd.prog 92 = none) ∧
    (isFn Tryd.prog 92 = true) :=
  ⟨by kernel_rfl, by kernel_rfl, by kernel_rfl, by kernel_rfl, by kernel_rfl, by kernel_rfl, by kernel_rfl⟩
theorem ty93 : (tAgg Tryd.prog 93 = some false) ∧
    (tSize Tryd.prog 93 = some 1) ∧
    (tBytes Tryd.prog 93 = some 8) ∧
    (tZero Tryd.prog 93 = some [.fnil]) ∧
    (tSlice Tryd.prog 93 = none) ∧
    (tArr Tryd.prog 93 = none) ∧
    (isFn Tryd.prog 93 = true) :=
  ⟨by kernel_rfl, by kernel_rfl, by kernel_rfl, by kernel_rfl, by kernel_rfl, by kernel_rfl, by kernel_rfl⟩
theorem ty94 : (tAgg Tryd.prog 94 = some false) ∧
    (tSize Tryd.prog 94 = some 1) ∧
    (tBytes Tryd.prog 94 = some 8) ∧
    (tZero Tryd.prog 94 = some [.fnil]) ∧
    (tSlice Tryd.prog 94 = none) ∧
    (tArr Tryd.prog 94 = none) ∧
    (isFn Tryd.prog 94 = true) :=
  ⟨by kernel_rfl, by kernel_rfl, by kernel_rfl, by kernel_rfl, by kernel_rfl, by kernel_rfl, by kernel_rfl⟩
theorem ty95 : (tAgg Tryd.prog 95 = some false) ∧
    (tSize Tryd.prog 95 = some 1) ∧
    (tBytes Tryd.prog 95 = some 8) ∧
    (tZero Tryd.prog 95 = some [.d (.int .i64 0)]) ∧
    (tSlice Tryd.prog 95 = none) ∧
    (tArr Tryd.prog 95 = none) ∧
    (Tryd.prog.underlying 95 = some (.int .i64)) :=
  ⟨by kernel_rfl, by kernel_rfl, by kernel_rfl, by kernel_rfl, by kernel_rfl, by kernel_rfl, by kernel_rfl⟩
theorem ty97 : (tAgg Tryd.prog 97 = some false) ∧
    (tSize Tryd.prog 97 = some 1) ∧
    (tBytes Tryd.prog 97 = some 8) ∧
    (tZero Tryd.prog 97 = some [.fnil]) ∧
    (tSlice Tryd.prog 97 = none) ∧
    (tArr Tryd.prog 97 = none) ∧
    (isFn Tryd.prog 97 = true) :=
  ⟨by kernel_rfl, by kernel_rfl, by kernel_rfl, by kernel_rfl, by kernel_rfl, by kernel_rfl, by kernel_rfl⟩
theorem ty98 : (tAgg Tryd.prog 98 = some false) ∧
    (tSize Tryd.prog 98 = some 1) ∧
    (tBytes Tryd.prog 98 = some 8) ∧
    (tZero Tryd.prog 98 = some [.fnil]) ∧
    (tSlice Tryd.prog 98 = none) ∧
    (tArr Tryd.prog 98 = none) ∧
    (isFn Tryd.prog 98 = true) :=
  ⟨by kernel_rfl, by kernel_rfl, by kernel_rfl, by kernel_rfl, by kernel_rfl, by kernel_rfl, by kernel_rfl⟩
theorem ty99 : (tAgg Tryd.prog 99 = some false) ∧
    (tSize Tryd.prog 99 = some 1) ∧
    (tBytes Tryd.prog 99 = some 8) ∧
    (tZero Tryd.prog 99 = some [.fnil]) ∧
    (tSlice Tryd.prog 99 = none) ∧
    (tArr Tryd.prog 99 = none) ∧
    (isFn Tryd.prog 99 = true) :=
  ⟨by kernel_rfl, by kernel_rfl, by kernel_rfl, by kernel_rfl, by kernel_rfl, by kernel_rfl, by kernel_rfl⟩
theorem ty101 : (tAgg Tryd.prog 101 = some false) ∧
    (tSize Tryd.prog 101 = some 1) ∧
    (tBytes Tryd.prog 101 = some 8) ∧
    (tZero Tryd.prog 101 = some [.fnil]) ∧
    (tSlice Tryd.prog 101 = none) ∧
    (tArr Tryd.prog 101 = none) ∧
    (isFn Tryd.prog 101 = true) :=
  ⟨by kernel_rfl, by kernel_rfl, by kernel_rfl, by kernel_rfl, by kernel_rfl, by kernel_rfl, by kernel_rfl⟩
theorem ty102 : (tAgg Tryd.prog 102 = some false) ∧
    (tSize Tryd.prog 102 = some 1) ∧
    (tBytes Tryd.prog 102 = some 8) ∧
    (tZero Tryd.prog 102 = some [.fnil]) ∧
    (tSlice Tryd.prog 102 = none) ∧
    (tArr Tryd.prog 102 = none) ∧
    (isFn Tryd.prog 102 = true) :=
  ⟨by kernel_rfl, by kernel_rfl, by kernel_rfl, by kernel_rfl, by kernel_rfl, by kernel_rfl, by kernel_rfl⟩
theorem ty103 : (tAgg Tryd.prog 103 = some false) ∧
    (tSize Tryd.prog 103 = some 1) ∧
    (tBytes Tryd.prog 103 = some 4) ∧
    (tZero Tryd.prog 103 = some [.d (.int .u32 0)]) ∧
    (tSlice Tryd.prog 103 = none) ∧
    (tArr Tryd.prog 103 = none) ∧
    (Tryd.prog.underlying 103 = some (.int .u32)) :=
  ⟨by kernel_rfl, by kernel_rfl, by kernel_rfl, by kernel_rfl, by kernel_rfl, by kernel_rfl, by kernel_rfl⟩
theorem ty104 : (tAgg Tryd.prog 104 = some false) ∧
    (tSize Tryd.prog 104 = some 1) ∧
    (tBytes Tryd.prog 104 = some 8) ∧
    (tZero Tryd.prog 104 = some [.fnil]) ∧
    (tSlice Tryd.prog 104 = none) ∧
    (tArr Tryd.prog 104 = none) ∧
    (isFn Tryd.prog 104 = true) :=
  ⟨by kernel_rfl, by kernel_rfl, by kernel_rfl, by kernel_rfl, by kernel_rfl, by kernel_rfl, by kernel_rfl⟩
theorem ty105 : (tAgg Tryd.prog 105 = some false) ∧
    (tSize Tryd.prog 105 = some 1) ∧
    (tBytes Tryd.prog 105 = some 8) ∧
    (tZero Tryd.prog 105 = some [.d (.int .u64 0)]) ∧
    (tSlice Tryd.prog 105 = none) ∧
    (tArr Tryd.prog 105 = none) ∧
    (Tryd.prog.underlying 105 = some (.int .u64)) :=
  ⟨by kernel_rfl, by kernel_rfl, by kernel_rfl, by kernel_rfl, by kernel_rfl, by kernel_rfl, by kernel_rfl⟩
theorem ty106 : (tAgg Tryd.prog 106 = some false) ∧
    (tSize Tryd.prog 106 = some 1) ∧
    (tBytes Tryd.prog 106 = some 8) ∧
    (tZero Tryd.prog 106 = some [.fnil]) ∧
    (tSlice Tryd.prog 106 = none) ∧
    (tArr Tryd.prog 106 = none) ∧
    (isFn Tryd.prog 106 = true) :=
  ⟨by kernel_rfl, by kernel_rfl, by kernel_rfl, by kernel_rfl, by kernel_rfl, by kernel_rfl, by kernel_rfl⟩
theorem ty108 : (tAgg Tryd.prog 108 = some false) ∧
    (tSize Tryd.prog 108 = some 1) ∧
    (tBytes Tryd.prog 108 = some 8) ∧
    (tZero Tryd.prog 108 = some [.fnil]) ∧
    (tSlice Tryd.prog 108 = none) ∧
    (tArr Tryd.prog 108 = none) ∧
    (isFn Tryd.prog 108 = true) :=
  ⟨by kernel_rfl, by kernel_rfl, by kernel_rfl, by kernel_rfl, by kernel_rfl, by kernel_rfl, by kernel_rfl⟩
theorem ty109 : (tAgg Tryd.prog 109 = some false) ∧
    (tSize Tryd.prog 109 = some 1) ∧
    (tBytes Tryd.prog 109 = some 8) ∧
    (tZero Tryd.prog 109 = some [.d (.int .u64 0)]) ∧
    (tSlice Tryd.prog 109 = none) ∧
    (tArr Tryd.prog 109 = none) ∧
    (Tryd.prog.underlying 109 = some (.int .u64)) :=
  ⟨by kernel_rfl, by kernel_rfl, by kernel_rfl, by kernel_rfl, by kernel_rfl, by kernel_rfl, by kernel_rfl⟩
theorem ty110 : (tAgg Tryd.prog 110 = some false) ∧
    (tSize Tryd.prog 110 = some 1) ∧
    (tBytes Tryd.prog 110 = some 8) ∧
    (tZero Tryd.prog 110 = some [.fnil]) ∧
    (tSlice Tryd.prog 110 = none) ∧
    (tArr Tryd.prog 110 = none) ∧
    (isFn Tryd.prog 110 = true) :=
  ⟨by kernel_rfl, by kernel_rfl, by kernel_rfl, by kernel_rfl, by kernel_rfl, by kernel_rfl, by kernel_rfl⟩
theorem ty111 : (tAgg Tryd.prog 111 = some false) ∧
    (tSize Tryd.prog 111 = some 1) ∧
    (tBytes Tryd.prog 111 = some 8) ∧
    (tZero Tryd.prog 111 = some [.fnil]) ∧
    (tSlice Tryd.prog 111 = none) ∧
    (tArr Tryd.prog 111 = none) ∧
    (isFn Tryd.prog 111 = true) :=
  ⟨by kernel_rfl, by kernel_rfl, by kernel_rfl, by kernel_rfl, by kernel_rfl, by kernel_rfl, by kernel_rfl⟩
theorem ty112 : (tAgg Tryd.prog 112 = some false) ∧
    (tSize Tryd.prog 112 = some 1) ∧
    (tBytes Tryd.prog 112 = some 8) ∧
    (tZero Tryd.prog 112 = some [.fnil]) ∧
    (tSlice Tryd.prog 112 = none) ∧
    (tArr Tryd.prog 112 = none) ∧
    (isFn Tryd.prog 112 = true) :=
  ⟨by kernel_rfl, by kernel_rfl, by kernel_rfl, by kernel_rfl, by kernel_rfl, by kernel_rfl, by kernel_rfl⟩
theorem ty113 : (tAgg Tryd.prog 113 = some false) ∧
    (tSize Tryd.prog 113 = some 1) ∧
    (tBytes Tryd.prog 113 = some 8) ∧
    (tZero Tryd.prog 113 = some [.pnil]) ∧
    (tSlice Tryd.prog 113 = none) ∧
    (tArr Tryd.prog 113 = none) ∧
    (isPtr Tryd.prog 113 = true) ∧
    (tPtr Tryd.prog 113 = some 3) ∧
    (Tryd.prog.underlying 113 = some (.pointer 3)) :=
  ⟨by kernel_rfl, by kernel_rfl, by kernel_rfl, by kernel_rfl, by kernel_rfl, by kernel_rfl, by kernel_rfl, by kernel_rfl, by kernel_rfl⟩
theorem ty114 : (tAgg Tryd.prog 114 = some false) ∧
    (tSize Tryd.prog 114 = some 1) ∧
    (tBytes Tryd.prog 114 = some 8) ∧
    (tZero Tryd.prog 114 = some [.fnil]) ∧
    (tSlice Tryd.prog 114 = none) ∧
    (tArr Tryd.prog 114 = none) ∧
    (isFn Tryd.prog 114 = true) :=
  ⟨by kernel_rfl, by kernel_rfl, by kernel_rfl, by kernel_rfl, by kernel_rfl, by kernel_rfl, by kernel_rfl⟩
theorem ty116 : (tAgg Tryd.prog 116 = some false) ∧
    (tSize Tryd.prog 116 = some 1) ∧
    (tBytes Tryd.prog 116 = some 8) ∧
    (tZero Tryd.prog 116 = some [.fnil]) ∧
    (tSlice Tryd.prog 116 = none) ∧
    (tArr Tryd.prog 116 = none) ∧
    (isFn Tryd.prog 116 = true) :=
  ⟨by kernel_rfl, by kernel_rfl, by kernel_rfl, by kernel_rfl, by kernel_rfl, by kernel_rfl, by kernel_rfl⟩
theorem ty117 : (tAgg Tryd.prog 117 = some false) ∧
    (tSize Tryd.prog 117 = some 1) ∧
    (tBytes Tryd.prog 117 = some 8) ∧
    (tZero Tryd.prog 117 = some [.fnil]) ∧
    (tSlice Tryd.prog 117 = none) ∧
    (tArr Tryd.prog 117 = none) ∧
    (isFn Tryd.prog 117 = true) :=
  ⟨by kernel_rfl, by kernel_rfl, by kernel_rfl, by kernel_rfl, by kernel_rfl, by kernel_rfl, by kernel_rfl⟩
theorem ty118 : (tAgg Tryd.prog 118 = some false) ∧
    (tSize Tryd.prog 118 = some 1) ∧
    (tBytes Tryd.prog 118 = some 8) ∧
    (tZero Tryd.prog 118 = some [.fnil]) ∧
    (tSlice Tryd.prog 118 = none) ∧
    (tArr Tryd.prog 118 = none) ∧
    (isFn Tryd.prog 118 = true) :=
  ⟨by kernel_rfl, by kernel_rfl, by kernel_rfl, by kernel_rfl, by kernel_rfl, by kernel_rfl, by kernel_rfl⟩
theorem ty119 : (tAgg Tryd.prog 119 = some false) ∧
    (tSize Tryd.prog 119 = some 1) ∧
    (tBytes Tryd.prog 119 = some 8) ∧
    (tZero Tryd.prog 119 = some [.fnil]) ∧
    (tSlice Tryd.prog 119 = none) ∧
    (tArr Tryd.prog 119 = none) ∧
    (isFn Tryd.prog 119 = true) :=
  ⟨by kernel_rfl, by kernel_rfl, by kernel_rfl, by kernel_rfl, by kernel_rfl, by kernel_rfl, by kernel_rfl⟩
theorem ty120 : (tAgg Tryd.prog 120 = some true) ∧
    (tSize Tryd.prog 120 = some 256) ∧
    (tBytes Tryd.prog 120 = some 256) ∧
    (tSlice Tryd.prog 120 = none) ∧
    (tArr Tryd.prog 120 = some (256, 4)) ∧
    (tParts Tryd.prog 120 = true) ∧
    (tPlace Tryd.prog 120 0 = some (0, 1)) ∧
    (tPlace Tryd.prog 120 1 = some (1, 1)) ∧
    (tPlace Tryd.prog 120 2 = some (2, 1)) ∧
    (tPlace Tryd.prog 120 3 = some (3, 1)) ∧
    (tPlace Tryd.prog 120 4 = some (4, 1)) ∧
    (tPlace Tryd.prog 120 5 = some (5, 1)) ∧
    (tPlace Tryd.prog 120 6 = some (6, 1)) ∧
    (tPlace Tryd.prog 120 7 = some (7, 1)) ∧
    (tPlace Tryd.prog 120 8 = some (8, 1)) ∧
    (tPlace Tryd.prog 120 9 = some (9, 1)) ∧
    (tPlace Tryd.prog 120 10 = some (10, 1)) ∧
    (tPlace Tryd.prog 120 11 = some (11, 1)) ∧
    (tPlace Tryd.prog 120 12 = some (12, 1)) ∧
    (tPlace Tryd.prog 120 13 = some (13, 1)) ∧
    (tPlace Tryd.prog 120 14 = some (14, 1)) ∧
    (tPlace Tryd.prog 120 15 = some (15, 1)) ∧
    (tPlace Tryd.prog 120 16 = some (16, 1)) ∧
    (tPlace Tryd.prog 120 17 = some (17, 1)) ∧
    (tPlace Tryd.prog 120 18 = some (18, 1)) ∧
    (tPlace Tryd.prog 120 19 = some (19, 1)) ∧
    (tPlace Tryd.prog 120 20 = some (20, 1)) ∧
    (tPlace Tryd.prog 120 21 = some (21, 1)) ∧
    (tPlace Tryd.prog 120 22 = some (22, 1)) ∧
    (tPlace Tryd.prog 120 23 = some (23, 1)) ∧
    (tPlace Tryd.prog 120 24 = some (24, 1)) ∧
    (tPlace Tryd.prog 120 25 = some (25, 1)) ∧
    (tPlace Tryd.prog 120 26 = some (26, 1)) ∧
    (tPlace Tryd.prog 120 27 = some (27, 1)) ∧
    (tPlace Tryd.prog 120 28 = some (28, 1)) ∧
    (tPlace Tryd.prog 120 29 = some (29, 1)) ∧
    (tPlace Tryd.prog 120 30 = some (30, 1)) ∧
    (tPlace Tryd.prog 120 31 = some (31, 1)) ∧
    (tPlace Tryd.prog 120 32 = some (32, 1)) ∧
    (tPlace Tryd.prog 120 33 = some (33, 1)) ∧
    (tPlace Tryd.prog 120 34 = some (34, 1)) ∧
    (tPlace Tryd.prog 120 35 = some (35, 1)) ∧
    (tPlace Tryd.prog 120 36 = some (36, 1)) ∧
    (tPlace Tryd.prog 120 37 = some (37, 1)) ∧
    (tPlace Tryd.prog 120 38 = some (38, 1)) ∧
    (tPlace Tryd.prog 120 39 = some (39, 1)) ∧
    (Tryd.prog.underlying 120 = some (.array 256 4)) :=
  ⟨by kernel_rfl, by kernel_rfl, by kernel_rfl, by kernel_rfl, by kernel_rfl, by kernel_rfl, by kernel_rfl, by kernel_rfl, by kernel_rfl, by kernel_rfl, by kernel_rfl, by kernel_rfl, by kernel_rfl, by kernel_rfl, by kernel_rfl, by kernel_rfl, by kernel_rfl, by kernel_rfl, by kernel_rfl, by kernel_rfl, by kernel_rfl, by kernel_rfl, by kernel_rfl, by kernel_rfl, by kernel_rfl, by kernel_rfl, by kernel_rfl, by kernel_rfl, by kernel_rfl, by kernel_rfl, by kernel_rfl, by kernel_rfl, by kernel_rfl, by kernel_rfl, by kernel_rfl, by kernel_rfl, by kernel_rfl, by kernel_rfl, by kernel_rfl, by kernel_rfl, by kernel_rfl, by kernel_rfl, by kernel_rfl, by kernel_rfl, by kernel_rfl, by kernel_rfl, by kernel_rfl⟩
theorem ty121 : (tAgg Tryd.prog 121 = some true) ∧
    (tSize Tryd.prog 121 = some 256) ∧
    (tBytes Tryd.prog 121 = some 256) ∧
    (tSlice Tryd.prog 121 = none) ∧
    (tArr Tryd.prog 121 = some (256, 4)) ∧
    (tParts Tryd.prog 121 = true) ∧
    (tPlace Tryd.prog 121 0 = some (0, 1)) ∧
    (tPlace Tryd.prog 121 1 = some (1, 1)) ∧
    (tPlace Tryd.prog 121 2 = some (2, 1)) ∧
    (tPlace Tryd.prog 121 3 = some (3, 1)) ∧
    (tPlace Tryd.prog 121 4 = some (4, 1)) ∧
    (tPlace Tryd.prog 121 5 = some (5, 1)) ∧
    (tPlace Tryd.prog 121 6 = some (6, 1)) ∧
    (tPlace Tryd.prog 121 7 = some (7, 1)) ∧
    (tPlace Tryd.prog 121 8 = some (8, 1)) ∧
    (tPlace Tryd.prog 121 9 = some (9, 1)) ∧
    (tPlace Tryd.prog 121 10 = some (10, 1)) ∧
    (tPlace Tryd.prog 121 11 = some (11, 1)) ∧
    (tPlace Tryd.prog 121 12 = some (12, 1)) ∧
    (tPlace Tryd.prog 121 13 = some (13, 1)) ∧
    (tPlace Tryd.prog 121 14 = some (14, 1)) ∧
    (tPlace Tryd.prog 121 15 = some (15, 1)) ∧
    (tPlace Tryd.prog 121 16 = some (16, 1)) ∧
    (tPlace Tryd.prog 121 17 = some (17, 1)) ∧
    (tPlace Tryd.prog 121 18 = some (18, 1)) ∧
    (tPlace Tryd.prog 121 19 = some (19, 1)) ∧
    (tPlace Tryd.prog 121 20 = some (20, 1)) ∧
    (tPlace Tryd.prog 121 21 = some (21, 1)) ∧
    (tPlace Tryd.prog 121 22 = some (22, 1)) ∧
    (tPlace Tryd.prog 121 23 = some (23, 1)) ∧
    (tPlace Tryd.prog 121 24 = some (24, 1)) ∧
    (tPlace Tryd.prog 121 25 = some (25, 1)) ∧
    (tPlace Tryd.prog 121 26 = some (26, 1)) ∧
    (tPlace Tryd.prog 121 27 = some (27, 1)) ∧
    (tPlace Tryd.prog 121 28 = some (28, 1)) ∧
    (tPlace Tryd.prog 121 29 = some (29, 1)) ∧
    (tPlace Tryd.prog 121 30 = some (30, 1)) ∧
    (tPlace Tryd.prog 121 31 = some (31, 1)) ∧
    (tPlace Tryd.prog 121 32 = some (32, 1)) ∧
    (tPlace Tryd.prog 121 33 = some (33, 1)) ∧
    (tPlace Tryd.prog 121 34 = some (34, 1)) ∧
    (tPlace Tryd.prog 121 35 = some (35, 1)) ∧
    (tPlace Tryd.prog 121 36 = some (36, 1)) ∧
    (tPlace Tryd.prog 121 37 = some (37, 1)) ∧
    (tPlace Tryd.prog 121 38 = some (38, 1)) ∧
    (tPlace Tryd.prog 121 39 = some (39, 1)) ∧
    (Tryd.prog.underlying 121 = some (.array 256 4)) :=
  ⟨by kernel_rfl, by kernel_rfl, by kernel_rfl, by kernel_rfl, by kernel_rfl, by kernel_rfl, by kernel_rfl, by kernel_rfl, by kernel_rfl, by kernel_rfl, by kernel_rfl, by kernel_rfl, by kernel_rfl, by kernel_rfl, by kernel_rfl, by kernel_rfl, by kernel_rfl, by kernel_rfl, by kernel_rfl, by kernel_rfl, by kernel_rfl, by kernel_rfl, by kernel_rfl, by kernel_rfl, by kernel_rfl, by kernel_rfl, by kernel_rfl, by kernel_rfl, by kernel_rfl, by kernel_rfl, by kernel_rfl, by kernel_rfl, by kernel_rfl, by kernel_rfl, by kernel_rfl, by kernel_rfl, by kernel_rfl, by kernel_rfl, by kernel_rfl, by kernel_rfl, by kernel_rfl, by kernel_rfl, by kernel_rfl, by kernel_rfl, by kernel_rfl, by kernel_rfl, by kernel_rfl⟩
theorem ty123 : (tAgg Tryd.prog 123 = some false) ∧
    (tSize Tryd.prog 123 = some 1) ∧
    (tBytes Tryd.prog 123 = some 8) ∧
    (tZero Tryd.prog 123 = some [.fnil]) ∧
    (tSlice Tryd.prog 123 = none) ∧
    (tArr Tryd.prog 123 = none) ∧
    (isFn Tryd.prog 123 = true) :=
  ⟨by kernel_rfl, by kernel_rfl, by kernel_rfl, by kernel_rfl, by kernel_rfl, by kernel_rfl, by kernel_rfl⟩
theorem ty124 : (tAgg Tryd.prog 124 = some false) ∧
    (tSize Tryd.prog 124 = some 1) ∧
    (tBytes Tryd.prog 124 = some 8) ∧
    (tZero Tryd.prog 124 = some [.fnil]) ∧
    (tSlice Tryd.prog 124 = none) ∧
    (tArr Tryd.prog 124 = none) ∧
    (isFn Tryd.prog 124 = true) :=
  ⟨by kernel_rfl, by kernel_rfl, by kernel_rfl, by kernel_rfl, by kernel_rfl, by kernel_rfl, by kernel_rfl⟩
theorem ty125 : (tAgg Tryd.prog 125 = some false) ∧
    (tSize Tryd.prog 125 = some 1) ∧
    (tBytes Tryd.prog 125 = some 8) ∧
    (tZero Tryd.prog 125 = some [.pnil]) ∧
    (tSlice Tryd.prog 125 = none) ∧
    (tArr Tryd.prog 125 = none) ∧
    (isPtr Tryd.prog 125 = true) ∧
    (tPtr Tryd.prog 125 = some 109) ∧
    (Tryd.prog.underlying 125 = some (.pointer 109)) :=
  ⟨by kernel_rfl, by kernel_rfl, by kernel_rfl, by kernel_rfl, by kernel_rfl, by kernel_rfl, by kernel_rfl, by kernel_rfl, by kernel_rfl⟩
theorem ty126 : (tAgg Tryd.prog 126 = some false) ∧
    (tSize Tryd.prog 126 = some 1) ∧
    (tBytes Tryd.prog 126 = some 8) ∧
    (tZero Tryd.prog 126 = some [.fnil]) ∧
    (tSlice Tryd.prog 126 = none) ∧
    (tArr Tryd.prog 126 = none) ∧
    (isFn Tryd.prog 126 = true) :=
  ⟨by kernel_rfl, by kernel_rfl, by kernel_rfl, by kernel_rfl, by kernel_rfl, by kernel_rfl, by kernel_rfl⟩
theorem ty127 : (tAgg Tryd.prog 127 = some true) ∧
    (tSize Tryd.prog 127 = some 256) ∧
    (tBytes Tryd.prog 127 = some 256) ∧
    (tSlice Tryd.prog 127 = none) ∧
    (tArr Tryd.prog 127 = some (256, 5)) ∧
    (tParts Tryd.prog 127 = true) ∧
    (tPlace Tryd.prog 127 0 = some (0, 1)) ∧
    (tPlace Tryd.prog 127 1 = some (1, 1)) ∧
    (tPlace Tryd.prog 127 2 = some (2, 1)) ∧
    (tPlace Tryd.prog 127 3 = some (3, 1)) ∧
    (tPlace Tryd.prog 127 4 = some (4, 1)) ∧
    (tPlace Tryd.prog 127 5 = some (5, 1)) ∧
    (tPlace Tryd.prog 127 6 = some (6, 1)) ∧
    (tPlace Tryd.prog 127 7 = some (7, 1)) ∧
    (tPlace Tryd.prog 127 8 = some (8, 1)) ∧
    (tPlace Tryd.prog 127 9 = some (9, 1)) ∧
    (tPlace Tryd.prog 127 10 = some (10, 1)) ∧
    (tPlace Tryd.prog 127 11 = some (11, 1)) ∧
    (tPlace Tryd.prog 127 12 = some (12, 1)) ∧
    (tPlace Tryd.prog 127 13 = some (13, 1)) ∧
    (tPlace Tryd.prog 127 14 = some (14, 1)) ∧
    (tPlace Tryd.prog 127 15 = some (15, 1)) ∧
    (tPlace Tryd.prog 127 16 = some (16, 1)) ∧
    (tPlace Tryd.prog 127 17 = some (17, 1)) ∧
    (tPlace Tryd.prog 127 18 = some (18, 1)) ∧
    (tPlace Tryd.prog 127 19 = some (19, 1)) ∧
    (tPlace Tryd.prog 127 20 = some (20, 1)) ∧
    (tPlace Tryd.prog 127 21 = some (21, 1)) ∧
    (tPlace Tryd.prog 127 22 = some (22, 1)) ∧
    (tPlace Tryd.prog 127 23 = some (23, 1)) ∧
    (tPlace Tryd.prog 127 24 = some (24, 1)) ∧
    (tPlace Tryd.prog 127 25 = some (25, 1)) ∧
    (tPlace Tryd.prog 127 26 = some (26, 1)) ∧
    (tPlace Tryd.prog 127 27 = some (27, 1)) ∧
    (tPlace Tryd.prog 127 28 = some (28, 1)) ∧
    (tPlace Tryd.prog 127 29 = some (29, 1)) ∧
    (tPlace Tryd.prog 127 30 = some (30, 1)) ∧
    (tPlace Tryd.prog 127 31 = some (31, 1)) ∧
    (tPlace Tryd.prog 127 32 = some (32, 1)) ∧
    (tPlace Tryd.prog 127 33 = some (33, 1)) ∧
    (tPlace Tryd.prog 127 34 = some (34, 1)) ∧
    (tPlace Tryd.prog 127 35 = some (35, 1)) ∧
    (tPlace Tryd.prog 127 36 = some (36, 1)) ∧
    (tPlace Tryd.prog 127 37 = some (37, 1)) ∧
    (tPlace Tryd.prog 127 38 = some (38, 1)) ∧
    (tPlace Tryd.prog 127 39 = some (39, 1)) ∧
    (Tryd.prog.underlying 127 = some (.array 256 5)) :=
  ⟨by kernel_rfl, by kernel_rfl, by kernel_rfl, by kernel_rfl, by kernel_rfl, by kernel_rfl, by kernel_rfl, by kernel_rfl, by kernel_rfl, by kernel_rfl, by kernel_rfl, by kernel_rfl, by kernel_rfl, by kernel_rfl, by kernel_rfl, by kernel_rfl, by kernel_rfl, by kernel_rfl, by kernel_rfl, by kernel_rfl, by kernel_rfl, by kernel_rfl, by kernel_rfl, by kernel_rfl, by kernel_rfl, by kernel_rfl, by kernel_rfl, by kernel_rfl, by kernel_rfl, by kernel_rfl, by kernel_rfl, by kernel_rfl, by kernel_rfl, by kernel_rfl, by kernel_rfl, by kernel_rfl, by kernel_rfl, by kernel_rfl, by kernel_rfl, by kernel_rfl, by kernel_rfl, by kernel_rfl, by kernel_rfl, by kernel_rfl, by kernel_rfl, by kernel_rfl, by kernel_rfl⟩
theorem ty128 : (tAgg Tryd.prog 128 = some true) ∧
    (tSize Tryd.prog 128 = some 2) ∧
    (tBytes Tryd.prog 128 = some 2) ∧
    (tZero Tryd.prog 128 = some [.d (.int .u8 0), .d (.int .u8 0)]) ∧
    (tSlice Tryd.prog 128 = none) ∧
    (tArr Tryd.prog 128 = none) ∧
    (tParts Tryd.prog 128 = true) ∧
    (tField Tryd.prog 128 0 = some (0, 5)) ∧
    (tPlace Tryd.prog 128 0 = some (0, 1)) ∧
    (tField Tryd.prog 128 1 = some (1, 5)) ∧
    (tPlace Tryd.prog 128 1 = some (1, 1)) :=
  ⟨by kernel_rfl, by kernel_rfl, by kernel_rfl, by kernel_rfl, by kernel_rfl, by kernel_rfl, by kernel_rfl, by kernel_rfl, by kernel_rfl, by kernel_rfl, by kernel_rfl⟩
theorem ty129 : (tAgg Tryd.prog 129 = some true) ∧
    (tSize Tryd.prog 129 = some 2) ∧
    (tBytes Tryd.prog 129 = some 2) ∧
    (tZero Tryd.prog 129 = some [.d (.int .u8 0), .d (.int .u8 0)]) ∧
    (tSlice Tryd.prog 129 = none) ∧
    (tArr Tryd.prog 129 = none) ∧
    (tParts Tryd.prog 129 = true) ∧
    (tField Tryd.prog 129 0 = some (0, 5)) ∧
    (tPlace Tryd.prog 129 0 = some (0, 1)) ∧
    (tField Tryd.prog 129 1 = some (1, 5)) ∧
    (tPlace Tryd.prog 129 1 = some (1, 1)) :=
  ⟨by kernel_rfl, by kernel_rfl, by kernel_rfl, by kernel_rfl, by kernel_rfl, by kernel_rfl, by kernel_rfl, by kernel_rfl, by kernel_rfl, by kernel_rfl, by kernel_rfl⟩
theorem ty130 : (tAgg Tryd.prog 130 = some true) ∧
    (tSize Tryd.prog 130 = some 32) ∧
    (tBytes Tryd.prog 130 = some 32) ∧
    (tZero Tryd.prog 130 = some [.d (.int .u8 0), .d (.int .u8 0), .d (.int .u8 0), .d (.int .u8 0), .d (.int .u8 0), .d (.int .u8 0), .d (.int .u8 0), .d (.int .u8 0), .d (.int .u8 0), .d (.int .u8 0), .d (.int .u8 0), .d (.int .u8 0), .d (.int .u8 0), .d (.int .u8 0), .d (.int .u8 0), .d (.int .u8 0), .d (.int .u8 0), .d (.int .u8 0), .d (.int .u8 0), .d (.int .u8 0), .d (.int .u8 0), .d (.int .u8 0), .d (.int .u8 0), .d (.int .u8 0), .d (.int .u8 0), .d (.int .u8 0), .d (.int .u8 0), .d (.int .u8 0), .d (.int .u8 0), .d (.int .u8 0), .d (.int .u8 0), .d (.int .u8 0)]) ∧
    (tSlice Tryd.prog 130 = none) ∧
    (tArr Tryd.prog 130 = some (16, 129)) ∧
    (tParts Tryd.prog 130 = true) ∧
    (tPlace Tryd.prog 130 0 = some (0, 2)) ∧
    (tPlace Tryd.prog 130 1 = some (2, 2)) ∧
    (tPlace Tryd.prog 130 2 = some (4, 2)) ∧
    (tPlace Tryd.prog 130 3 = some (6, 2)) ∧
    (tPlace Tryd.prog 130 4 = some (8, 2)) ∧
    (tPlace Tryd.prog 130 5 = some (10, 2)) ∧
    (tPlace Tryd.prog 130 6 = some (12, 2)) ∧
    (tPlace Tryd.prog 130 7 = some (14, 2)) ∧
    (tPlace Tryd.prog 130 8 = some (16, 2)) ∧
    (tPlace Tryd.prog 130 9 = some (18, 2)) ∧
    (tPlace Tryd.prog 130 10 = some (20, 2)) ∧
    (tPlace Tryd.prog 130 11 = some (22, 2)) ∧
    (tPlace Tryd.prog 130 12 = some (24, 2)) ∧
    (tPlace Tryd.prog 130 13 = some (26, 2)) ∧
    (tPlace Tryd.prog 130 14 = some (28, 2)) ∧
    (tPlace Tryd.prog 130 15 = some (30, 2)) ∧
    (Tryd.prog.underlying 130 = some (.array 16 129)) :=
  ⟨by kernel_rfl, by kernel_rfl, by kernel_rfl, by kernel_rfl, by kernel_rfl, by kernel_rfl, by kernel_rfl, by kernel_rfl, by kernel_rfl, by kernel_rfl, by kernel_rfl, by kernel_rfl, by kernel_rfl, by kernel_rfl, by kernel_rfl, by kernel_rfl, by kernel_rfl, by kernel_rfl, by kernel_rfl, by kernel_rfl, by kernel_rfl, by kernel_rfl, by kernel_rfl, by kernel_rfl⟩
theorem ty131 : (tAgg Tryd.prog 131 = some false) ∧
    (tSize Tryd.prog 131 = some 1) ∧
    (tBytes Tryd.prog 131 = some 8) ∧
    (tZero Tryd.prog 131 = some [.fnil]) ∧
    (tSlice Tryd.prog 131 = none) ∧
    (tArr Tryd.prog 131 = none) ∧
    (isFn Tryd.prog 131 = true) :=
  ⟨by kernel_rfl, by kernel_rfl, by kernel_rfl, by kernel_rfl, by kernel_rfl, by kernel_rfl, by kernel_rfl⟩
theorem ty132 : (tAgg Tryd.prog 132 = some false) ∧
    (tSize Tryd.prog 132 = some 1) ∧
    (tBytes Tryd.prog 132 = some 8) ∧
    (tZero Tryd.prog 132 = some [.pnil]) ∧
    (tSlice Tryd.prog 132 = none) ∧
    (tArr Tryd.prog 132 = none) ∧
    (isPtr Tryd.prog 132 = true) ∧
    (tPtr Tryd.prog 132 = some 121) ∧
    (Tryd.prog.underlying 132 = some (.pointer 121)) :=
  ⟨by kernel_rfl, by kernel_rfl, by kernel_rfl, by kernel_rfl, by kernel_rfl, by kernel_rfl, by kernel_rfl, by kernel_rfl, by kernel_rfl⟩
theorem ty133 : (tAgg Tryd.prog 133 = some false) ∧
    (tSize Tryd.prog 133 = some 1) ∧
    (tBytes Tryd.prog 133 = some 8) ∧
    (tZero Tryd.prog 133 = some [.fnil]) ∧
    (tSlice Tryd.prog 133 = none) ∧
    (tArr Tryd.prog 133 = none) ∧
    (isFn Tryd.prog 133 = true) :=
  ⟨by kernel_rfl, by kernel_rfl, by kernel_rfl, by kernel_rfl, by kernel_rfl, by kernel_rfl, by kernel_rfl⟩
theorem ty134 : (tAgg Tryd.prog 134 = some true) ∧
    (tSize Tryd.prog 134 = some 4) ∧
    (tBytes Tryd.prog 134 = some 40) ∧
    (tZero Tryd.prog 134 = some [.pnil, .pnil, .pnil, .d (.str [])]) ∧
    (tSlice Tryd.prog 134 = none) ∧
    (tArr Tryd.prog 134 = none) ∧
    (tParts Tryd.prog 134 = true) ∧
    (tField Tryd.prog 134 0 = some (0, 17)) ∧
    (tPlace Tryd.prog 134 0 = some (0, 1)) ∧
    (tField Tryd.prog 134 1 = some (1, 17)) ∧
    (tPlace Tryd.prog 134 1 = some (1, 1)) ∧
    (tField Tryd.prog 134 2 = some (2, 17)) ∧
    (tPlace Tryd.prog 134 2 = some (2, 1)) ∧
    (tField Tryd.prog 134 3 = some (3, 9)) ∧
    (tPlace Tryd.prog 134 3 = some (3, 1)) :=
  ⟨by kernel_rfl, by kernel_rfl, by kernel_rfl, by kernel_rfl, by kernel_rfl, by kernel_rfl, by kernel_rfl, by kernel_rfl, by kernel_rfl, by kernel_rfl, by kernel_rfl, by kernel_rfl, by kernel_rfl, by kernel_rfl, by kernel_rfl⟩
theorem ty135 : (tAgg Tryd.prog 135 = some true) ∧
    (tSize Tryd.prog 135 = some 4) ∧
    (tBytes Tryd.prog 135 = some 40) ∧
    (tZero Tryd.prog 135 = some [.pnil, .pnil, .pnil, .d (.str [])]) ∧
    (tSlice Tryd.prog 135 = none) ∧
    (tArr Tryd.prog 135 = none) ∧
    (tParts Tryd.prog 135 = true) ∧
    (tField Tryd.prog 135 0 = some (0, 17)) ∧
    (tPlace Tryd.prog 135 0 = some (0, 1)) ∧
    (tField Tryd.prog 135 1 = some (1, 17)) ∧
    (tPlace Tryd.prog 135 1 = some (1, 1)) ∧
    (tField Tryd.prog 135 2 = some (2, 17)) ∧
    (tPlace Tryd.prog 135 2 = some (2, 1)) ∧
    (tField Tryd.prog 135 3 = some (3, 9)) ∧
    (tPlace Tryd.prog 135 3 = some (3, 1)) :=
  ⟨by kernel_rfl, by kernel_rfl, by kernel_rfl, by kernel_rfl, by kernel_rfl, by kernel_rfl, by kernel_rfl, by kernel_rfl, by kernel_rfl, by kernel_rfl, by kernel_rfl, by kernel_rfl, by kernel_rfl, by kernel_rfl, by kernel_rfl⟩
theorem ty136 : (tAgg Tryd.prog 136 = some true) ∧
    (tSize Tryd.prog 136 = some 0) ∧
    (tBytes Tryd.prog 136 = some 0) ∧
    (tZero Tryd.prog 136 = some []) ∧
    (tSlice Tryd.prog 136 = none) ∧
    (tArr Tryd.prog 136 = some (0, 16)) ∧
    (tParts Tryd.prog 136 = true) ∧
    (Tryd.prog.underlying 136 = some (.array 0 16)) :=
  ⟨by kernel_rfl, by kernel_rfl, by kernel_rfl, by kernel_rfl, by kernel_rfl, by kernel_rfl, by kernel_rfl, by kernel_rfl⟩
theorem ty137 : (tAgg Tryd.prog 137 = some true) ∧
    (tSize Tryd.prog 137 = some 0) ∧
    (tBytes Tryd.prog 137 = some 0) ∧
    (tZero Tryd.prog 137 = some []) ∧
    (tSlice Tryd.prog 137 = none) ∧
    (tArr Tryd.prog 137 = none) ∧
    (tParts Tryd.prog 137 = true) ∧
    (tField Tryd.prog 137 0 = some (0, 136)) ∧
    (tPlace Tryd.prog 137 0 = some (0, 0)) :=
  ⟨by kernel_rfl, by kernel_rfl, by kernel_rfl, by kernel_rfl, by kernel_rfl, by kernel_rfl, by kernel_rfl, by kernel_rfl, by kernel_rfl⟩
theorem ty138 : (tAgg Tryd.prog 138 = some true) ∧
    (tSize Tryd.prog 138 = some 0) ∧
    (tBytes Tryd.prog 138 = some 0) ∧
    (tZero Tryd.prog 138 = some []) ∧
    (tSlice Tryd.prog 138 = none) ∧
    (tArr Tryd.prog 138 = none) ∧
    (tParts Tryd.prog 138 = true) ∧
    (tField Tryd.prog 138 0 = some (0, 136)) ∧
    (tPlace Tryd.prog 138 0 = some (0, 0)) :=
  ⟨by kernel_rfl, by kernel_rfl, by kernel_rfl, by kernel_rfl, by kernel_rfl, by kernel_rfl, by kernel_rfl, by kernel_rfl, by kernel_rfl⟩
theorem ty139 : (tAgg Tryd.prog 139 = some false) ∧
    (tSize Tryd.prog 139 = some 1) ∧
    (tBytes Tryd.prog 139 = some 8) ∧
    (tZero Tryd.prog 139 = some [.fnil]) ∧
    (tSlice Tryd.prog 139 = none) ∧
    (tArr Tryd.prog 139 = none) ∧
    (isFn Tryd.prog 139 = true) :=
  ⟨by kernel_rfl, by kernel_rfl, by kernel_rfl, by kernel_rfl, by kernel_rfl, by kernel_rfl, by kernel_rfl⟩
theorem ty140 : (tAgg Tryd.prog 140 = some false) ∧
    (tSize Tryd.prog 140 = some 1) ∧
    (tBytes Tryd.prog 140 = some 1) ∧
    (tZero Tryd.prog 140 = some [.d (.int .u8 0)]) ∧
    (tSlice Tryd.prog 140 = none) ∧
    (tArr Tryd.prog 140 = none) ∧
    (Tryd.prog.underlying 140 = some (.int .u8)) :=
  ⟨by kernel_rfl, by kernel_rfl, by kernel_rfl, by kernel_rfl, by kernel_rfl, by kernel_rfl, by kernel_rfl⟩
theorem ty141 : (tAgg Tryd.prog 141 = some false) ∧
    (tSize Tryd.prog 141 = some 1) ∧
    (tBytes Tryd.prog 141 = some 1) ∧
    (tZero Tryd.prog 141 = some [.d (.int .u8 0)]) ∧
    (tSlice Tryd.prog 141 = none) ∧
    (tArr Tryd.prog 141 = none) ∧
    (Tryd.prog.underlying 141 = some (.int .u8)) :=
  ⟨by kernel_rfl, by kernel_rfl, by kernel_rfl, by kernel_rfl, by kernel_rfl, by kernel_rfl, by kernel_rfl⟩
theorem ty142 : (tAgg Tryd.prog 142 = some false) ∧
    (tSize Tryd.prog 142 = some 1) ∧
    (tBytes Tryd.prog 142 = some 8) ∧
    (tZero Tryd.prog 142 = some [.fnil]) ∧
    (tSlice Tryd.prog 142 = none) ∧
    (tArr Tryd.prog 142 = none) ∧
    (isFn Tryd.prog 142 = true) :=
  ⟨by kernel_rfl, by kernel_rfl, by kernel_rfl, by kernel_rfl, by kernel_rfl, by kernel_rfl, by kernel_rfl⟩
theorem ty143 : (tAgg Tryd.prog 143 = some false) ∧
    (tSize Tryd.prog 143 = some 1) ∧
    (tBytes Tryd.prog 143 = some 8) ∧
    (tZero Tryd.prog 143 = some [.pnil]) ∧
    (tSlice Tryd.prog 143 = none) ∧
    (tArr Tryd.prog 143 = none) ∧
    (isPtr Tryd.prog 143 = true) ∧
    (tPtr Tryd.prog 143 = some 5) ∧
    (Tryd.prog.underlying 143 = some (.pointer 5)) :=
  ⟨by kernel_rfl, by kernel_rfl, by kernel_rfl, by kernel_rfl, by kernel_rfl, by kernel_rfl, by kernel_rfl, by kernel_rfl, by kernel_rfl⟩
theorem ty144 : (tAgg Tryd.prog 144 = some false) ∧
    (tSize Tryd.prog 144 = some 1) ∧
    (tBytes Tryd.prog 144 = some 4) ∧
    (tZero Tryd.prog 144 = some [.d (.int .i32 0)]) ∧
    (tSlice Tryd.prog 144 = none) ∧
    (tArr Tryd.prog 144 = none) ∧
    (Tryd.prog.underlying 144 = some (.int .i32)) :=
  ⟨by kernel_rfl, by kernel_rfl, by kernel_rfl, by kernel_rfl, by kernel_rfl, by kernel_rfl, by kernel_rfl⟩
theorem ty145 : (tAgg Tryd.prog 145 = some false) ∧
    (tSize Tryd.prog 145 = some 1) ∧
    (tBytes Tryd.prog 145 = some 4) ∧
    (tZero Tryd.prog 145 = some [.d (.int .i32 0)]) ∧
    (tSlice Tryd.prog 145 = none) ∧
    (tArr Tryd.prog 145 = none) ∧
    (Tryd.prog.underlying 145 = some (.int .i32)) :=
  ⟨by kernel_rfl, by kernel_rfl, by kernel_rfl, by kernel_rfl, by kernel_rfl, by kernel_rfl, by kernel_rfl⟩
theorem ty146 : (tAgg Tryd.prog 146 = some true) ∧
    (tSize Tryd.prog 146 = some 11) ∧
    (tBytes Tryd.prog 146 = some 48) ∧
    (tZero Tryd.prog 146 = some [.d (.int .u64 0), .d (.int .u64 0), .d (.int .u32 0), .d (.int .u8 0), .d (.int .u8 0), .d (.int .u8 0), .d (.int .u8 0), .fnil, .pnil, .d (.int .i32 0), .d (.int .i32 0)]) ∧
    (tSlice Tryd.prog 146 = none) ∧
    (tArr Tryd.prog 146 = none) ∧
    (tParts Tryd.prog 146 = true) ∧
    (tField Tryd.prog 146 0 = some (0, 12)) ∧
    (tPlace Tryd.prog 146 0 = some (0, 1)) ∧
    (tField Tryd.prog 146 1 = some (1, 12)) ∧
    (tPlace Tryd.prog 146 1 = some (1, 1)) ∧
    (tField Tryd.prog 146 2 = some (2, 103)) ∧
    (tPlace Tryd.prog 146 2 = some (2, 1)) ∧
    (tField Tryd.prog 146 3 = some (3, 140)) ∧
    (tPlace Tryd.prog 146 3 = some (3, 1)) ∧
    (tField Tryd.prog 146 4 = some (4, 5)) ∧
    (tPlace Tryd.prog 146 4 = some (4, 1)) ∧
    (tField Tryd.prog 146 5 = some (5, 5)) ∧
    (tPlace Tryd.prog 146 5 = some (5, 1)) ∧
    (tField Tryd.prog 146 6 = some (6, 141)) ∧
    (tPlace Tryd.prog 146 6 = some (6, 1)) ∧
    (tField Tryd.prog 146 7 = some (7, 142)) ∧
    (tPlace Tryd.prog 146 7 = some (7, 1)) ∧
    (tField Tryd.prog 146 8 = some (8, 143)) ∧
    (tPlace Tryd.prog 146 8 = some (8, 1)) ∧
    (tField Tryd.prog 146 9 = some (9, 144)) ∧
    (tPlace Tryd.prog 146 9 = some (9, 1)) ∧
    (tField Tryd.prog 146 10 = some (10, 145)) ∧
    (tPlace Tryd.prog 146 10 = some (10, 1)) :=
  ⟨by kernel_rfl, by kernel_rfl, by kernel_rfl, by kernel_rfl, by kernel_rfl, by kernel_rfl, by kernel_rfl, by kernel_rfl, by kernel_rfl, by kernel_rfl, by kernel_rfl, by kernel_rfl, by kernel_rfl, by kernel_rfl, by kernel_rfl, by kernel_rfl, by kernel_rfl, by kernel_rfl, by kernel_rfl, by kernel_rfl, by kernel_rfl, by kernel_rfl, by kernel_rfl, by kernel_rfl, by kernel_rfl, by kernel_rfl, by kernel_rfl, by kernel_rfl, by kernel_rfl⟩
theorem ty147 : (tAgg Tryd.prog 147 = some true) ∧
    (tSize Tryd.prog 147 = some 11) ∧
    (tBytes Tryd.prog 147 = some 48) ∧
    (tZero Tryd.prog 147 = some [.d (.int .u64 0), .d (.int .u64 0), .d (.int .u32 0), .d (.int .u8 0), .d (.int .u8 0), .d (.int .u8 0), .d (.int .u8 0), .fnil, .pnil, .d (.int .i32 0), .d (.int .i32 0)]) ∧
    (tSlice Tryd.prog 147 = none) ∧
    (tArr Tryd.prog 147 = none) ∧
    (tParts Tryd.prog 147 = true) ∧
    (tField Tryd.prog 147 0 = some (0, 12)) ∧
    (tPlace Tryd.prog 147 0 = some (0, 1)) ∧
    (tField Tryd.prog 147 1 = some (1, 12)) ∧
    (tPlace Tryd.prog 147 1 = some (1, 1)) ∧
    (tField Tryd.prog 147 2 = some (2, 103)) ∧
    (tPlace Tryd.prog 147 2 = some (2, 1)) ∧
    (tField Tryd.prog 147 3 = some (3, 140)) ∧
    (tPlace Tryd.prog 147 3 = some (3, 1)) ∧
    (tField Tryd.prog 147 4 = some (4, 5)) ∧
    (tPlace Tryd.prog 147 4 = some (4, 1)) ∧
    (tField Tryd.prog 147 5 = some (5, 5)) ∧
    (tPlace Tryd.prog 147 5 = some (5, 1)) ∧
    (tField Tryd.prog 147 6 = some (6, 141)) ∧
    (tPlace Tryd.prog 147 6 = some (6, 1)) ∧
    (tField Tryd.prog 147 7 = some (7, 142)) ∧
    (tPlace Tryd.prog 147 7 = some (7, 1)) ∧
    (tField Tryd.prog 147 8 = some (8, 143)) ∧
    (tPlace Tryd.prog 147 8 = some (8, 1)) ∧
    (tField Tryd.prog 147 9 = some (9, 144)) ∧
    (tPlace Tryd.prog 147 9 = some (9, 1)) ∧
    (tField Tryd.prog 147 10 = some (10, 145)) ∧
    (tPlace Tryd.prog 147 10 = some (10, 1)) :=
  ⟨by kernel_rfl, by kernel_rfl, by kernel_rfl, by kernel_rfl, by kernel_rfl, by kernel_rfl, by kernel_rfl, by kernel_rfl, by kernel_rfl, by kernel_rfl, by kernel_rfl, by kernel_rfl, by kernel_rfl, by kernel_rfl, by kernel_rfl, by kernel_rfl, by kernel_rfl, by kernel_rfl, by kernel_rfl, by kernel_rfl, by kernel_rfl, by kernel_rfl, by kernel_rfl, by kernel_rfl, by kernel_rfl, by kernel_rfl, by kernel_rfl, by kernel_rfl, by kernel_rfl⟩
theorem ca3 : callable Tryd.prog 3 = true := by kernel_rfl
theorem ca4 : callable Tryd.prog 4 = true := by kernel_rfl
theorem ca5 : callable Tryd.prog 5 = true := by kernel_rfl
theorem ca6 : callable Tryd.prog 6 = true := by kernel_rfl
theorem ca7 : callable Tryd.prog 7 = true := by kernel_rfl
theorem ca8 : callable Tryd.prog 8 = true := by kernel_rfl
theorem ca9 : callable Tryd.prog 9 = true := by kernel_rfl
theorem ca10 : callable Tryd.prog 10 = true := by kernel_rfl
theorem ca11 : callable Tryd.prog 11 = true := by kernel_rfl
theorem ca12 : callable Tryd.prog 12 = true := by kernel_rfl
theorem ca13 : callable Tryd.prog 13 = true := by kernel_rfl
theorem ca14 : callable Tryd.prog 14 = true := by kernel_rfl
theorem ca15 : callable Tryd.prog 15 = true := by kernel_rfl
theorem ca16 : callable Tryd.prog 16 = true := by kernel_rfl
theorem ca17 : callable Tryd.prog 17 = true := by kernel_rfl
theorem ca18 : callable Tryd.prog 18 = true := by kernel_rfl
theorem ca19 : callable Tryd.prog 19 = true := by kernel_rfl
theorem ca20 : callable Tryd.prog 20 = true := by kernel_rfl
theorem ca21 : callable Tryd.prog 21 = true := by kernel_rfl
theorem ca22 : callable Tryd.prog 22 = true := by kernel_rfl
theorem ca23 : callable Tryd.prog 23 = true := by kernel_rfl
theorem ca24 : callable Tryd.prog 24 = true := by kernel_rfl
theorem ca25 : callable Tryd.prog 25 = true := by kernel_rfl
theorem ca26 : callable Tryd.prog 26 = true := by kernel_rfl
theorem ca27 : callable Tryd.prog 27 = true := by kernel_rfl
theorem ca28 : callable Tryd.prog 28 = true := by kernel_rfl
theorem ca29 : callable Tryd.prog 29 = true := by kernel_rfl
theorem ca30 : callable Tryd.prog 30 = true := by kernel_rfl
theorem ca31 : callable Tryd.prog 31 = true := by kernel_rfl
theorem ca32 : callable Tryd.prog 32 = true := by kernel_rfl
theorem ca33 : callable Tryd.prog 33 = true := by kernel_rfl
theorem ca34 : callable Tryd.prog 34 = true := by kernel_rfl
theorem ca35 : callable Tryd.prog 35 = true := by kernel_rfl
theorem ca36 : callable Tryd.prog 36 = true := by kernel_rfl
theorem ca37 : callable Tryd.prog 37 = true := by kernel_rfl
theorem ca38 : callable Tryd.prog 38 = true := by kernel_rfl
theorem ca39 : callable Tryd.prog 39 = true := by kernel_rfl
theorem ca40 : callable Tryd.prog 40 = true := by kernel_rfl
theorem ca41 : callable Tryd.prog 41 = true := by kernel_rfl
theorem ca42 : callable Tryd.prog 42 = true := by kernel_rfl
theorem ca43 : callable Tryd.prog 43 = true := by kernel_rfl
theorem ca44 : callable Tryd.prog 44 = true := by kernel_rfl
theorem ca45 : callable Tryd.prog 45 = true := by kernel_rfl
theorem ca46 : callable Tryd.prog 46 = true := by kernel_rfl
theorem ca47 : callable Tryd.prog 47 = true := by kernel_rfl
theorem ca48 : callable Tryd.prog 48 = true := by kernel_rfl
theorem ca49 : callable Tryd.prog 49 = true := by kernel_rfl
theorem ca50 : callable Tryd.prog 50 = true := by kernel_rfl
theorem ca51 : callable Tryd.prog 51 = true := by kernel_rfl
theorem ca52 : callable Tryd.prog 52 = true := by kernel_rfl
theorem ca53 : callable Tryd.prog 53 = true := by kernel_rfl
theorem ca54 : callable Tryd.prog 54 = true := by kernel_rfl
theorem ca55 : callable Tryd.prog 55 = true := by kernel_rfl
theorem ca56 : callable Tryd.prog 56 = true := by kernel_rfl
theorem ca57 : callable Tryd.prog 57 = true := by kernel_rfl
theorem ca58 : callable Tryd.prog 58 = true := by kernel_rfl
theorem ca59 : callable Tryd.prog 59 = true := by kernel_rfl
theorem ca60 : callable Tryd.prog 60 = true := by kernel_rfl
theorem ca61 : callable Tryd.prog 61 = true := by kernel_rfl
theorem ca62 : callable Tryd.prog 62 = true := by kernel_rfl
theorem ca63 : callable Tryd.prog 63 = true := by kernel_rfl
theorem ca64 : callable Tryd.prog 64 = true := by kernel_rfl
theorem ca65 : callable Tryd.prog 65 = true := by kernel_rfl
theorem ca66 : callable Tryd.prog 66 = true := by kernel_rfl
theorem ca67 : callable Tryd.prog 67 = true := by kernel_rfl
theorem ca68 : callable Tryd.prog 68 = true := by kernel_rfl
theorem ca69 : callable Tryd.prog 69 = true := by kernel_rfl
theorem ca70 : callable Tryd.prog 70 = true := by kernel_rfl
theorem ca71 : callable Tryd.prog 71 = true := by kernel_rfl
theorem ca72 : callable Tryd.prog 72 = true := by kernel_rfl
theorem ca73 : callable Tryd.prog 73 = true := by kernel_rfl
theorem ca74 : callable Tryd.prog 74 = true := by kernel_rfl
theorem ca75 : callable Tryd.prog 75 = true := by kernel_rfl
theorem ca76 : callable Tryd.prog 76 = true := by kernel_rfl
theorem ca77 : callable Tryd.prog 77 = true := by kernel_rfl
theorem ca78 : callable Tryd.prog 78 = true := by kernel_rfl
theorem ca79 : callable Tryd.prog 79 = true := by kernel_rfl
theorem ca80 : callable Tryd.prog 80 = true := by kernel_rfl
theorem ca81 : callable Tryd.prog 81 = true := by kernel_rfl
theorem ca82 : callable Tryd.prog 82 = true := by kernel_rfl
theorem ca83 : callable Tryd.prog 83 = true := by kernel_rfl
theorem ca84 : callable Tryd.prog 84 = true := by kernel_rfl
theorem ca85 : callable Tryd.prog 85 = true := by kernel_rfl
theorem ca86 : callable Tryd.prog 86 = true := by kernel_rfl
theorem ca87 : callable Tryd.prog 87 = true := by kernel_rfl
theorem ca88 : callable Tryd.prog 88 = true := by kernel_rfl
theorem ca90 : callable Tryd.prog 90 = true := by kernel_rfl
theorem ca91 : callable Tryd.prog 91 = true := by kernel_rfl
theorem ca92 : callable Tryd.prog 92 = true := by kernel_rfl
theorem ca93 : callable Tryd.prog 93 = true := by kernel_rfl
theorem ca94 : callable Tryd.prog 94 = true := by kernel_rfl
theorem ca95 : callable Tryd.prog 95 = true := by kernel_rfl
theorem ca96 : callable Tryd.prog 96 = true := by kernel_rfl
theorem ca97 : callable Tryd.prog 97 = true := by kernel_rfl
theorem ca98 : callable Tryd.prog 98 = true := by kernel_rfl
theorem ca100 : callable Tryd.prog 100 = true := by kernel_rfl
theorem ca101 : callable Tryd.prog 101 = true := by kernel_rfl
theorem ca102 : callable Tryd.prog 102 = true := by kernel_rfl
end Go.Proofs.YtikgnakhciklaaaDoor.R
