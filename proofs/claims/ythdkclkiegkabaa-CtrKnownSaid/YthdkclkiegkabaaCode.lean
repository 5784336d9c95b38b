/- The abstract code of the functions, printed by a program of this session (gencode.py), and checked against the loaded program. -/
import Derived.Test.YthdkclkiegkabaaAdmQ
import Derived.Test.YthdkclkiegkabaaProg
import Derived.KernelRfl
namespace Go.Proofs.Ythdkclkiegkabaa
open Go.Adm
theorem mixed : Try.prog.follows .mixedOrders = true := by kernel_rfl
/-- rill/rilllaw04.CtrTurns -/
def c3 : ACode :=
  (.seq
  (.ops [0, 1, 2, 3] [
    ⟨(.some 8), .mv, [(.c (.bool false))], none, 0, 0⟩])
  (.seq
  (.ops [0, 1, 2, 3, 9, 10] [
    ⟨(.some 18), .mv, [(.t 0)], none, 0, 0⟩,
    ⟨(.some 19), (.call 8), [(.t 18)], none, 0, 0⟩,
    ⟨(.some 17), .mv, [(.t 19)], none, 0, 0⟩,
    ⟨(.some 20), (.extract 0), [(.t 17)], none, 0, 0⟩,
    ⟨(.some 21), (.extract 1), [(.t 17)], none, 0, 0⟩,
    ⟨(.some 9), .mv, [(.t 20)], none, 0, 0⟩,
    ⟨(.some 10), .mv, [(.t 21)], none, 0, 0⟩])
  (.seq
  (.ops [1, 2, 3, 9, 10, 11, 12] [
    ⟨(.some 23), .mv, [(.t 0)], none, 0, 0⟩,
    ⟨(.some 24), (.call 9), [(.t 23)], none, 0, 0⟩,
    ⟨(.some 22), .mv, [(.t 24)], none, 0, 0⟩,
    ⟨(.some 25), (.extract 0), [(.t 22)], none, 0, 0⟩,
    ⟨(.some 26), (.extract 1), [(.t 22)], none, 0, 0⟩,
    ⟨(.some 11), .mv, [(.t 25)], none, 0, 0⟩,
    ⟨(.some 12), .mv, [(.t 26)], none, 0, 0⟩])
  (.seq
  (.seq
  (.ops [1, 2, 3, 9, 11, 37] [
    ⟨(.some 27), .mv, [(.t 10)], none, 0, 0⟩,
    ⟨(.some 28), (.eq true .int), [(.t 27), (.c (.int .i64 0))], none, 0, 0⟩,
    ⟨(.some 29), .mv, [(.t 28)], none, 0, 0⟩,
    ⟨(.some 30), .mv, [(.t 12)], (.some (29, false)), 0, 0⟩,
    ⟨(.some 31), (.eq true .int), [(.t 30), (.c (.int .i64 0))], (.some (29, false)), 0, 0⟩,
    ⟨(.some 32), .pick, [(.t 29), (.c (.bool true)), (.t 31)], none, 0, 0⟩,
    ⟨(.some 33), .mv, [(.t 32)], none, 0, 0⟩,
    ⟨(.some 34), .mv, [(.t 3)], (.some (33, false)), 0, 0⟩,
    ⟨(.some 35), .len, [(.t 34)], (.some (33, false)), 0, 0⟩,
    ⟨(.some 36), (.cmp .gtr), [(.t 35), (.c (.int .i64 8192))], (.some (33, false)), 0, 0⟩,
    ⟨(.some 37), .pick, [(.t 33), (.c (.bool true)), (.t 36)], none, 0, 0⟩])
  (.cond (.t 37)
    (.seq
    (.ops [8] [
      ⟨(.some 38), (.call 10), [], none, 0, 0⟩,
      ⟨(.some 8), .mv, [(.t 38)], none, 0, 0⟩])
    .ret)
    .skip))
  (.seq
  (.ops [1, 2, 3, 9, 11, 13] [
    ⟨(.some 39), .mv, [(.t 3)], none, 0, 0⟩,
    ⟨(.some 40), (.call 11), [(.t 39)], none, 0, 0⟩,
    ⟨(.some 13), .mv, [(.t 40)], none, 0, 0⟩])
  (.seq
  (.ops [1, 2, 3, 9, 11, 13, 14] [
    ⟨(.some 41), .mv, [(.t 9)], none, 0, 0⟩,
    ⟨(.some 42), .mv, [(.t 1)], none, 0, 0⟩,
    ⟨(.some 43), .mv, [(.t 2)], none, 0, 0⟩,
    ⟨(.some 44), .mv, [(.t 13)], none, 0, 0⟩,
    ⟨(.some 45), .mv, [(.t 3)], none, 0, 0⟩,
    ⟨(.some 46), .len, [(.t 45)], none, 0, 0⟩,
    ⟨(.some 47), (.slice 1 false true false), [(.t 44), (.t 46)], none, 0, 0⟩,
    ⟨(.some 48), (.call 12), [(.t 41), (.t 42), (.t 43), (.t 47)], none, 0, 0⟩,
    ⟨(.some 14), .mv, [(.t 48)], none, 0, 0⟩])
  (.seq
  (.ops [1, 2, 3, 11, 13, 14, 15] [
    ⟨(.some 49), .mv, [(.t 9)], none, 0, 0⟩,
    ⟨(.some 50), .mv, [(.t 1)], none, 0, 0⟩,
    ⟨(.some 51), .mv, [(.t 2)], none, 0, 0⟩,
    ⟨(.some 52), .mv, [(.t 13)], none, 0, 0⟩,
    ⟨(.some 53), .mv, [(.t 3)], none, 0, 0⟩,
    ⟨(.some 54), .len, [(.t 53)], none, 0, 0⟩,
    ⟨(.some 55), (.slice 1 false true false), [(.t 52), (.t 54)], none, 0, 0⟩,
    ⟨(.some 56), (.call 12), [(.t 49), (.t 50), (.t 51), (.t 55)], none, 0, 0⟩,
    ⟨(.some 15), .mv, [(.t 56)], none, 0, 0⟩])
  (.seq
  (.ops [3, 13, 14, 15, 16] [
    ⟨(.some 57), .mv, [(.t 11)], none, 0, 0⟩,
    ⟨(.some 58), .mv, [(.t 1)], none, 0, 0⟩,
    ⟨(.some 59), .mv, [(.t 2)], none, 0, 0⟩,
    ⟨(.some 60), .mv, [(.t 3)], none, 0, 0⟩,
    ⟨(.some 61), (.call 13), [(.t 57), (.t 58), (.t 59), (.t 60)], none, 0, 0⟩,
    ⟨(.some 16), .mv, [(.t 61)], none, 0, 0⟩])
  (.seq
  (.seq
  (.ops [3, 13, 14, 15, 16, 65] [
    ⟨(.some 62), .mv, [(.t 14)], none, 0, 0⟩,
    ⟨(.some 63), .mv, [(.t 16)], none, 0, 0⟩,
    ⟨(.some 64), (.call 14), [(.t 62), (.t 63)], none, 0, 0⟩,
    ⟨(.some 65), .not, [(.t 64)], none, 0, 0⟩])
  (.cond (.t 65)
    (.seq
    (.ops [8] [
      ⟨(.some 8), .mv, [(.c (.bool false))], none, 0, 0⟩])
    .ret)
    .skip))
  (.seq
  (.ops [3, 13, 15, 16] [
    ⟨(.some 66), .mv, [(.t 14)], none, 0, 0⟩,
    ⟨(.some 67), (.call 15), [(.t 66)], none, 0, 0⟩])
  (.seq
  (.ops [8] [
    ⟨(.some 68), .mv, [(.t 15)], none, 0, 0⟩,
    ⟨(.some 69), .mv, [(.t 16)], none, 0, 0⟩,
    ⟨(.some 70), (.call 14), [(.t 68), (.t 69)], none, 0, 0⟩,
    ⟨(.some 71), .mv, [(.t 70)], none, 0, 0⟩,
    ⟨(.some 72), .mv, [(.t 13)], (.some (71, true)), 0, 0⟩,
    ⟨(.some 73), .mv, [(.t 3)], (.some (71, true)), 0, 0⟩,
    ⟨(.some 74), (.call 16), [(.t 72), (.t 73)], (.some (71, true)), 0, 0⟩,
    ⟨(.some 75), .pick, [(.t 71), (.t 74), (.c (.bool false))], none, 0, 0⟩,
    ⟨(.some 76), .mv, [(.t 75)], none, 0, 0⟩,
    ⟨(.some 77), (.call 10), [], (.some (76, true)), 0, 0⟩,
    ⟨(.some 78), .pick, [(.t 76), (.t 77), (.c (.bool false))], none, 0, 0⟩,
    ⟨(.some 8), .mv, [(.t 78)], none, 0, 0⟩])
  .ret)))))))))))
def r3 : List ARes := [(.tmp 8)]
theorem ok3 : FnOk Try.prog 3 c3 r3 :=
  ⟨Try.f3, _, Try.func3, by kernel_rfl, rfl, by kernel_rfl, by kernel_rfl⟩
/-- rill/rilllaw04.CtrBack -/
def c4 : ACode :=
  (.seq
  (.ops [0, 1, 2, 3] [
    ⟨(.some 8), .mv, [(.c (.bool false))], none, 0, 0⟩])
  (.seq
  (.ops [1, 2, 3, 9, 10] [
    ⟨(.some 15), .mv, [(.t 0)], none, 0, 0⟩,
    ⟨(.some 16), (.call 8), [(.t 15)], none, 0, 0⟩,
    ⟨(.some 14), .mv, [(.t 16)], none, 0, 0⟩,
    ⟨(.some 17), (.extract 0), [(.t 14)], none, 0, 0⟩,
    ⟨(.some 18), (.extract 1), [(.t 14)], none, 0, 0⟩,
    ⟨(.some 9), .mv, [(.t 17)], none, 0, 0⟩,
    ⟨(.some 10), .mv, [(.t 18)], none, 0, 0⟩])
  (.seq
  (.seq
  (.ops [1, 2, 3, 9, 25] [
    ⟨(.some 19), .mv, [(.t 10)], none, 0, 0⟩,
    ⟨(.some 20), (.eq true .int), [(.t 19), (.c (.int .i64 0))], none, 0, 0⟩,
    ⟨(.some 21), .mv, [(.t 20)], none, 0, 0⟩,
    ⟨(.some 22), .mv, [(.t 3)], (.some (21, false)), 0, 0⟩,
    ⟨(.some 23), .len, [(.t 22)], (.some (21, false)), 0, 0⟩,
    ⟨(.some 24), (.cmp .gtr), [(.t 23), (.c (.int .i64 8192))], (.some (21, false)), 0, 0⟩,
    ⟨(.some 25), .pick, [(.t 21), (.c (.bool true)), (.t 24)], none, 0, 0⟩])
  (.cond (.t 25)
    (.seq
    (.ops [8] [
      ⟨(.some 26), (.call 10), [], none, 0, 0⟩,
      ⟨(.some 8), .mv, [(.t 26)], none, 0, 0⟩])
    .ret)
    .skip))
  (.seq
  (.ops [1, 2, 3, 9, 11] [
    ⟨(.some 27), .mv, [(.t 9)], none, 0, 0⟩,
    ⟨(.some 28), .mv, [(.t 1)], none, 0, 0⟩,
    ⟨(.some 29), .mv, [(.t 2)], none, 0, 0⟩,
    ⟨(.some 30), .mv, [(.t 3)], none, 0, 0⟩,
    ⟨(.some 31), (.call 12), [(.t 27), (.t 28), (.t 29), (.t 30)], none, 0, 0⟩,
    ⟨(.some 11), .mv, [(.t 31)], none, 0, 0⟩])
  (.seq
  (.ops [1, 2, 3, 9, 11, 12] [
    ⟨(.some 32), .mv, [(.t 9)], none, 0, 0⟩,
    ⟨(.some 33), .mv, [(.t 1)], none, 0, 0⟩,
    ⟨(.some 34), .mv, [(.t 2)], none, 0, 0⟩,
    ⟨(.some 35), .mv, [(.t 3)], none, 0, 0⟩,
    ⟨(.some 36), .len, [(.t 35)], none, 0, 0⟩,
    ⟨(.some 37), (.mkSlice [(.int .u8 0)] 1), [(.t 36), (.t 36)], none, 0, 0⟩,
    ⟨(.some 38), (.call 12), [(.t 32), (.t 33), (.t 34), (.t 37)], none, 0, 0⟩,
    ⟨(.some 12), .mv, [(.t 38)], none, 0, 0⟩])
  (.seq
  (.seq
  (.ops [3, 11, 12, 60] [
    ⟨(.some 39), .mv, [(.t 11)], none, 0, 0⟩,
    ⟨(.some 40), .len, [(.t 39)], none, 0, 0⟩,
    ⟨(.some 41), .mv, [(.t 3)], none, 0, 0⟩,
    ⟨(.some 42), .len, [(.t 41)], none, 0, 0⟩,
    ⟨(.some 43), (.eq true .int), [(.t 40), (.t 42)], none, 0, 0⟩,
    ⟨(.some 44), .mv, [(.t 43)], none, 0, 0⟩,
    ⟨(.some 45), .mv, [(.t 12)], (.some (44, false)), 0, 0⟩,
    ⟨(.some 46), .len, [(.t 45)], (.some (44, false)), 0, 0⟩,
    ⟨(.some 47), .mv, [(.t 3)], (.some (44, false)), 0, 0⟩,
    ⟨(.some 48), .len, [(.t 47)], (.some (44, false)), 0, 0⟩,
    ⟨(.some 49), (.eq true .int), [(.t 46), (.t 48)], (.some (44, false)), 0, 0⟩,
    ⟨(.some 50), .pick, [(.t 44), (.c (.bool true)), (.t 49)], none, 0, 0⟩,
    ⟨(.some 51), .mv, [(.t 50)], none, 0, 0⟩,
    ⟨(.some 52), .mv, [(.t 9)], (.some (51, false)), 0, 0⟩,
    ⟨(.some 53), .mv, [(.t 1)], (.some (51, false)), 0, 0⟩,
    ⟨(.some 54), .mv, [(.t 2)], (.some (51, false)), 0, 0⟩,
    ⟨(.some 55), .mv, [(.t 11)], (.some (51, false)), 0, 0⟩,
    ⟨(.some 56), (.call 12), [(.t 52), (.t 53), (.t 54), (.t 55)], (.some (51, false)), 0, 0⟩,
    ⟨(.some 57), .mv, [(.t 3)], (.some (51, false)), 0, 0⟩,
    ⟨(.some 58), (.call 14), [(.t 56), (.t 57)], (.some (51, false)), 0, 0⟩,
    ⟨(.some 59), .not, [(.t 58)], (.some (51, false)), 0, 0⟩,
    ⟨(.some 60), .pick, [(.t 51), (.c (.bool true)), (.t 59)], none, 0, 0⟩])
  (.cond (.t 60)
    (.seq
    (.ops [8] [
      ⟨(.some 8), .mv, [(.c (.bool false))], none, 0, 0⟩])
    .ret)
    .skip))
  (.seq
  (.seq
  (.ops [3, 11, 12, 13] [
    ⟨(.some 13), .mv, [(.c (.int .i64 0))], none, 0, 0⟩])
  (.block 0
    (.loop [3, 11, 12, 13]
      (.seq
      (.seq
      (.ops [3, 11, 12, 13, 64] [
        ⟨(.some 61), .mv, [(.t 13)], none, 0, 0⟩,
        ⟨(.some 62), .mv, [(.t 3)], none, 0, 0⟩,
        ⟨(.some 63), .len, [(.t 62)], none, 0, 0⟩,
        ⟨(.some 64), (.cmp .lss), [(.t 61), (.t 63)], none, 0, 0⟩])
      (.cond (.t 64)
        .skip
        (.exit 0)))
      (.seq
      (.block 1
        (.seq
        (.drawn [3, 11, 12, 13, 80] [
          ⟨(.some 67), .mv, [(.t 11)], none, 0, 0⟩,
          ⟨(.some 68), .mv, [(.t 13)], none, 0, 0⟩,
          ⟨(.some 69), (.idxAddr 1), [(.t 67), (.t 68)], none, 0, 0⟩,
          ⟨(.some 70), (.load false 1), [(.t 69)], none, 0, 0⟩,
          ⟨(.some 71), .mv, [(.t 3)], none, 0, 0⟩,
          ⟨(.some 72), .mv, [(.t 13)], none, 0, 0⟩,
          ⟨(.some 73), (.idxAddr 1), [(.t 71), (.t 72)], none, 0, 0⟩,
          ⟨(.some 74), (.load false 1), [(.t 73)], none, 0, 0⟩,
          ⟨(.some 75), .mv, [(.t 12)], none, 0, 0⟩,
          ⟨(.some 76), .mv, [(.t 13)], none, 0, 0⟩,
          ⟨(.some 77), (.idxAddr 1), [(.t 75), (.t 76)], none, 0, 0⟩,
          ⟨(.some 78), (.load false 1), [(.t 77)], none, 0, 0⟩,
          ⟨(.some 79), (.arith .xor), [(.t 74), (.t 78)], none, 0, 0⟩,
          ⟨(.some 80), (.eq true .int), [(.t 70), (.t 79)], none, 0, 0⟩])
        (.cond (.t 80)
          (.seq
          (.ops [8] [
            ⟨(.some 8), .mv, [(.c (.bool false))], none, 0, 0⟩])
          .ret)
          .skip)))
      (.ops [3, 11, 12, 13] [
        ⟨(.some 65), .mv, [(.t 13)], none, 0, 0⟩,
        ⟨(.some 66), (.arith .add), [(.t 65), (.c (.int .i64 1))], none, 0, 0⟩,
        ⟨(.some 13), .mv, [(.t 66)], none, 0, 0⟩]))))))
  (.seq
  (.ops [8] [
    ⟨(.some 81), (.call 10), [], none, 0, 0⟩,
    ⟨(.some 8), .mv, [(.t 81)], none, 0, 0⟩])
  .ret))))))))
def r4 : List ARes := [(.tmp 8)]
theorem ok4 : FnOk Try.prog 4 c4 r4 :=
  ⟨Try.f4, _, Try.func4, by kernel_rfl, rfl, by kernel_rfl, by kernel_rfl⟩
/-- rill/rilllaw04.CtrCut -/
def c5 : ACode :=
  (.seq
  (.ops [0, 1, 2, 3, 4] [
    ⟨(.some 10), .mv, [(.c (.bool false))], none, 0, 0⟩])
  (.seq
  (.ops [1, 2, 3, 4, 11, 12] [
    ⟨(.some 16), .mv, [(.t 0)], none, 0, 0⟩,
    ⟨(.some 17), (.call 8), [(.t 16)], none, 0, 0⟩,
    ⟨(.some 15), .mv, [(.t 17)], none, 0, 0⟩,
    ⟨(.some 18), (.extract 0), [(.t 15)], none, 0, 0⟩,
    ⟨(.some 19), (.extract 1), [(.t 15)], none, 0, 0⟩,
    ⟨(.some 11), .mv, [(.t 18)], none, 0, 0⟩,
    ⟨(.some 12), .mv, [(.t 19)], none, 0, 0⟩])
  (.seq
  (.seq
  (.ops [1, 2, 3, 4, 11, 26] [
    ⟨(.some 20), .mv, [(.t 12)], none, 0, 0⟩,
    ⟨(.some 21), (.eq true .int), [(.t 20), (.c (.int .i64 0))], none, 0, 0⟩,
    ⟨(.some 22), .mv, [(.t 21)], none, 0, 0⟩,
    ⟨(.some 23), .mv, [(.t 3)], (.some (22, false)), 0, 0⟩,
    ⟨(.some 24), .len, [(.t 23)], (.some (22, false)), 0, 0⟩,
    ⟨(.some 25), (.cmp .gtr), [(.t 24), (.c (.int .i64 8192))], (.some (22, false)), 0, 0⟩,
    ⟨(.some 26), .pick, [(.t 22), (.c (.bool true)), (.t 25)], none, 0, 0⟩])
  (.cond (.t 26)
    (.seq
    (.ops [10] [
      ⟨(.some 27), (.call 10), [], none, 0, 0⟩,
      ⟨(.some 10), .mv, [(.t 27)], none, 0, 0⟩])
    .ret)
    .skip))
  (.seq
  (.ops [1, 2, 3, 4, 11, 13] [
    ⟨(.some 28), .mv, [(.t 11)], none, 0, 0⟩,
    ⟨(.some 29), .mv, [(.t 1)], none, 0, 0⟩,
    ⟨(.some 30), .mv, [(.t 2)], none, 0, 0⟩,
    ⟨(.some 31), .mv, [(.t 3)], none, 0, 0⟩,
    ⟨(.some 32), (.call 12), [(.t 28), (.t 29), (.t 30), (.t 31)], none, 0, 0⟩,
    ⟨(.some 13), .mv, [(.t 32)], none, 0, 0⟩])
  (.seq
  (.ops [1, 2, 3, 11, 13, 14] [
    ⟨(.some 33), .mv, [(.t 4)], none, 0, 0⟩,
    ⟨(.some 34), .mv, [(.t 3)], none, 0, 0⟩,
    ⟨(.some 35), .len, [(.t 34)], none, 0, 0⟩,
    ⟨(.some 36), (.arith .add), [(.t 35), (.c (.int .i64 1))], none, 0, 0⟩,
    ⟨(.some 37), (.call 17), [(.t 33), (.t 36)], none, 0, 0⟩,
    ⟨(.some 14), .mv, [(.t 37)], none, 0, 0⟩])
  (.seq
  (.seq
  (.drawn [1, 2, 3, 11, 13, 56] [
    ⟨(.some 38), .mv, [(.t 13)], none, 0, 0⟩,
    ⟨(.some 39), .len, [(.t 38)], none, 0, 0⟩,
    ⟨(.some 40), .mv, [(.t 3)], none, 0, 0⟩,
    ⟨(.some 41), .len, [(.t 40)], none, 0, 0⟩,
    ⟨(.some 42), (.eq true .int), [(.t 39), (.t 41)], none, 0, 0⟩,
    ⟨(.some 43), .mv, [(.t 42)], none, 0, 0⟩,
    ⟨(.some 44), .mv, [(.t 11)], (.some (43, false)), 0, 0⟩,
    ⟨(.some 45), .mv, [(.t 1)], (.some (43, false)), 0, 0⟩,
    ⟨(.some 46), .mv, [(.t 2)], (.some (43, false)), 0, 0⟩,
    ⟨(.some 47), .mv, [(.t 3)], (.some (43, false)), 0, 0⟩,
    ⟨(.some 48), .mv, [(.t 14)], (.some (43, false)), 0, 0⟩,
    ⟨(.some 49), (.slice 1 false true false), [(.t 47), (.t 48)], (.some (43, false)), 0, 0⟩,
    ⟨(.some 50), (.call 12), [(.t 44), (.t 45), (.t 46), (.t 49)], (.some (43, false)), 0, 1⟩,
    ⟨(.some 51), .mv, [(.t 13)], (.some (43, false)), 0, 1⟩,
    ⟨(.some 52), .mv, [(.t 14)], (.some (43, false)), 0, 1⟩,
    ⟨(.some 53), (.slice 1 false true false), [(.t 51), (.t 52)], (.some (43, false)), 0, 1⟩,
    ⟨(.some 54), (.call 14), [(.t 50), (.t 53)], (.some (43, false)), 1, 2⟩,
    ⟨(.some 55), .not, [(.t 54)], (.some (43, false)), 2, 2⟩,
    ⟨(.some 56), .pick, [(.t 43), (.c (.bool true)), (.t 55)], none, 2, 2⟩])
  (.cond (.t 56)
    (.seq
    (.ops [10] [
      ⟨(.some 10), .mv, [(.c (.bool false))], none, 0, 0⟩])
    .ret)
    .skip))
  (.seq
  (.ops [10] [
    ⟨(.some 57), .mv, [(.t 11)], none, 0, 0⟩,
    ⟨(.some 58), .mv, [(.t 1)], none, 0, 0⟩,
    ⟨(.some 59), (.arith .xor), [(.t 58), (.c (.int .i64 281474976710656))], none, 0, 0⟩,
    ⟨(.some 60), .mv, [(.t 2)], none, 0, 0⟩,
    ⟨(.some 61), .mv, [(.t 3)], none, 0, 0⟩,
    ⟨(.some 62), (.call 12), [(.t 57), (.t 59), (.t 60), (.t 61)], none, 0, 0⟩,
    ⟨(.some 63), .mv, [(.t 13)], none, 0, 0⟩,
    ⟨(.some 64), (.call 14), [(.t 62), (.t 63)], none, 0, 0⟩,
    ⟨(.some 65), .mv, [(.t 64)], none, 0, 0⟩,
    ⟨(.some 66), .mv, [(.t 11)], (.some (65, true)), 0, 0⟩,
    ⟨(.some 67), .mv, [(.t 1)], (.some (65, true)), 0, 0⟩,
    ⟨(.some 68), .mv, [(.t 2)], (.some (65, true)), 0, 0⟩,
    ⟨(.some 69), (.arith .xor), [(.t 68), (.c (.int .i64 4611686018427387904))], (.some (65, true)), 0, 0⟩,
    ⟨(.some 70), .mv, [(.t 3)], (.some (65, true)), 0, 0⟩,
    ⟨(.some 71), (.call 12), [(.t 66), (.t 67), (.t 69), (.t 70)], (.some (65, true)), 0, 0⟩,
    ⟨(.some 72), .mv, [(.t 13)], (.some (65, true)), 0, 0⟩,
    ⟨(.some 73), (.call 14), [(.t 71), (.t 72)], (.some (65, true)), 0, 0⟩,
    ⟨(.some 74), .pick, [(.t 65), (.t 73), (.c (.bool false))], none, 0, 0⟩,
    ⟨(.some 75), .mv, [(.t 74)], none, 0, 0⟩,
    ⟨(.some 76), (.call 10), [], (.some (75, true)), 0, 0⟩,
    ⟨(.some 77), .pick, [(.t 75), (.t 76), (.c (.bool false))], none, 0, 0⟩,
    ⟨(.some 10), .mv, [(.t 77)], none, 0, 0⟩])
  .ret)))))))
def r5 : List ARes := [(.tmp 10)]
theorem ok5 : FnOk Try.prog 5 c5 r5 :=
  ⟨Try.f5, _, Try.func5, by kernel_rfl, rfl, by kernel_rfl, by kernel_rfl⟩
/-- rill/rilllaw04.CtrKnown -/
def c6 : ACode :=
  (.seq
  (.ops [] [
    ⟨(.some 0), .mv, [(.c (.bool false))], none, 0, 0⟩])
  (.seq
  (.ops [1] [
    ⟨(.some 5), (.mkSl 13 (List.replicate 13 (.int .i64 0)) [(0, 1), (1, 1), (2, 1), (3, 1), (4, 1), (5, 1), (6, 1), (7, 1), (8, 1), (9, 1), (10, 1), (11, 1), (12, 1)]), [(.c (.int .i64 0)), (.c (.int .i64 1)), (.c (.int .i64 15)), (.c (.int .i64 16)), (.c (.int .i64 17)), (.c (.int .i64 31)), (.c (.int .i64 32)), (.c (.int .i64 33)), (.c (.int .i64 255)), (.c (.int .i64 256)), (.c (.int .i64 257)), (.c (.int .i64 4096)), (.c (.int .i64 4100))], none, 0, 0⟩,
    ⟨(.some 1), .mv, [(.t 5)], none, 0, 0⟩])
  (.seq
  (.ops [1, 2] [
    ⟨(.some 6), (.mkSl 10 (List.replicate 10 (.int .i64 0)) [(0, 1), (1, 1), (2, 1), (3, 1), (4, 1), (5, 1), (6, 1), (7, 1), (8, 1), (9, 1)]), [(.c (.int .i64 (-9223372036854775808))), (.c (.int .i64 (-1))), (.c (.int .i64 0)), (.c (.int .i64 1)), (.c (.int .i64 255)), (.c (.int .i64 256)), (.c (.int .i64 1099511627776)), (.c (.int .i64 281474976710655)), (.c (.int .i64 281474976710656)), (.c (.int .i64 9223372036854775807))], none, 0, 0⟩,
    ⟨(.some 2), .mv, [(.t 6)], none, 0, 0⟩])
  (.seq
  (.seq
  (.ops [1, 2, 3] [
    ⟨(.some 3), .mv, [(.c (.int .i64 0))], none, 0, 0⟩])
  (.block 0
    (.loop [1, 2, 3]
      (.seq
      (.seq
      (.ops [1, 2, 3, 10] [
        ⟨(.some 7), .mv, [(.t 3)], none, 0, 0⟩,
        ⟨(.some 8), .mv, [(.t 1)], none, 0, 0⟩,
        ⟨(.some 9), .len, [(.t 8)], none, 0, 0⟩,
        ⟨(.some 10), (.cmp .lss), [(.t 7), (.t 9)], none, 0, 0⟩])
      (.cond (.t 10)
        .skip
        (.exit 0)))
      (.seq
      (.block 1
        (.seq
        (.ops [1, 2, 3, 4] [
          ⟨(.some 4), .mv, [(.c (.int .i64 0))], none, 0, 0⟩])
        (.block 2
          (.loop [1, 2, 3, 4]
            (.seq
            (.seq
            (.ops [1, 2, 3, 4, 16] [
              ⟨(.some 13), .mv, [(.t 4)], none, 0, 0⟩,
              ⟨(.some 14), .mv, [(.t 2)], none, 0, 0⟩,
              ⟨(.some 15), .len, [(.t 14)], none, 0, 0⟩,
              ⟨(.some 16), (.cmp .lss), [(.t 13), (.t 15)], none, 0, 0⟩])
            (.cond (.t 16)
              .skip
              (.exit 2)))
            (.seq
            (.block 3
              (.seq
              (.drawn [1, 2, 3, 4, 76] [
                ⟨(.some 19), (.call 18), [(.c (.int .i64 16))], none, 0, 1⟩,
                ⟨(.some 20), .mv, [(.t 2)], none, 0, 2⟩,
                ⟨(.some 21), .mv, [(.t 4)], none, 0, 2⟩,
                ⟨(.some 22), (.idxAddr 1), [(.t 20), (.t 21)], none, 0, 2⟩,
                ⟨(.some 23), (.load false 1), [(.t 22)], none, 0, 2⟩,
                ⟨(.some 24), .mv, [(.t 2)], none, 0, 2⟩,
                ⟨(.some 25), .mv, [(.t 2)], none, 0, 2⟩,
                ⟨(.some 26), .len, [(.t 25)], none, 0, 2⟩,
                ⟨(.some 27), (.arith .sub), [(.t 26), (.c (.int .i64 1))], none, 0, 2⟩,
                ⟨(.some 28), .mv, [(.t 4)], none, 0, 2⟩,
                ⟨(.some 29), (.arith .sub), [(.t 27), (.t 28)], none, 0, 2⟩,
                ⟨(.some 30), (.idxAddr 1), [(.t 24), (.t 29)], none, 0, 2⟩,
                ⟨(.some 31), (.load false 1), [(.t 30)], none, 0, 2⟩,
                ⟨(.some 32), .mv, [(.t 1)], none, 0, 1⟩,
                ⟨(.some 33), .mv, [(.t 3)], none, 0, 1⟩,
                ⟨(.some 34), (.idxAddr 1), [(.t 32), (.t 33)], none, 0, 1⟩,
                ⟨(.some 35), (.load false 1), [(.t 34)], none, 0, 1⟩,
                ⟨(.some 36), (.call 18), [(.t 35)], none, 1, 2⟩,
                ⟨(.some 37), (.call 3), [(.t 19), (.t 23), (.t 31), (.t 36)], none, 2, 3⟩,
                ⟨(.some 38), .not, [(.t 37)], none, 3, 3⟩,
                ⟨(.some 39), .mv, [(.t 38)], none, 3, 3⟩,
                ⟨(.some 40), (.call 18), [(.c (.int .i64 32))], (.some (39, false)), 3, 4⟩,
                ⟨(.some 41), .mv, [(.t 2)], (.some (39, false)), 3, 5⟩,
                ⟨(.some 42), .mv, [(.t 4)], (.some (39, false)), 3, 5⟩,
                ⟨(.some 43), (.idxAddr 1), [(.t 41), (.t 42)], (.some (39, false)), 3, 5⟩,
                ⟨(.some 44), (.load false 1), [(.t 43)], (.some (39, false)), 3, 5⟩,
                ⟨(.some 45), .mv, [(.t 1)], (.some (39, false)), 3, 5⟩,
                ⟨(.some 46), .mv, [(.t 3)], (.some (39, false)), 3, 5⟩,
                ⟨(.some 47), (.idxAddr 1), [(.t 45), (.t 46)], (.some (39, false)), 3, 5⟩,
                ⟨(.some 48), (.load false 1), [(.t 47)], (.some (39, false)), 3, 5⟩,
                ⟨(.some 49), .mv, [(.t 1)], (.some (39, false)), 3, 4⟩,
                ⟨(.some 50), .mv, [(.t 3)], (.some (39, false)), 3, 4⟩,
                ⟨(.some 51), (.idxAddr 1), [(.t 49), (.t 50)], (.some (39, false)), 3, 4⟩,
                ⟨(.some 52), (.load false 1), [(.t 51)], (.some (39, false)), 3, 4⟩,
                ⟨(.some 53), (.call 18), [(.t 52)], (.some (39, false)), 4, 5⟩,
                ⟨(.some 54), (.call 4), [(.t 40), (.t 44), (.t 48), (.t 53)], (.some (39, false)), 5, 6⟩,
                ⟨(.some 55), .not, [(.t 54)], (.some (39, false)), 6, 6⟩,
                ⟨(.some 56), .pick, [(.t 39), (.c (.bool true)), (.t 55)], none, 6, 6⟩,
                ⟨(.some 57), .mv, [(.t 56)], none, 6, 6⟩,
                ⟨(.some 58), (.call 18), [(.c (.int .i64 24))], (.some (57, false)), 6, 7⟩,
                ⟨(.some 59), .mv, [(.t 2)], (.some (57, false)), 6, 8⟩,
                ⟨(.some 60), .mv, [(.t 4)], (.some (57, false)), 6, 8⟩,
                ⟨(.some 61), (.idxAddr 1), [(.t 59), (.t 60)], (.some (57, false)), 6, 8⟩,
                ⟨(.some 62), (.load false 1), [(.t 61)], (.some (57, false)), 6, 8⟩,
                ⟨(.some 63), .mv, [(.t 2)], (.some (57, false)), 6, 8⟩,
                ⟨(.some 64), .mv, [(.t 4)], (.some (57, false)), 6, 8⟩,
                ⟨(.some 65), (.idxAddr 1), [(.t 63), (.t 64)], (.some (57, false)), 6, 8⟩,
                ⟨(.some 66), (.load false 1), [(.t 65)], (.some (57, false)), 6, 8⟩,
                ⟨(.some 67), .mv, [(.t 1)], (.some (57, false)), 6, 7⟩,
                ⟨(.some 68), .mv, [(.t 3)], (.some (57, false)), 6, 7⟩,
                ⟨(.some 69), (.idxAddr 1), [(.t 67), (.t 68)], (.some (57, false)), 6, 7⟩,
                ⟨(.some 70), (.load false 1), [(.t 69)], (.some (57, false)), 6, 7⟩,
                ⟨(.some 71), (.call 18), [(.t 70)], (.some (57, false)), 7, 8⟩,
                ⟨(.some 72), .mv, [(.t 4)], (.some (57, false)), 6, 8⟩,
                ⟨(.some 73), (.arith .mul), [(.t 72), (.c (.int .i64 7))], (.some (57, false)), 6, 8⟩,
                ⟨(.some 74), (.call 5), [(.t 58), (.t 62), (.t 66), (.t 71), (.t 73)], (.some (57, false)), 8, 9⟩,
                ⟨(.some 75), .not, [(.t 74)], (.some (57, false)), 9, 9⟩,
                ⟨(.some 76), .pick, [(.t 57), (.c (.bool true)), (.t 75)], none, 9, 9⟩])
              (.cond (.t 76)
                (.seq
                (.ops [0] [
                  ⟨(.some 0), .mv, [(.c (.bool false))], none, 0, 0⟩])
                .ret)
                .skip)))
            (.ops [1, 2, 3, 4] [
              ⟨(.some 17), .mv, [(.t 4)], none, 0, 0⟩,
              ⟨(.some 18), (.arith .add), [(.t 17), (.c (.int .i64 1))], none, 0, 0⟩,
              ⟨(.some 4), .mv, [(.t 18)], none, 0, 0⟩])))))))
      (.ops [1, 2, 3] [
        ⟨(.some 11), .mv, [(.t 3)], none, 0, 0⟩,
        ⟨(.some 12), (.arith .add), [(.t 11), (.c (.int .i64 1))], none, 0, 0⟩,
        ⟨(.some 3), .mv, [(.t 12)], none, 0, 0⟩]))))))
  (.seq
  (.ops [0] [
    ⟨(.some 77), (.call 10), [], none, 0, 0⟩,
    ⟨(.some 0), .mv, [(.t 77)], none, 0, 0⟩])
  .ret)))))
def r6 : List ARes := [(.tmp 0)]
theorem ok6 : FnOk Try.prog 6 c6 r6 :=
  ⟨Try.f6, _, Try.func6, by kernel_rfl, rfl, by kernel_rfl, by kernel_rfl⟩
/-- rill/rilllaw04.CtrBoth -/
def c7 : ACode :=
  (.seq
  (.ops [0, 1, 2, 3, 4] [
    ⟨(.some 10), .mv, [(.c (.bool false))], none, 0, 0⟩])
  (.seq
  (.ops [1, 2, 3, 4, 11, 12] [
    ⟨(.some 17), .mv, [(.t 0)], none, 0, 0⟩,
    ⟨(.some 18), (.call 8), [(.t 17)], none, 0, 0⟩,
    ⟨(.some 16), .mv, [(.t 18)], none, 0, 0⟩,
    ⟨(.some 19), (.extract 0), [(.t 16)], none, 0, 0⟩,
    ⟨(.some 20), (.extract 1), [(.t 16)], none, 0, 0⟩,
    ⟨(.some 11), .mv, [(.t 19)], none, 0, 0⟩,
    ⟨(.some 12), .mv, [(.t 20)], none, 0, 0⟩])
  (.seq
  (.seq
  (.ops [1, 2, 3, 4, 11, 32] [
    ⟨(.some 21), .mv, [(.t 12)], none, 0, 0⟩,
    ⟨(.some 22), (.eq true .int), [(.t 21), (.c (.int .i64 0))], none, 0, 0⟩,
    ⟨(.some 23), .mv, [(.t 22)], none, 0, 0⟩,
    ⟨(.some 24), .mv, [(.t 3)], (.some (23, false)), 0, 0⟩,
    ⟨(.some 25), .len, [(.t 24)], (.some (23, false)), 0, 0⟩,
    ⟨(.some 26), (.cmp .gtr), [(.t 25), (.c (.int .i64 8192))], (.some (23, false)), 0, 0⟩,
    ⟨(.some 27), .pick, [(.t 23), (.c (.bool true)), (.t 26)], none, 0, 0⟩,
    ⟨(.some 28), .mv, [(.t 27)], none, 0, 0⟩,
    ⟨(.some 29), .mv, [(.t 4)], (.some (28, false)), 0, 0⟩,
    ⟨(.some 30), .len, [(.t 29)], (.some (28, false)), 0, 0⟩,
    ⟨(.some 31), (.cmp .gtr), [(.t 30), (.c (.int .i64 8192))], (.some (28, false)), 0, 0⟩,
    ⟨(.some 32), .pick, [(.t 28), (.c (.bool true)), (.t 31)], none, 0, 0⟩])
  (.cond (.t 32)
    (.seq
    (.ops [10] [
      ⟨(.some 33), (.call 10), [], none, 0, 0⟩,
      ⟨(.some 10), .mv, [(.t 33)], none, 0, 0⟩])
    .ret)
    .skip))
  (.seq
  (.ops [1, 2, 3, 4, 11, 13] [
    ⟨(.some 34), .mv, [(.t 11)], none, 0, 0⟩,
    ⟨(.some 35), .mv, [(.t 1)], none, 0, 0⟩,
    ⟨(.some 36), .mv, [(.t 2)], none, 0, 0⟩,
    ⟨(.some 37), .mv, [(.t 3)], none, 0, 0⟩,
    ⟨(.some 38), (.call 12), [(.t 34), (.t 35), (.t 36), (.t 37)], none, 0, 0⟩,
    ⟨(.some 13), .mv, [(.t 38)], none, 0, 0⟩])
  (.seq
  (.ops [3, 4, 13, 14] [
    ⟨(.some 39), .mv, [(.t 11)], none, 0, 0⟩,
    ⟨(.some 40), .mv, [(.t 1)], none, 0, 0⟩,
    ⟨(.some 41), .mv, [(.t 2)], none, 0, 0⟩,
    ⟨(.some 42), .mv, [(.t 4)], none, 0, 0⟩,
    ⟨(.some 43), (.call 12), [(.t 39), (.t 40), (.t 41), (.t 42)], none, 0, 0⟩,
    ⟨(.some 14), .mv, [(.t 43)], none, 0, 0⟩])
  (.seq
  (.seq
  (.ops [3, 4, 13, 14, 55] [
    ⟨(.some 44), .mv, [(.t 13)], none, 0, 0⟩,
    ⟨(.some 45), .len, [(.t 44)], none, 0, 0⟩,
    ⟨(.some 46), .mv, [(.t 3)], none, 0, 0⟩,
    ⟨(.some 47), .len, [(.t 46)], none, 0, 0⟩,
    ⟨(.some 48), (.eq true .int), [(.t 45), (.t 47)], none, 0, 0⟩,
    ⟨(.some 49), .mv, [(.t 48)], none, 0, 0⟩,
    ⟨(.some 50), .mv, [(.t 14)], (.some (49, false)), 0, 0⟩,
    ⟨(.some 51), .len, [(.t 50)], (.some (49, false)), 0, 0⟩,
    ⟨(.some 52), .mv, [(.t 4)], (.some (49, false)), 0, 0⟩,
    ⟨(.some 53), .len, [(.t 52)], (.some (49, false)), 0, 0⟩,
    ⟨(.some 54), (.eq true .int), [(.t 51), (.t 53)], (.some (49, false)), 0, 0⟩,
    ⟨(.some 55), .pick, [(.t 49), (.c (.bool true)), (.t 54)], none, 0, 0⟩])
  (.cond (.t 55)
    (.seq
    (.ops [10] [
      ⟨(.some 10), .mv, [(.c (.bool false))], none, 0, 0⟩])
    .ret)
    .skip))
  (.seq
  (.seq
  (.ops [3, 4, 13, 14, 15] [
    ⟨(.some 15), .mv, [(.c (.int .i64 0))], none, 0, 0⟩])
  (.block 0
    (.loop [3, 4, 13, 14, 15]
      (.seq
      (.seq
      (.ops [3, 4, 13, 14, 15, 65] [
        ⟨(.some 56), .mv, [(.t 15)], none, 0, 0⟩,
        ⟨(.some 57), .mv, [(.t 3)], none, 0, 0⟩,
        ⟨(.some 58), .len, [(.t 57)], none, 0, 0⟩,
        ⟨(.some 59), (.cmp .lss), [(.t 56), (.t 58)], none, 0, 0⟩,
        ⟨(.some 60), .mv, [(.t 59)], none, 0, 0⟩,
        ⟨(.some 61), .mv, [(.t 15)], (.some (60, true)), 0, 0⟩,
        ⟨(.some 62), .mv, [(.t 4)], (.some (60, true)), 0, 0⟩,
        ⟨(.some 63), .len, [(.t 62)], (.some (60, true)), 0, 0⟩,
        ⟨(.some 64), (.cmp .lss), [(.t 61), (.t 63)], (.some (60, true)), 0, 0⟩,
        ⟨(.some 65), .pick, [(.t 60), (.t 64), (.c (.bool false))], none, 0, 0⟩])
      (.cond (.t 65)
        .skip
        (.exit 0)))
      (.seq
      (.block 1
        (.seq
        (.drawn [3, 4, 13, 14, 15, 86] [
          ⟨(.some 68), .mv, [(.t 13)], none, 0, 0⟩,
          ⟨(.some 69), .mv, [(.t 15)], none, 0, 0⟩,
          ⟨(.some 70), (.idxAddr 1), [(.t 68), (.t 69)], none, 0, 0⟩,
          ⟨(.some 71), (.load false 1), [(.t 70)], none, 0, 0⟩,
          ⟨(.some 72), .mv, [(.t 14)], none, 0, 0⟩,
          ⟨(.some 73), .mv, [(.t 15)], none, 0, 0⟩,
          ⟨(.some 74), (.idxAddr 1), [(.t 72), (.t 73)], none, 0, 0⟩,
          ⟨(.some 75), (.load false 1), [(.t 74)], none, 0, 0⟩,
          ⟨(.some 76), (.arith .xor), [(.t 71), (.t 75)], none, 0, 0⟩,
          ⟨(.some 77), .mv, [(.t 3)], none, 0, 0⟩,
          ⟨(.some 78), .mv, [(.t 15)], none, 0, 0⟩,
          ⟨(.some 79), (.idxAddr 1), [(.t 77), (.t 78)], none, 0, 0⟩,
          ⟨(.some 80), (.load false 1), [(.t 79)], none, 0, 0⟩,
          ⟨(.some 81), .mv, [(.t 4)], none, 0, 0⟩,
          ⟨(.some 82), .mv, [(.t 15)], none, 0, 0⟩,
          ⟨(.some 83), (.idxAddr 1), [(.t 81), (.t 82)], none, 0, 0⟩,
          ⟨(.some 84), (.load false 1), [(.t 83)], none, 0, 0⟩,
          ⟨(.some 85), (.arith .xor), [(.t 80), (.t 84)], none, 0, 0⟩,
          ⟨(.some 86), (.eq true .int), [(.t 76), (.t 85)], none, 0, 0⟩])
        (.cond (.t 86)
          (.seq
          (.ops [10] [
            ⟨(.some 10), .mv, [(.c (.bool false))], none, 0, 0⟩])
          .ret)
          .skip)))
      (.ops [3, 4, 13, 14, 15] [
        ⟨(.some 66), .mv, [(.t 15)], none, 0, 0⟩,
        ⟨(.some 67), (.arith .add), [(.t 66), (.c (.int .i64 1))], none, 0, 0⟩,
        ⟨(.some 15), .mv, [(.t 67)], none, 0, 0⟩]))))))
  (.seq
  (.ops [10] [
    ⟨(.some 87), (.call 10), [], none, 0, 0⟩,
    ⟨(.some 10), .mv, [(.t 87)], none, 0, 0⟩])
  .ret))))))))
def r7 : List ARes := [(.tmp 10)]
theorem ok7 : FnOk Try.prog 7 c7 r7 :=
  ⟨Try.f7, _, Try.func7, by kernel_rfl, rfl, by kernel_rfl, by kernel_rfl⟩
/-- rill/aes.New -/
def c8 : ACode :=
  (.seq
  (.ops [0] [
    ⟨(.some 2), .mv, [(.c .nilp)], none, 0, 0⟩,
    ⟨(.some 3), .mv, [(.c (.int .i64 0))], none, 0, 0⟩])
  (.seq
  (.ops [0, 4] [
    ⟨(.some 11), .mv, [(.t 0)], none, 0, 0⟩,
    ⟨(.some 12), .len, [(.t 11)], none, 0, 0⟩,
    ⟨(.some 4), .mv, [(.t 12)], none, 0, 0⟩])
  (.seq
  (.seq
  (.ops [0, 4, 22] [
    ⟨(.some 13), .mv, [(.t 4)], none, 0, 0⟩,
    ⟨(.some 14), (.eq true .int), [(.t 13), (.c (.int .i64 16))], none, 0, 0⟩,
    ⟨(.some 15), .mv, [(.t 14)], none, 0, 0⟩,
    ⟨(.some 16), .mv, [(.t 4)], (.some (15, true)), 0, 0⟩,
    ⟨(.some 17), (.eq true .int), [(.t 16), (.c (.int .i64 24))], (.some (15, true)), 0, 0⟩,
    ⟨(.some 18), .pick, [(.t 15), (.t 17), (.c (.bool false))], none, 0, 0⟩,
    ⟨(.some 19), .mv, [(.t 18)], none, 0, 0⟩,
    ⟨(.some 20), .mv, [(.t 4)], (.some (19, true)), 0, 0⟩,
    ⟨(.some 21), (.eq true .int), [(.t 20), (.c (.int .i64 32))], (.some (19, true)), 0, 0⟩,
    ⟨(.some 22), .pick, [(.t 19), (.t 21), (.c (.bool false))], none, 0, 0⟩])
  (.cond (.t 22)
    (.seq
    (.ops [2, 3] [
      ⟨(.some 2), .mv, [(.c .nilp)], none, 0, 0⟩,
      ⟨(.some 3), .mv, [(.c (.int .i64 1))], none, 0, 0⟩])
    .ret)
    .skip))
  (.seq
  (.ops [0, 4, 5] [
    ⟨(.some 23), (.call 19), [], none, 0, 0⟩,
    ⟨(.some 24), (.build ([.nils] ++ List.replicate 256 (.int .u8 0)) [(1, 256)]), [(.t 23)], none, 0, 0⟩,
    ⟨(.some 25), .box, [(.t 24)], none, 0, 0⟩,
    ⟨(.some 5), .mv, [(.t 25)], none, 0, 0⟩])
  (.seq
  (.ops [4, 5, 6] [
    ⟨(.some 26), (.mkSl 0 [] []), [], none, 0, 0⟩,
    ⟨(.some 27), .mv, [(.t 0)], none, 0, 0⟩,
    ⟨(.some 28), (.append 1 1), [(.t 26), (.t 27)], none, 0, 0⟩,
    ⟨(.some 6), .mv, [(.t 28)], none, 0, 0⟩])
  (.seq
  (.ops [4, 5, 6, 7] [
    ⟨(.some 7), .mv, [(.c (.int .u8 1))], none, 0, 0⟩])
  (.seq
  (.seq
  (.ops [4, 5, 6, 7, 8] [
    ⟨(.some 29), .mv, [(.t 4)], none, 0, 0⟩,
    ⟨(.some 8), .mv, [(.t 29)], none, 0, 0⟩])
  (.block 0
    (.loop [4, 5, 6, 7, 8]
      (.seq
      (.seq
      (.ops [4, 5, 6, 7, 8, 35] [
        ⟨(.some 30), .mv, [(.t 8)], none, 0, 0⟩,
        ⟨(.some 31), .mv, [(.t 4)], none, 0, 0⟩,
        ⟨(.some 32), (.arith .quo), [(.t 31), (.c (.int .i64 4))], none, 0, 0⟩,
        ⟨(.some 33), (.arith .add), [(.t 32), (.c (.int .i64 7))], none, 0, 0⟩,
        ⟨(.some 34), (.arith .mul), [(.c (.int .i64 16)), (.t 33)], none, 0, 0⟩,
        ⟨(.some 35), (.cmp .lss), [(.t 30), (.t 34)], none, 0, 0⟩])
      (.cond (.t 35)
        .skip
        (.exit 0)))
      (.seq
      (.block 1
        (.seq
        (.ops [4, 5, 6, 7, 8, 9] [
          ⟨(.some 38), .mv, [(.t 6)], none, 0, 0⟩,
          ⟨(.some 39), .mv, [(.t 8)], none, 0, 0⟩,
          ⟨(.some 40), (.arith .sub), [(.t 39), (.c (.int .i64 4))], none, 0, 0⟩,
          ⟨(.some 41), .mv, [(.t 8)], none, 0, 0⟩,
          ⟨(.some 42), (.slice 1 true true false), [(.t 38), (.t 40), (.t 41)], none, 0, 0⟩,
          ⟨(.some 43), (.arrPtr 4), [(.t 42)], none, 0, 0⟩,
          ⟨(.some 44), (.load true 4), [(.t 43)], none, 0, 0⟩,
          ⟨(.some 9), (.alloc [(.int .u8 0), (.int .u8 0), (.int .u8 0), (.int .u8 0)]), [], none, 0, 0⟩,
          ⟨none, (.store 4), [(.t 9), (.t 44)], none, 0, 0⟩])
        (.seq
        (.block 2
          (.seq
          (.ops [4, 5, 6, 7, 8, 9, 45] [
            ⟨(.some 46), .mv, [(.t 8)], none, 0, 0⟩,
            ⟨(.some 47), .mv, [(.t 4)], none, 0, 0⟩,
            ⟨(.some 48), (.arith .rem), [(.t 46), (.t 47)], none, 0, 0⟩,
            ⟨(.some 49), (.eq false .int), [(.t 48), (.c (.int .i64 0))], none, 0, 0⟩,
            ⟨(.some 45), .mv, [(.t 49)], none, 0, 0⟩])
          (.cond (.t 45)
            (.seq
            (.drawn [4, 5, 6, 7, 8, 9] [
              ⟨(.some 50), .mv, [(.t 5)], none, 0, 0⟩,
              ⟨(.some 51), (.idxAddrArr 4 1), [(.t 9), (.c (.int .i64 1))], none, 0, 0⟩,
              ⟨(.some 52), (.load false 1), [(.t 51)], none, 0, 0⟩,
              ⟨(.some 53), .nilCheck, [(.t 50)], none, 0, 0⟩,
              ⟨(.some 54), (.fieldAddr 1), [(.t 53)], none, 0, 0⟩,
              ⟨(.some 55), (.idxAddrArr 256 1), [(.t 54), (.t 52)], none, 0, 0⟩,
              ⟨(.some 56), (.load false 1), [(.t 55)], none, 0, 0⟩,
              ⟨(.some 57), .mv, [(.t 7)], none, 0, 0⟩,
              ⟨(.some 58), (.arith .xor), [(.t 56), (.t 57)], none, 0, 0⟩,
              ⟨(.some 59), .mv, [(.t 5)], none, 0, 0⟩,
              ⟨(.some 60), (.idxAddrArr 4 1), [(.t 9), (.c (.int .i64 2))], none, 0, 0⟩,
              ⟨(.some 61), (.load false 1), [(.t 60)], none, 0, 0⟩,
              ⟨(.some 62), .nilCheck, [(.t 59)], none, 0, 0⟩,
              ⟨(.some 63), (.fieldAddr 1), [(.t 62)], none, 0, 0⟩,
              ⟨(.some 64), (.idxAddrArr 256 1), [(.t 63), (.t 61)], none, 0, 0⟩,
              ⟨(.some 65), (.load false 1), [(.t 64)], none, 0, 0⟩,
              ⟨(.some 66), .mv, [(.t 5)], none, 0, 0⟩,
              ⟨(.some 67), (.idxAddrArr 4 1), [(.t 9), (.c (.int .i64 3))], none, 0, 0⟩,
              ⟨(.some 68), (.load false 1), [(.t 67)], none, 0, 0⟩,
              ⟨(.some 69), .nilCheck, [(.t 66)], none, 0, 0⟩,
              ⟨(.some 70), (.fieldAddr 1), [(.t 69)], none, 0, 0⟩,
              ⟨(.some 71), (.idxAddrArr 256 1), [(.t 70), (.t 68)], none, 0, 0⟩,
              ⟨(.some 72), (.load false 1), [(.t 71)], none, 0, 0⟩,
              ⟨(.some 73), .mv, [(.t 5)], none, 0, 0⟩,
              ⟨(.some 74), (.idxAddrArr 4 1), [(.t 9), (.c (.int .i64 0))], none, 0, 0⟩,
              ⟨(.some 75), (.load false 1), [(.t 74)], none, 0, 0⟩,
              ⟨(.some 76), .nilCheck, [(.t 73)], none, 0, 0⟩,
              ⟨(.some 77), (.fieldAddr 1), [(.t 76)], none, 0, 0⟩,
              ⟨(.some 78), (.idxAddrArr 256 1), [(.t 77), (.t 75)], none, 0, 0⟩,
              ⟨(.some 79), (.load false 1), [(.t 78)], none, 0, 0⟩,
              ⟨(.some 80), (.build [(.int .u8 0), (.int .u8 0), (.int .u8 0), (.int .u8 0)] [(0, 1), (1, 1), (2, 1), (3, 1)]), [(.t 58), (.t 65), (.t 72), (.t 79)], none, 0, 0⟩,
              ⟨none, (.store 4), [(.t 9), (.t 80)], none, 0, 1⟩])
            (.ops [4, 5, 6, 7, 8, 9] [
              ⟨(.some 81), .mv, [(.t 7)], none, 0, 0⟩,
              ⟨(.some 82), (.call 20), [(.t 81)], none, 0, 0⟩,
              ⟨(.some 7), .mv, [(.t 82)], none, 0, 0⟩]))
            (.seq
            (.ops [4, 5, 6, 7, 8, 9, 83] [
              ⟨(.some 84), .mv, [(.t 4)], none, 0, 0⟩,
              ⟨(.some 85), (.eq false .int), [(.t 84), (.c (.int .i64 32))], none, 0, 0⟩,
              ⟨(.some 86), .mv, [(.t 85)], none, 0, 0⟩,
              ⟨(.some 87), .mv, [(.t 8)], (.some (86, true)), 0, 0⟩,
              ⟨(.some 88), .mv, [(.t 4)], (.some (86, true)), 0, 0⟩,
              ⟨(.some 89), (.arith .rem), [(.t 87), (.t 88)], (.some (86, true)), 0, 0⟩,
              ⟨(.some 90), (.eq false .int), [(.t 89), (.c (.int .i64 16))], (.some (86, true)), 0, 0⟩,
              ⟨(.some 91), .pick, [(.t 86), (.t 90), (.c (.bool false))], none, 0, 0⟩,
              ⟨(.some 83), .mv, [(.t 91)], none, 0, 0⟩])
            (.cond (.t 83)
              (.drawn [4, 5, 6, 7, 8, 9] [
                ⟨(.some 92), .mv, [(.t 5)], none, 0, 0⟩,
                ⟨(.some 93), (.idxAddrArr 4 1), [(.t 9), (.c (.int .i64 0))], none, 0, 0⟩,
                ⟨(.some 94), (.load false 1), [(.t 93)], none, 0, 0⟩,
                ⟨(.some 95), .nilCheck, [(.t 92)], none, 0, 0⟩,
                ⟨(.some 96), (.fieldAddr 1), [(.t 95)], none, 0, 0⟩,
                ⟨(.some 97), (.idxAddrArr 256 1), [(.t 96), (.t 94)], none, 0, 0⟩,
                ⟨(.some 98), (.load false 1), [(.t 97)], none, 0, 0⟩,
                ⟨(.some 99), .mv, [(.t 5)], none, 0, 0⟩,
                ⟨(.some 100), (.idxAddrArr 4 1), [(.t 9), (.c (.int .i64 1))], none, 0, 0⟩,
                ⟨(.some 101), (.load false 1), [(.t 100)], none, 0, 0⟩,
                ⟨(.some 102), .nilCheck, [(.t 99)], none, 0, 0⟩,
                ⟨(.some 103), (.fieldAddr 1), [(.t 102)], none, 0, 0⟩,
                ⟨(.some 104), (.idxAddrArr 256 1), [(.t 103), (.t 101)], none, 0, 0⟩,
                ⟨(.some 105), (.load false 1), [(.t 104)], none, 0, 0⟩,
                ⟨(.some 106), .mv, [(.t 5)], none, 0, 0⟩,
                ⟨(.some 107), (.idxAddrArr 4 1), [(.t 9), (.c (.int .i64 2))], none, 0, 0⟩,
                ⟨(.some 108), (.load false 1), [(.t 107)], none, 0, 0⟩,
                ⟨(.some 109), .nilCheck, [(.t 106)], none, 0, 0⟩,
                ⟨(.some 110), (.fieldAddr 1), [(.t 109)], none, 0, 0⟩,
                ⟨(.some 111), (.idxAddrArr 256 1), [(.t 110), (.t 108)], none, 0, 0⟩,
                ⟨(.some 112), (.load false 1), [(.t 111)], none, 0, 0⟩,
                ⟨(.some 113), .mv, [(.t 5)], none, 0, 0⟩,
                ⟨(.some 114), (.idxAddrArr 4 1), [(.t 9), (.c (.int .i64 3))], none, 0, 0⟩,
                ⟨(.some 115), (.load false 1), [(.t 114)], none, 0, 0⟩,
                ⟨(.some 116), .nilCheck, [(.t 113)], none, 0, 0⟩,
                ⟨(.some 117), (.fieldAddr 1), [(.t 116)], none, 0, 0⟩,
                ⟨(.some 118), (.idxAddrArr 256 1), [(.t 117), (.t 115)], none, 0, 0⟩,
                ⟨(.some 119), (.load false 1), [(.t 118)], none, 0, 0⟩,
                ⟨(.some 120), (.build [(.int .u8 0), (.int .u8 0), (.int .u8 0), (.int .u8 0)] [(0, 1), (1, 1), (2, 1), (3, 1)]), [(.t 98), (.t 105), (.t 112), (.t 119)], none, 0, 0⟩,
                ⟨none, (.store 4), [(.t 9), (.t 120)], none, 0, 1⟩])
              .skip)))))
        (.seq
        (.ops [4, 5, 6, 7, 8, 9, 121] [
          ⟨(.some 121), .mv, [(.c (.int .i64 0))], none, 0, 0⟩])
        (.block 3
          (.loop [4, 5, 6, 7, 8, 9, 121]
            (.seq
            (.ops [4, 5, 6, 7, 8, 9, 121, 122] [
              ⟨(.some 122), (.cmp .lss), [(.t 121), (.c (.int .i64 4))], none, 0, 0⟩])
            (.seq
            (.cond (.t 122)
              .skip
              (.exit 3))
            (.seq
            (.block 4
              (.seq
              (.ops [4, 5, 6, 7, 8, 9, 10, 121] [
                ⟨(.some 123), .mv, [(.t 121)], none, 0, 0⟩,
                ⟨(.some 10), .mv, [(.t 123)], none, 0, 0⟩])
              (.drawn [4, 5, 6, 7, 8, 9, 121] [
                ⟨(.some 124), .mv, [(.t 6)], none, 0, 0⟩,
                ⟨(.some 125), .mv, [(.t 6)], none, 0, 0⟩,
                ⟨(.some 126), .mv, [(.t 8)], none, 0, 0⟩,
                ⟨(.some 127), .mv, [(.t 4)], none, 0, 0⟩,
                ⟨(.some 128), (.arith .sub), [(.t 126), (.t 127)], none, 0, 0⟩,
                ⟨(.some 129), .mv, [(.t 10)], none, 0, 0⟩,
                ⟨(.some 130), (.arith .add), [(.t 128), (.t 129)], none, 0, 0⟩,
                ⟨(.some 131), (.idxAddr 1), [(.t 125), (.t 130)], none, 0, 0⟩,
                ⟨(.some 132), (.load false 1), [(.t 131)], none, 0, 0⟩,
                ⟨(.some 133), .mv, [(.t 10)], none, 0, 0⟩,
                ⟨(.some 134), (.idxAddrArr 4 1), [(.t 9), (.t 133)], none, 0, 0⟩,
                ⟨(.some 135), (.load false 1), [(.t 134)], none, 0, 0⟩,
                ⟨(.some 136), (.arith .xor), [(.t 132), (.t 135)], none, 0, 0⟩,
                ⟨(.some 137), (.mkSl 1 [(.int .u8 0)] [(0, 1)]), [(.t 136)], none, 0, 0⟩,
                ⟨(.some 138), (.append 1 1), [(.t 124), (.t 137)], none, 0, 1⟩,
                ⟨(.some 6), .mv, [(.t 138)], none, 1, 1⟩])))
            (.ops [4, 5, 6, 7, 8, 9, 121] [
              ⟨(.some 139), (.arith .add), [(.t 121), (.c (.int .i64 1))], none, 0, 0⟩,
              ⟨(.some 121), .mv, [(.t 139)], none, 0, 0⟩]))))))))))
      (.ops [4, 5, 6, 7, 8] [
        ⟨(.some 36), .mv, [(.t 8)], none, 0, 0⟩,
        ⟨(.some 37), (.arith .add), [(.t 36), (.c (.int .i64 4))], none, 0, 0⟩,
        ⟨(.some 8), .mv, [(.t 37)], none, 0, 0⟩]))))))
  (.seq
  (.block 5
    (.loop [5, 6]
      (.seq
      (.seq
      (.ops [5, 6, 142] [
        ⟨(.some 140), .mv, [(.t 6)], none, 0, 0⟩,
        ⟨(.some 141), .len, [(.t 140)], none, 0, 0⟩,
        ⟨(.some 142), (.cmp .gtr), [(.t 141), (.c (.int .i64 0))], none, 0, 0⟩])
      (.cond (.t 142)
        .skip
        (.exit 5)))
      (.seq
      (.block 6
        (.drawn [5, 6] [
          ⟨(.some 145), .mv, [(.t 5)], none, 0, 1⟩,
          ⟨(.some 146), .mv, [(.t 5)], none, 0, 0⟩,
          ⟨(.some 147), .nilCheck, [(.t 146)], none, 0, 0⟩,
          ⟨(.some 148), (.fieldAddr 0), [(.t 147)], none, 0, 0⟩,
          ⟨(.some 149), (.load false 1), [(.t 148)], none, 0, 0⟩,
          ⟨(.some 150), .mv, [(.t 6)], none, 0, 0⟩,
          ⟨(.some 151), (.slice 1 false true false), [(.t 150), (.c (.int .i64 16))], none, 0, 0⟩,
          ⟨(.some 152), (.arrPtr 16), [(.t 151)], none, 0, 0⟩,
          ⟨(.some 153), (.load true 16), [(.t 152)], none, 0, 0⟩,
          ⟨(.some 154), (.mkSl 1 (List.replicate 16 (.int .u8 0)) [(0, 16)]), [(.t 153)], none, 0, 0⟩,
          ⟨(.some 155), (.append 16 16), [(.t 149), (.t 154)], none, 0, 1⟩,
          ⟨(.some 156), .nilCheck, [(.t 145)], none, 1, 1⟩,
          ⟨(.some 157), (.fieldAddr 0), [(.t 156)], none, 1, 1⟩,
          ⟨none, (.store 1), [(.t 157), (.t 155)], none, 1, 2⟩]))
      (.ops [5, 6] [
        ⟨(.some 143), .mv, [(.t 6)], none, 0, 0⟩,
        ⟨(.some 144), (.slice 1 true false false), [(.t 143), (.c (.int .i64 16))], none, 0, 0⟩,
        ⟨(.some 6), .mv, [(.t 144)], none, 0, 0⟩])))))
  (.seq
  (.ops [2, 3] [
    ⟨(.some 158), .mv, [(.t 5)], none, 0, 0⟩,
    ⟨(.some 2), .mv, [(.t 158)], none, 0, 0⟩,
    ⟨(.some 3), .mv, [(.c (.int .i64 0))], none, 0, 0⟩])
  .ret)))))))))
def r8 : List ARes := [(.tmp 2), (.tmp 3)]
theorem ok8 : FnOk Try.prog 8 c8 r8 :=
  ⟨Try.f8, _, Try.func8, by kernel_rfl, rfl, by kernel_rfl, by kernel_rfl⟩
/-- rill/rillref03.New -/
def c9 : ACode :=
  (.seq
  (.ops [0] [
    ⟨(.some 2), .mv, [(.c .nilp)], none, 0, 0⟩,
    ⟨(.some 3), .mv, [(.c (.int .i64 0))], none, 0, 0⟩])
  (.seq
  (.seq
  (.ops [0, 23] [
    ⟨(.some 11), .mv, [(.t 0)], none, 0, 0⟩,
    ⟨(.some 12), .len, [(.t 11)], none, 0, 0⟩,
    ⟨(.some 13), (.eq true .int), [(.t 12), (.c (.int .i64 16))], none, 0, 0⟩,
    ⟨(.some 14), .mv, [(.t 13)], none, 0, 0⟩,
    ⟨(.some 15), .mv, [(.t 0)], (.some (14, true)), 0, 0⟩,
    ⟨(.some 16), .len, [(.t 15)], (.some (14, true)), 0, 0⟩,
    ⟨(.some 17), (.eq true .int), [(.t 16), (.c (.int .i64 24))], (.some (14, true)), 0, 0⟩,
    ⟨(.some 18), .pick, [(.t 14), (.t 17), (.c (.bool false))], none, 0, 0⟩,
    ⟨(.some 19), .mv, [(.t 18)], none, 0, 0⟩,
    ⟨(.some 20), .mv, [(.t 0)], (.some (19, true)), 0, 0⟩,
    ⟨(.some 21), .len, [(.t 20)], (.some (19, true)), 0, 0⟩,
    ⟨(.some 22), (.eq true .int), [(.t 21), (.c (.int .i64 32))], (.some (19, true)), 0, 0⟩,
    ⟨(.some 23), .pick, [(.t 19), (.t 22), (.c (.bool false))], none, 0, 0⟩])
  (.cond (.t 23)
    (.seq
    (.ops [2, 3] [
      ⟨(.some 2), .mv, [(.c .nilp)], none, 0, 0⟩,
      ⟨(.some 3), .mv, [(.c (.int .i64 1))], none, 0, 0⟩])
    .ret)
    .skip))
  (.seq
  (.ops [0, 4] [
    ⟨(.some 24), (.call 21), [], none, 0, 0⟩,
    ⟨(.some 25), (.build [.nils, .nils] [(1, 1)]), [(.t 24)], none, 0, 0⟩,
    ⟨(.some 26), .box, [(.t 25)], none, 0, 0⟩,
    ⟨(.some 4), .mv, [(.t 26)], none, 0, 0⟩])
  (.seq
  (.ops [0, 4, 5] [
    ⟨(.some 27), .mv, [(.t 0)], none, 0, 0⟩,
    ⟨(.some 28), .len, [(.t 27)], none, 0, 0⟩,
    ⟨(.some 29), (.arith .quo), [(.t 28), (.c (.int .i64 4))], none, 0, 0⟩,
    ⟨(.some 5), .mv, [(.t 29)], none, 0, 0⟩])
  (.seq
  (.seq
  (.ops [0, 4, 5, 6] [
    ⟨(.some 6), .mv, [(.c (.int .i64 0))], none, 0, 0⟩])
  (.block 0
    (.loop [0, 4, 5, 6]
      (.seq
      (.seq
      (.ops [0, 4, 5, 6, 32] [
        ⟨(.some 30), .mv, [(.t 6)], none, 0, 0⟩,
        ⟨(.some 31), .mv, [(.t 5)], none, 0, 0⟩,
        ⟨(.some 32), (.cmp .lss), [(.t 30), (.t 31)], none, 0, 0⟩])
      (.cond (.t 32)
        .skip
        (.exit 0)))
      (.seq
      (.block 1
        (.drawn [0, 4, 5, 6] [
          ⟨(.some 35), .mv, [(.t 4)], none, 0, 2⟩,
          ⟨(.some 36), .mv, [(.t 4)], none, 0, 1⟩,
          ⟨(.some 37), .nilCheck, [(.t 36)], none, 0, 1⟩,
          ⟨(.some 38), (.fieldAddr 0), [(.t 37)], none, 0, 1⟩,
          ⟨(.some 39), (.load false 1), [(.t 38)], none, 0, 1⟩,
          ⟨(.some 40), (.mkSl 0 [] []), [], none, 0, 0⟩,
          ⟨(.some 41), .mv, [(.t 0)], none, 0, 0⟩,
          ⟨(.some 42), .mv, [(.t 6)], none, 0, 0⟩,
          ⟨(.some 43), (.arith .mul), [(.c (.int .i64 4)), (.t 42)], none, 0, 0⟩,
          ⟨(.some 44), .mv, [(.t 6)], none, 0, 0⟩,
          ⟨(.some 45), (.arith .mul), [(.c (.int .i64 4)), (.t 44)], none, 0, 0⟩,
          ⟨(.some 46), (.arith .add), [(.t 45), (.c (.int .i64 4))], none, 0, 0⟩,
          ⟨(.some 47), (.slice 1 true true false), [(.t 41), (.t 43), (.t 46)], none, 0, 0⟩,
          ⟨(.some 48), (.append 1 1), [(.t 40), (.t 47)], none, 0, 1⟩,
          ⟨(.some 49), (.mkSl 1 [.nils] [(0, 1)]), [(.t 48)], none, 1, 1⟩,
          ⟨(.some 50), (.append 1 24), [(.t 39), (.t 49)], none, 1, 2⟩,
          ⟨(.some 51), .nilCheck, [(.t 35)], none, 2, 2⟩,
          ⟨(.some 52), (.fieldAddr 0), [(.t 51)], none, 2, 2⟩,
          ⟨none, (.store 1), [(.t 52), (.t 50)], none, 2, 3⟩]))
      (.ops [0, 4, 5, 6] [
        ⟨(.some 33), .mv, [(.t 6)], none, 0, 0⟩,
        ⟨(.some 34), (.arith .add), [(.t 33), (.c (.int .i64 1))], none, 0, 0⟩,
        ⟨(.some 6), .mv, [(.t 34)], none, 0, 0⟩]))))))
  (.seq
  (.ops [4, 5, 7] [
    ⟨(.some 7), .mv, [(.c (.int .u8 1))], none, 0, 0⟩])
  (.seq
  (.seq
  (.ops [4, 5, 7, 8] [
    ⟨(.some 53), .mv, [(.t 5)], none, 0, 0⟩,
    ⟨(.some 8), .mv, [(.t 53)], none, 0, 0⟩])
  (.block 2
    (.loop [4, 5, 7, 8]
      (.seq
      (.seq
      (.ops [4, 5, 7, 8, 58] [
        ⟨(.some 54), .mv, [(.t 8)], none, 0, 0⟩,
        ⟨(.some 55), .mv, [(.t 5)], none, 0, 0⟩,
        ⟨(.some 56), (.arith .add), [(.t 55), (.c (.int .i64 7))], none, 0, 0⟩,
        ⟨(.some 57), (.arith .mul), [(.c (.int .i64 4)), (.t 56)], none, 0, 0⟩,
        ⟨(.some 58), (.cmp .lss), [(.t 54), (.t 57)], none, 0, 0⟩])
      (.cond (.t 58)
        .skip
        (.exit 2)))
      (.seq
      (.block 3
        (.seq
        (.ops [4, 5, 7, 8, 9] [
          ⟨(.some 61), (.mkSl 0 [] []), [], none, 0, 0⟩,
          ⟨(.some 62), .mv, [(.t 4)], none, 0, 0⟩,
          ⟨(.some 63), .nilCheck, [(.t 62)], none, 0, 0⟩,
          ⟨(.some 64), (.fieldAddr 0), [(.t 63)], none, 0, 0⟩,
          ⟨(.some 65), (.load false 1), [(.t 64)], none, 0, 0⟩,
          ⟨(.some 66), .mv, [(.t 8)], none, 0, 0⟩,
          ⟨(.some 67), (.arith .sub), [(.t 66), (.c (.int .i64 1))], none, 0, 0⟩,
          ⟨(.some 68), (.idxAddr 1), [(.t 65), (.t 67)], none, 0, 0⟩,
          ⟨(.some 69), (.load false 1), [(.t 68)], none, 0, 0⟩,
          ⟨(.some 70), (.append 1 1), [(.t 61), (.t 69)], none, 0, 0⟩,
          ⟨(.some 9), .mv, [(.t 70)], none, 0, 0⟩])
        (.seq
        (.seq
        (.ops [4, 5, 7, 8, 9, 74] [
          ⟨(.some 71), .mv, [(.t 8)], none, 0, 0⟩,
          ⟨(.some 72), .mv, [(.t 5)], none, 0, 0⟩,
          ⟨(.some 73), (.arith .rem), [(.t 71), (.t 72)], none, 0, 0⟩,
          ⟨(.some 74), (.eq false .int), [(.t 73), (.c (.int .i64 0))], none, 0, 0⟩])
        (.cond (.t 74)
          (.seq
          (.drawn [4, 5, 7, 8, 9] [
            ⟨(.some 75), .mv, [(.t 4)], none, 0, 0⟩,
            ⟨(.some 76), .nilCheck, [(.t 75)], none, 0, 0⟩,
            ⟨(.some 77), (.fieldAddr 1), [(.t 76)], none, 0, 0⟩,
            ⟨(.some 78), (.load false 1), [(.t 77)], none, 0, 0⟩,
            ⟨(.some 79), .mv, [(.t 9)], none, 0, 0⟩,
            ⟨(.some 80), (.idxAddr 1), [(.t 79), (.c (.int .i64 1))], none, 0, 0⟩,
            ⟨(.some 81), (.load false 1), [(.t 80)], none, 0, 0⟩,
            ⟨(.some 82), (.idxAddr 1), [(.t 78), (.t 81)], none, 0, 0⟩,
            ⟨(.some 83), (.load false 1), [(.t 82)], none, 0, 0⟩,
            ⟨(.some 84), .mv, [(.t 7)], none, 0, 0⟩,
            ⟨(.some 85), (.arith .xor), [(.t 83), (.t 84)], none, 0, 0⟩,
            ⟨(.some 86), .mv, [(.t 4)], none, 0, 0⟩,
            ⟨(.some 87), .nilCheck, [(.t 86)], none, 0, 0⟩,
            ⟨(.some 88), (.fieldAddr 1), [(.t 87)], none, 0, 0⟩,
            ⟨(.some 89), (.load false 1), [(.t 88)], none, 0, 0⟩,
            ⟨(.some 90), .mv, [(.t 9)], none, 0, 0⟩,
            ⟨(.some 91), (.idxAddr 1), [(.t 90), (.c (.int .i64 2))], none, 0, 0⟩,
            ⟨(.some 92), (.load false 1), [(.t 91)], none, 0, 0⟩,
            ⟨(.some 93), (.idxAddr 1), [(.t 89), (.t 92)], none, 0, 0⟩,
            ⟨(.some 94), (.load false 1), [(.t 93)], none, 0, 0⟩,
            ⟨(.some 95), .mv, [(.t 4)], none, 0, 0⟩,
            ⟨(.some 96), .nilCheck, [(.t 95)], none, 0, 0⟩,
            ⟨(.some 97), (.fieldAddr 1), [(.t 96)], none, 0, 0⟩,
            ⟨(.some 98), (.load false 1), [(.t 97)], none, 0, 0⟩,
            ⟨(.some 99), .mv, [(.t 9)], none, 0, 0⟩,
            ⟨(.some 100), (.idxAddr 1), [(.t 99), (.c (.int .i64 3))], none, 0, 0⟩,
            ⟨(.some 101), (.load false 1), [(.t 100)], none, 0, 0⟩,
            ⟨(.some 102), (.idxAddr 1), [(.t 98), (.t 101)], none, 0, 0⟩,
            ⟨(.some 103), (.load false 1), [(.t 102)], none, 0, 0⟩,
            ⟨(.some 104), .mv, [(.t 4)], none, 0, 0⟩,
            ⟨(.some 105), .nilCheck, [(.t 104)], none, 0, 0⟩,
            ⟨(.some 106), (.fieldAddr 1), [(.t 105)], none, 0, 0⟩,
            ⟨(.some 107), (.load false 1), [(.t 106)], none, 0, 0⟩,
            ⟨(.some 108), .mv, [(.t 9)], none, 0, 0⟩,
            ⟨(.some 109), (.idxAddr 1), [(.t 108), (.c (.int .i64 0))], none, 0, 0⟩,
            ⟨(.some 110), (.load false 1), [(.t 109)], none, 0, 0⟩,
            ⟨(.some 111), (.idxAddr 1), [(.t 107), (.t 110)], none, 0, 0⟩,
            ⟨(.some 112), (.load false 1), [(.t 111)], none, 0, 0⟩,
            ⟨(.some 113), (.mkSl 4 [(.int .u8 0), (.int .u8 0), (.int .u8 0), (.int .u8 0)] [(0, 1), (1, 1), (2, 1), (3, 1)]), [(.t 85), (.t 94), (.t 103), (.t 112)], none, 0, 0⟩,
            ⟨(.some 9), .mv, [(.t 113)], none, 0, 0⟩])
          (.ops [4, 5, 7, 8, 9] [
            ⟨(.some 114), .mv, [(.t 7)], none, 0, 0⟩,
            ⟨(.some 115), (.call 22), [(.t 114)], none, 0, 0⟩,
            ⟨(.some 7), .mv, [(.t 115)], none, 0, 0⟩]))
          (.seq
          (.ops [4, 5, 7, 8, 9, 122] [
            ⟨(.some 116), .mv, [(.t 5)], none, 0, 0⟩,
            ⟨(.some 117), (.eq false .int), [(.t 116), (.c (.int .i64 8))], none, 0, 0⟩,
            ⟨(.some 118), .mv, [(.t 117)], none, 0, 0⟩,
            ⟨(.some 119), .mv, [(.t 8)], (.some (118, true)), 0, 0⟩,
            ⟨(.some 120), (.arith .rem), [(.t 119), (.c (.int .i64 8))], (.some (118, true)), 0, 0⟩,
            ⟨(.some 121), (.eq false .int), [(.t 120), (.c (.int .i64 4))], (.some (118, true)), 0, 0⟩,
            ⟨(.some 122), .pick, [(.t 118), (.t 121), (.c (.bool false))], none, 0, 0⟩])
          (.cond (.t 122)
            (.drawn [4, 5, 7, 8, 9] [
              ⟨(.some 123), .mv, [(.t 4)], none, 0, 0⟩,
              ⟨(.some 124), .nilCheck, [(.t 123)], none, 0, 0⟩,
              ⟨(.some 125), (.fieldAddr 1), [(.t 124)], none, 0, 0⟩,
              ⟨(.some 126), (.load false 1), [(.t 125)], none, 0, 0⟩,
              ⟨(.some 127), .mv, [(.t 9)], none, 0, 0⟩,
              ⟨(.some 128), (.idxAddr 1), [(.t 127), (.c (.int .i64 0))], none, 0, 0⟩,
              ⟨(.some 129), (.load false 1), [(.t 128)], none, 0, 0⟩,
              ⟨(.some 130), (.idxAddr 1), [(.t 126), (.t 129)], none, 0, 0⟩,
              ⟨(.some 131), (.load false 1), [(.t 130)], none, 0, 0⟩,
              ⟨(.some 132), .mv, [(.t 4)], none, 0, 0⟩,
              ⟨(.some 133), .nilCheck, [(.t 132)], none, 0, 0⟩,
              ⟨(.some 134), (.fieldAddr 1), [(.t 133)], none, 0, 0⟩,
              ⟨(.some 135), (.load false 1), [(.t 134)], none, 0, 0⟩,
              ⟨(.some 136), .mv, [(.t 9)], none, 0, 0⟩,
              ⟨(.some 137), (.idxAddr 1), [(.t 136), (.c (.int .i64 1))], none, 0, 0⟩,
              ⟨(.some 138), (.load false 1), [(.t 137)], none, 0, 0⟩,
              ⟨(.some 139), (.idxAddr 1), [(.t 135), (.t 138)], none, 0, 0⟩,
              ⟨(.some 140), (.load false 1), [(.t 139)], none, 0, 0⟩,
              ⟨(.some 141), .mv, [(.t 4)], none, 0, 0⟩,
              ⟨(.some 142), .nilCheck, [(.t 141)], none, 0, 0⟩,
              ⟨(.some 143), (.fieldAddr 1), [(.t 142)], none, 0, 0⟩,
              ⟨(.some 144), (.load false 1), [(.t 143)], none, 0, 0⟩,
              ⟨(.some 145), .mv, [(.t 9)], none, 0, 0⟩,
              ⟨(.some 146), (.idxAddr 1), [(.t 145), (.c (.int .i64 2))], none, 0, 0⟩,
              ⟨(.some 147), (.load false 1), [(.t 146)], none, 0, 0⟩,
              ⟨(.some 148), (.idxAddr 1), [(.t 144), (.t 147)], none, 0, 0⟩,
              ⟨(.some 149), (.load false 1), [(.t 148)], none, 0, 0⟩,
              ⟨(.some 150), .mv, [(.t 4)], none, 0, 0⟩,
              ⟨(.some 151), .nilCheck, [(.t 150)], none, 0, 0⟩,
              ⟨(.some 152), (.fieldAddr 1), [(.t 151)], none, 0, 0⟩,
              ⟨(.some 153), (.load false 1), [(.t 152)], none, 0, 0⟩,
              ⟨(.some 154), .mv, [(.t 9)], none, 0, 0⟩,
              ⟨(.some 155), (.idxAddr 1), [(.t 154), (.c (.int .i64 3))], none, 0, 0⟩,
              ⟨(.some 156), (.load false 1), [(.t 155)], none, 0, 0⟩,
              ⟨(.some 157), (.idxAddr 1), [(.t 153), (.t 156)], none, 0, 0⟩,
              ⟨(.some 158), (.load false 1), [(.t 157)], none, 0, 0⟩,
              ⟨(.some 159), (.mkSl 4 [(.int .u8 0), (.int .u8 0), (.int .u8 0), (.int .u8 0)] [(0, 1), (1, 1), (2, 1), (3, 1)]), [(.t 131), (.t 140), (.t 149), (.t 158)], none, 0, 0⟩,
              ⟨(.some 9), .mv, [(.t 159)], none, 0, 0⟩])
            .skip))))
        (.seq
        (.ops [4, 5, 7, 8, 9, 10] [
          ⟨(.some 160), .mv, [(.t 4)], none, 0, 0⟩,
          ⟨(.some 161), .nilCheck, [(.t 160)], none, 0, 0⟩,
          ⟨(.some 162), (.fieldAddr 0), [(.t 161)], none, 0, 0⟩,
          ⟨(.some 163), (.load false 1), [(.t 162)], none, 0, 0⟩,
          ⟨(.some 164), .mv, [(.t 8)], none, 0, 0⟩,
          ⟨(.some 165), .mv, [(.t 5)], none, 0, 0⟩,
          ⟨(.some 166), (.arith .sub), [(.t 164), (.t 165)], none, 0, 0⟩,
          ⟨(.some 167), (.idxAddr 1), [(.t 163), (.t 166)], none, 0, 0⟩,
          ⟨(.some 168), (.load false 1), [(.t 167)], none, 0, 0⟩,
          ⟨(.some 10), .mv, [(.t 168)], none, 0, 0⟩])
        (.drawn [4, 5, 7, 8] [
          ⟨(.some 169), .mv, [(.t 4)], none, 0, 1⟩,
          ⟨(.some 170), .mv, [(.t 4)], none, 0, 0⟩,
          ⟨(.some 171), .nilCheck, [(.t 170)], none, 0, 0⟩,
          ⟨(.some 172), (.fieldAddr 0), [(.t 171)], none, 0, 0⟩,
          ⟨(.some 173), (.load false 1), [(.t 172)], none, 0, 0⟩,
          ⟨(.some 174), .mv, [(.t 10)], none, 0, 0⟩,
          ⟨(.some 175), (.idxAddr 1), [(.t 174), (.c (.int .i64 0))], none, 0, 0⟩,
          ⟨(.some 176), (.load false 1), [(.t 175)], none, 0, 0⟩,
          ⟨(.some 177), .mv, [(.t 9)], none, 0, 0⟩,
          ⟨(.some 178), (.idxAddr 1), [(.t 177), (.c (.int .i64 0))], none, 0, 0⟩,
          ⟨(.some 179), (.load false 1), [(.t 178)], none, 0, 0⟩,
          ⟨(.some 180), (.arith .xor), [(.t 176), (.t 179)], none, 0, 0⟩,
          ⟨(.some 181), .mv, [(.t 10)], none, 0, 0⟩,
          ⟨(.some 182), (.idxAddr 1), [(.t 181), (.c (.int .i64 1))], none, 0, 0⟩,
          ⟨(.some 183), (.load false 1), [(.t 182)], none, 0, 0⟩,
          ⟨(.some 184), .mv, [(.t 9)], none, 0, 0⟩,
          ⟨(.some 185), (.idxAddr 1), [(.t 184), (.c (.int .i64 1))], none, 0, 0⟩,
          ⟨(.some 186), (.load false 1), [(.t 185)], none, 0, 0⟩,
          ⟨(.some 187), (.arith .xor), [(.t 183), (.t 186)], none, 0, 0⟩,
          ⟨(.some 188), .mv, [(.t 10)], none, 0, 0⟩,
          ⟨(.some 189), (.idxAddr 1), [(.t 188), (.c (.int .i64 2))], none, 0, 0⟩,
          ⟨(.some 190), (.load false 1), [(.t 189)], none, 0, 0⟩,
          ⟨(.some 191), .mv, [(.t 9)], none, 0, 0⟩,
          ⟨(.some 192), (.idxAddr 1), [(.t 191), (.c (.int .i64 2))], none, 0, 0⟩,
          ⟨(.some 193), (.load false 1), [(.t 192)], none, 0, 0⟩,
          ⟨(.some 194), (.arith .xor), [(.t 190), (.t 193)], none, 0, 0⟩,
          ⟨(.some 195), .mv, [(.t 10)], none, 0, 0⟩,
          ⟨(.some 196), (.idxAddr 1), [(.t 195), (.c (.int .i64 3))], none, 0, 0⟩,
          ⟨(.some 197), (.load false 1), [(.t 196)], none, 0, 0⟩,
          ⟨(.some 198), .mv, [(.t 9)], none, 0, 0⟩,
          ⟨(.some 199), (.idxAddr 1), [(.t 198), (.c (.int .i64 3))], none, 0, 0⟩,
          ⟨(.some 200), (.load false 1), [(.t 199)], none, 0, 0⟩,
          ⟨(.some 201), (.arith .xor), [(.t 197), (.t 200)], none, 0, 0⟩,
          ⟨(.some 202), (.mkSl 4 [(.int .u8 0), (.int .u8 0), (.int .u8 0), (.int .u8 0)] [(0, 1), (1, 1), (2, 1), (3, 1)]), [(.t 180), (.t 187), (.t 194), (.t 201)], none, 0, 0⟩,
          ⟨(.some 203), (.mkSl 1 [.nils] [(0, 1)]), [(.t 202)], none, 0, 0⟩,
          ⟨(.some 204), (.append 1 24), [(.t 173), (.t 203)], none, 0, 1⟩,
          ⟨(.some 205), .nilCheck, [(.t 169)], none, 1, 1⟩,
          ⟨(.some 206), (.fieldAddr 0), [(.t 205)], none, 1, 1⟩,
          ⟨none, (.store 1), [(.t 206), (.t 204)], none, 1, 2⟩])))))
      (.ops [4, 5, 7, 8] [
        ⟨(.some 59), .mv, [(.t 8)], none, 0, 0⟩,
        ⟨(.some 60), (.arith .add), [(.t 59), (.c (.int .i64 1))], none, 0, 0⟩,
        ⟨(.some 8), .mv, [(.t 60)], none, 0, 0⟩]))))))
  (.seq
  (.ops [2, 3] [
    ⟨(.some 207), .mv, [(.t 4)], none, 0, 0⟩,
    ⟨(.some 2), .mv, [(.t 207)], none, 0, 0⟩,
    ⟨(.some 3), .mv, [(.c (.int .i64 0))], none, 0, 0⟩])
  .ret))))))))
def r9 : List ARes := [(.tmp 2), (.tmp 3)]
theorem ok9 : FnOk Try.prog 9 c9 r9 :=
  ⟨Try.f9, _, Try.func9, by kernel_rfl, rfl, by kernel_rfl, by kernel_rfl⟩
/-- rill/rilllaw04.works -/
def c10 : ACode :=
  (.seq
  (.ops [] [
    ⟨(.some 0), .mv, [(.c (.bool false))], none, 0, 0⟩])
  (.seq
  (.ops [1] [
    ⟨(.some 5), (.call 23), [], none, 0, 0⟩,
    ⟨(.some 1), .mv, [(.t 5)], none, 0, 0⟩])
  (.seq
  (.seq
  (.ops [1, 7] [
    ⟨(.some 6), .mv, [(.t 1)], none, 0, 0⟩,
    ⟨(.some 7), (.eq false .ptr), [(.t 6), (.c .nilp)], none, 0, 0⟩])
  (.cond (.t 7)
    (.seq
    (.ops [0] [
      ⟨(.some 0), .mv, [(.c (.bool false))], none, 0, 0⟩])
    .ret)
    .skip))
  (.seq
  (.ops [1, 2] [
    ⟨(.some 8), .mv, [(.t 1)], none, 0, 0⟩,
    ⟨(.some 9), (.mkSlice [(.int .u8 0)] 1), [(.c (.int .i64 20)), (.c (.int .i64 20))], none, 0, 0⟩,
    ⟨(.some 10), (.call 12), [(.t 8), (.c (.int .i64 1)), (.c (.int .i64 2)), (.t 9)], none, 0, 0⟩,
    ⟨(.some 2), .mv, [(.t 10)], none, 0, 0⟩])
  (.seq
  (.ops [1, 2, 3] [
    ⟨(.some 11), .mv, [(.t 1)], none, 0, 0⟩,
    ⟨(.some 12), (.call 25), [(.c (.int .u8 1)), (.c (.int .u8 2)), (.c (.int .u8 0))], none, 0, 0⟩,
    ⟨(.some 13), (.call 24), [(.t 11), (.t 12)], none, 0, 0⟩,
    ⟨(.some 3), (.alloc (List.replicate 16 (.int .u8 0))), [], none, 0, 0⟩,
    ⟨none, (.store 16), [(.t 3), (.t 13)], none, 0, 0⟩])
  (.seq
  (.ops [2, 3, 4] [
    ⟨(.some 14), .mv, [(.t 1)], none, 0, 0⟩,
    ⟨(.some 15), (.call 25), [(.c (.int .u8 1)), (.c (.int .u8 2)), (.c (.int .u8 1))], none, 0, 0⟩,
    ⟨(.some 16), (.call 24), [(.t 14), (.t 15)], none, 0, 0⟩,
    ⟨(.some 4), (.alloc (List.replicate 16 (.int .u8 0))), [], none, 0, 0⟩,
    ⟨none, (.store 16), [(.t 4), (.t 16)], none, 0, 0⟩])
  (.seq
  (.drawn [0] [
    ⟨(.some 17), .mv, [(.t 2)], none, 0, 1⟩,
    ⟨(.some 18), (.sliceArr 16 1 false false false), [(.t 3)], none, 0, 0⟩,
    ⟨(.some 19), (.sliceArr 16 1 false true false), [(.t 4), (.c (.int .i64 4))], none, 0, 0⟩,
    ⟨(.some 20), (.append 1 1), [(.t 18), (.t 19)], none, 0, 1⟩,
    ⟨(.some 21), (.call 14), [(.t 17), (.t 20)], none, 1, 2⟩,
    ⟨(.some 0), .mv, [(.t 21)], none, 2, 2⟩])
  .ret)))))))
def r10 : List ARes := [(.tmp 0)]
theorem ok10 : FnOk Try.prog 10 c10 r10 :=
  ⟨Try.f10, _, Try.func10, by kernel_rfl, rfl, by kernel_rfl, by kernel_rfl⟩
/-- rill/rillkit.LentBytes -/
def c11 : ACode :=
  (.seq
  (.ops [0] [
    ⟨(.some 2), .mv, [(.c .nils)], none, 0, 0⟩])
  (.seq
  (.ops [0, 3] [
    ⟨(.some 5), .mv, [(.t 0)], none, 0, 0⟩,
    ⟨(.some 6), .len, [(.t 5)], none, 0, 0⟩,
    ⟨(.some 7), (.arith .add), [(.t 6), (.c (.int .i64 5))], none, 0, 0⟩,
    ⟨(.some 8), (.mkSlice [(.int .u8 0)] 1), [(.t 7), (.t 7)], none, 0, 0⟩,
    ⟨(.some 3), .mv, [(.t 8)], none, 0, 0⟩])
  (.seq
  (.seq
  (.ops [0, 3, 4] [
    ⟨(.some 4), .mv, [(.c (.int .i64 0))], none, 0, 0⟩])
  (.block 0
    (.loop [0, 3, 4]
      (.seq
      (.seq
      (.ops [0, 3, 4, 12] [
        ⟨(.some 9), .mv, [(.t 4)], none, 0, 0⟩,
        ⟨(.some 10), .mv, [(.t 3)], none, 0, 0⟩,
        ⟨(.some 11), .len, [(.t 10)], none, 0, 0⟩,
        ⟨(.some 12), (.cmp .lss), [(.t 9), (.t 11)], none, 0, 0⟩])
      (.cond (.t 12)
        .skip
        (.exit 0)))
      (.seq
      (.block 1
        (.seq
        (.ops [0, 3, 4] [
          ⟨(.some 15), .mv, [(.t 3)], none, 0, 0⟩,
          ⟨(.some 16), .mv, [(.t 4)], none, 0, 0⟩,
          ⟨(.some 17), (.idxAddr 1), [(.t 15), (.t 16)], none, 0, 0⟩,
          ⟨none, (.store 1), [(.t 17), (.c (.int .u8 165))], none, 0, 0⟩])
        (.seq
        (.ops [0, 3, 4, 21] [
          ⟨(.some 18), .mv, [(.t 4)], none, 0, 0⟩,
          ⟨(.some 19), .mv, [(.t 0)], none, 0, 0⟩,
          ⟨(.some 20), .len, [(.t 19)], none, 0, 0⟩,
          ⟨(.some 21), (.cmp .lss), [(.t 18), (.t 20)], none, 0, 0⟩])
        (.cond (.t 21)
          (.ops [0, 3, 4] [
            ⟨(.some 22), .mv, [(.t 3)], none, 0, 0⟩,
            ⟨(.some 23), .mv, [(.t 4)], none, 0, 0⟩,
            ⟨(.some 24), .mv, [(.t 0)], none, 0, 0⟩,
            ⟨(.some 25), .mv, [(.t 4)], none, 0, 0⟩,
            ⟨(.some 26), (.idxAddr 1), [(.t 24), (.t 25)], none, 0, 0⟩,
            ⟨(.some 27), (.load false 1), [(.t 26)], none, 0, 0⟩,
            ⟨(.some 28), (.idxAddr 1), [(.t 22), (.t 23)], none, 0, 0⟩,
            ⟨none, (.store 1), [(.t 28), (.t 27)], none, 0, 0⟩])
          .skip))))
      (.ops [0, 3, 4] [
        ⟨(.some 13), .mv, [(.t 4)], none, 0, 0⟩,
        ⟨(.some 14), (.arith .add), [(.t 13), (.c (.int .i64 1))], none, 0, 0⟩,
        ⟨(.some 4), .mv, [(.t 14)], none, 0, 0⟩]))))))
  (.seq
  (.ops [2] [
    ⟨(.some 29), .mv, [(.t 3)], none, 0, 0⟩,
    ⟨(.some 2), .mv, [(.t 29)], none, 0, 0⟩])
  .ret))))
def r11 : List ARes := [(.tmp 2)]
theorem ok11 : FnOk Try.prog 11 c11 r11 :=
  ⟨Try.f11, _, Try.func11, by kernel_rfl, rfl, by kernel_rfl, by kernel_rfl⟩
/-- rill/ctr.Xor -/
def c12 : ACode :=
  (.seq
  (.ops [0, 1, 2, 3] [
    ⟨(.some 8), .mv, [(.c .nils)], none, 0, 0⟩])
  (.seq
  (.ops [3, 9] [
    ⟨(.some 13), .mv, [(.t 0)], none, 0, 0⟩,
    ⟨(.some 14), .mv, [(.t 1)], none, 0, 0⟩,
    ⟨(.some 15), .mv, [(.t 2)], none, 0, 0⟩,
    ⟨(.some 16), (.call 26), [(.t 13), (.t 14), (.t 15)], none, 0, 0⟩,
    ⟨(.some 9), .mv, [(.t 16)], none, 0, 0⟩])
  (.seq
  (.ops [3, 9, 10] [
    ⟨(.some 17), .mv, [(.t 3)], none, 0, 0⟩,
    ⟨(.some 18), .len, [(.t 17)], none, 0, 0⟩,
    ⟨(.some 19), (.mkSlice [(.int .u8 0)] 1), [(.t 18), (.t 18)], none, 0, 0⟩,
    ⟨(.some 10), .mv, [(.t 19)], none, 0, 0⟩])
  (.seq
  (.seq
  (.ops [9, 10, 20, 21, 22] [
    ⟨(.some 20), .mv, [(.t 3)], none, 0, 0⟩,
    ⟨(.some 21), .len, [(.t 20)], none, 0, 0⟩,
    ⟨(.some 22), .mv, [(.c (.int .i64 0))], none, 0, 0⟩])
  (.block 0
    (.loop [9, 10, 20, 21, 22]
      (.seq
      (.ops [9, 10, 20, 21, 22, 23] [
        ⟨(.some 23), (.cmp .lss), [(.t 22), (.t 21)], none, 0, 0⟩])
      (.seq
      (.cond (.t 23)
        .skip
        (.exit 0))
      (.seq
      (.block 1
        (.seq
        (.ops [9, 10, 11, 12, 20, 21, 22] [
          ⟨(.some 24), .mv, [(.t 22)], none, 0, 0⟩,
          ⟨(.some 25), (.idxAddr 1), [(.t 20), (.t 22)], none, 0, 0⟩,
          ⟨(.some 26), (.load false 1), [(.t 25)], none, 0, 0⟩,
          ⟨(.some 11), .mv, [(.t 24)], none, 0, 0⟩,
          ⟨(.some 12), .mv, [(.t 26)], none, 0, 0⟩])
        (.ops [9, 10, 20, 21, 22] [
          ⟨(.some 27), .mv, [(.t 10)], none, 0, 0⟩,
          ⟨(.some 28), .mv, [(.t 11)], none, 0, 0⟩,
          ⟨(.some 29), .mv, [(.t 12)], none, 0, 0⟩,
          ⟨(.some 30), .mv, [(.t 9)], none, 0, 0⟩,
          ⟨(.some 31), .callv, [(.t 30)], none, 0, 0⟩,
          ⟨(.some 32), (.arith .xor), [(.t 29), (.t 31)], none, 0, 0⟩,
          ⟨(.some 33), (.idxAddr 1), [(.t 27), (.t 28)], none, 0, 0⟩,
          ⟨none, (.store 1), [(.t 33), (.t 32)], none, 0, 0⟩])))
      (.ops [9, 10, 20, 21, 22] [
        ⟨(.some 34), (.arith .add), [(.t 22), (.c (.int .i64 1))], none, 0, 0⟩,
        ⟨(.some 22), .mv, [(.t 34)], none, 0, 0⟩])))))))
  (.seq
  (.ops [8] [
    ⟨(.some 35), .mv, [(.t 10)], none, 0, 0⟩,
    ⟨(.some 8), .mv, [(.t 35)], none, 0, 0⟩])
  .ret)))))
def r12 : List ARes := [(.tmp 8)]
theorem ok12 : FnOk Try.prog 12 c12 r12 :=
  ⟨Try.f12, _, Try.func12, by kernel_rfl, rfl, by kernel_rfl, by kernel_rfl⟩
/-- rill/rillref04.Xor -/
def c13 : ACode :=
  (.seq
  (.ops [0, 1, 2, 3] [
    ⟨(.some 8), .mv, [(.c .nils)], none, 0, 0⟩])
  (.seq
  (.ops [0, 1, 2, 3, 9] [
    ⟨(.some 9), .mv, [(.c .nils)], none, 0, 0⟩])
  (.seq
  (.seq
  (.ops [0, 1, 2, 3, 9, 10] [
    ⟨(.some 10), .mv, [(.c (.int .i64 0))], none, 0, 0⟩])
  (.block 0
    (.loop [0, 1, 2, 3, 9, 10]
      (.seq
      (.seq
      (.ops [0, 1, 2, 3, 9, 10, 16] [
        ⟨(.some 13), .mv, [(.t 10)], none, 0, 0⟩,
        ⟨(.some 14), .mv, [(.t 3)], none, 0, 0⟩,
        ⟨(.some 15), .len, [(.t 14)], none, 0, 0⟩,
        ⟨(.some 16), (.cmp .lss), [(.t 13), (.t 15)], none, 0, 0⟩])
      (.cond (.t 16)
        .skip
        (.exit 0)))
      (.seq
      (.block 1
        (.seq
        (.ops [0, 1, 2, 3, 9, 10, 11] [
          ⟨(.some 19), .mv, [(.t 0)], none, 0, 0⟩,
          ⟨(.some 20), .mv, [(.t 1)], none, 0, 0⟩,
          ⟨(.some 21), .mv, [(.t 2)], none, 0, 0⟩,
          ⟨(.some 22), .mv, [(.t 10)], none, 0, 0⟩,
          ⟨(.some 23), (.arith .quo), [(.t 22), (.c (.int .i64 16))], none, 0, 0⟩,
          ⟨(.some 24), (.call 27), [(.t 19), (.t 20), (.t 21), (.t 23)], none, 0, 0⟩,
          ⟨(.some 11), (.alloc (List.replicate 16 (.int .u8 0))), [], none, 0, 0⟩,
          ⟨none, (.store 16), [(.t 11), (.t 24)], none, 0, 0⟩])
        (.seq
        (.ops [0, 1, 2, 3, 9, 10, 11, 12] [
          ⟨(.some 12), .mv, [(.c (.int .i64 0))], none, 0, 0⟩])
        (.block 2
          (.loop [0, 1, 2, 3, 9, 10, 11, 12]
            (.seq
            (.seq
            (.ops [0, 1, 2, 3, 9, 10, 11, 12, 34] [
              ⟨(.some 25), .mv, [(.t 12)], none, 0, 0⟩,
              ⟨(.some 26), (.cmp .lss), [(.t 25), (.c (.int .i64 16))], none, 0, 0⟩,
              ⟨(.some 27), .mv, [(.t 26)], none, 0, 0⟩,
              ⟨(.some 28), .mv, [(.t 10)], (.some (27, true)), 0, 0⟩,
              ⟨(.some 29), .mv, [(.t 12)], (.some (27, true)), 0, 0⟩,
              ⟨(.some 30), (.arith .add), [(.t 28), (.t 29)], (.some (27, true)), 0, 0⟩,
              ⟨(.some 31), .mv, [(.t 3)], (.some (27, true)), 0, 0⟩,
              ⟨(.some 32), .len, [(.t 31)], (.some (27, true)), 0, 0⟩,
              ⟨(.some 33), (.cmp .lss), [(.t 30), (.t 32)], (.some (27, true)), 0, 0⟩,
              ⟨(.some 34), .pick, [(.t 27), (.t 33), (.c (.bool false))], none, 0, 0⟩])
            (.cond (.t 34)
              .skip
              (.exit 2)))
            (.seq
            (.block 3
              (.drawn [0, 1, 2, 3, 9, 10, 11, 12] [
                ⟨(.some 37), .mv, [(.t 9)], none, 0, 0⟩,
                ⟨(.some 38), .mv, [(.t 3)], none, 0, 0⟩,
                ⟨(.some 39), .mv, [(.t 10)], none, 0, 0⟩,
                ⟨(.some 40), .mv, [(.t 12)], none, 0, 0⟩,
                ⟨(.some 41), (.arith .add), [(.t 39), (.t 40)], none, 0, 0⟩,
                ⟨(.some 42), (.idxAddr 1), [(.t 38), (.t 41)], none, 0, 0⟩,
                ⟨(.some 43), (.load false 1), [(.t 42)], none, 0, 0⟩,
                ⟨(.some 44), .mv, [(.t 12)], none, 0, 0⟩,
                ⟨(.some 45), (.idxAddrArr 16 1), [(.t 11), (.t 44)], none, 0, 0⟩,
                ⟨(.some 46), (.load false 1), [(.t 45)], none, 0, 0⟩,
                ⟨(.some 47), (.arith .xor), [(.t 43), (.t 46)], none, 0, 0⟩,
                ⟨(.some 48), (.mkSl 1 [(.int .u8 0)] [(0, 1)]), [(.t 47)], none, 0, 0⟩,
                ⟨(.some 49), (.append 1 1), [(.t 37), (.t 48)], none, 0, 1⟩,
                ⟨(.some 9), .mv, [(.t 49)], none, 1, 1⟩]))
            (.ops [0, 1, 2, 3, 9, 10, 11, 12] [
              ⟨(.some 35), .mv, [(.t 12)], none, 0, 0⟩,
              ⟨(.some 36), (.arith .add), [(.t 35), (.c (.int .i64 1))], none, 0, 0⟩,
              ⟨(.some 12), .mv, [(.t 36)], none, 0, 0⟩]))))))))
      (.ops [0, 1, 2, 3, 9, 10] [
        ⟨(.some 17), .mv, [(.t 10)], none, 0, 0⟩,
        ⟨(.some 18), (.arith .add), [(.t 17), (.c (.int .i64 16))], none, 0, 0⟩,
        ⟨(.some 10), .mv, [(.t 18)], none, 0, 0⟩]))))))
  (.seq
  (.ops [8] [
    ⟨(.some 50), .mv, [(.t 9)], none, 0, 0⟩,
    ⟨(.some 8), .mv, [(.t 50)], none, 0, 0⟩])
  .ret))))
def r13 : List ARes := [(.tmp 8)]
theorem ok13 : FnOk Try.prog 13 c13 r13 :=
  ⟨Try.f13, _, Try.func13, by kernel_rfl, rfl, by kernel_rfl, by kernel_rfl⟩
/-- rill/rillkit.SameBytes -/
def c14 : ACode :=
  (.seq
  (.ops [0, 1] [
    ⟨(.some 4), .mv, [(.c (.bool false))], none, 0, 0⟩])
  (.seq
  (.seq
  (.ops [0, 1, 10] [
    ⟨(.some 6), .mv, [(.t 0)], none, 0, 0⟩,
    ⟨(.some 7), .len, [(.t 6)], none, 0, 0⟩,
    ⟨(.some 8), .mv, [(.t 1)], none, 0, 0⟩,
    ⟨(.some 9), .len, [(.t 8)], none, 0, 0⟩,
    ⟨(.some 10), (.eq true .int), [(.t 7), (.t 9)], none, 0, 0⟩])
  (.cond (.t 10)
    (.seq
    (.ops [4] [
      ⟨(.some 4), .mv, [(.c (.bool false))], none, 0, 0⟩])
    .ret)
    .skip))
  (.seq
  (.seq
  (.ops [0, 1, 5] [
    ⟨(.some 5), .mv, [(.c (.int .i64 0))], none, 0, 0⟩])
  (.block 0
    (.loop [0, 1, 5]
      (.seq
      (.seq
      (.ops [0, 1, 5, 14] [
        ⟨(.some 11), .mv, [(.t 5)], none, 0, 0⟩,
        ⟨(.some 12), .mv, [(.t 0)], none, 0, 0⟩,
        ⟨(.some 13), .len, [(.t 12)], none, 0, 0⟩,
        ⟨(.some 14), (.cmp .lss), [(.t 11), (.t 13)], none, 0, 0⟩])
      (.cond (.t 14)
        .skip
        (.exit 0)))
      (.seq
      (.block 1
        (.seq
        (.drawn [0, 1, 5, 25] [
          ⟨(.some 17), .mv, [(.t 0)], none, 0, 0⟩,
          ⟨(.some 18), .mv, [(.t 5)], none, 0, 0⟩,
          ⟨(.some 19), (.idxAddr 1), [(.t 17), (.t 18)], none, 0, 0⟩,
          ⟨(.some 20), (.load false 1), [(.t 19)], none, 0, 0⟩,
          ⟨(.some 21), .mv, [(.t 1)], none, 0, 0⟩,
          ⟨(.some 22), .mv, [(.t 5)], none, 0, 0⟩,
          ⟨(.some 23), (.idxAddr 1), [(.t 21), (.t 22)], none, 0, 0⟩,
          ⟨(.some 24), (.load false 1), [(.t 23)], none, 0, 0⟩,
          ⟨(.some 25), (.eq true .int), [(.t 20), (.t 24)], none, 0, 0⟩])
        (.cond (.t 25)
          (.seq
          (.ops [4] [
            ⟨(.some 4), .mv, [(.c (.bool false))], none, 0, 0⟩])
          .ret)
          .skip)))
      (.ops [0, 1, 5] [
        ⟨(.some 15), .mv, [(.t 5)], none, 0, 0⟩,
        ⟨(.some 16), (.arith .add), [(.t 15), (.c (.int .i64 1))], none, 0, 0⟩,
        ⟨(.some 5), .mv, [(.t 16)], none, 0, 0⟩]))))))
  (.seq
  (.ops [4] [
    ⟨(.some 4), .mv, [(.c (.bool true))], none, 0, 0⟩])
  .ret))))
def r14 : List ARes := [(.tmp 4)]
theorem ok14 : FnOk Try.prog 14 c14 r14 :=
  ⟨Try.f14, _, Try.func14, by kernel_rfl, rfl, by kernel_rfl, by kernel_rfl⟩
/-- rill/rillkit.SpoilBytes -/
def c15 : ACode :=
  (.seq
  (.ops [0, 2] [
    ⟨(.some 2), .mv, [(.c (.int .i64 0))], none, 0, 0⟩])
  (.block 0
    (.loop [0, 2]
      (.seq
      (.seq
      (.ops [0, 2, 6] [
        ⟨(.some 3), .mv, [(.t 2)], none, 0, 0⟩,
        ⟨(.some 4), .mv, [(.t 0)], none, 0, 0⟩,
        ⟨(.some 5), .len, [(.t 4)], none, 0, 0⟩,
        ⟨(.some 6), (.cmp .lss), [(.t 3), (.t 5)], none, 0, 0⟩])
      (.cond (.t 6)
        .skip
        (.exit 0)))
      (.seq
      (.block 1
        (.ops [0, 2] [
          ⟨(.some 9), .mv, [(.t 0)], none, 0, 0⟩,
          ⟨(.some 10), .mv, [(.t 2)], none, 0, 0⟩,
          ⟨(.some 11), .mv, [(.t 0)], none, 0, 0⟩,
          ⟨(.some 12), .mv, [(.t 2)], none, 0, 0⟩,
          ⟨(.some 13), (.idxAddr 1), [(.t 11), (.t 12)], none, 0, 0⟩,
          ⟨(.some 14), (.load false 1), [(.t 13)], none, 0, 0⟩,
          ⟨(.some 15), (.arith .xor), [(.t 14), (.c (.int .u8 90))], none, 0, 0⟩,
          ⟨(.some 16), (.idxAddr 1), [(.t 9), (.t 10)], none, 0, 0⟩,
          ⟨none, (.store 1), [(.t 16), (.t 15)], none, 0, 0⟩]))
      (.ops [0, 2] [
        ⟨(.some 7), .mv, [(.t 2)], none, 0, 0⟩,
        ⟨(.some 8), (.arith .add), [(.t 7), (.c (.int .i64 1))], none, 0, 0⟩,
        ⟨(.some 2), .mv, [(.t 8)], none, 0, 0⟩]))))))
def r15 : List ARes := []
theorem ok15 : FnOk Try.prog 15 c15 r15 :=
  ⟨Try.f15, _, Try.func15, by kernel_rfl, rfl, by kernel_rfl, by kernel_rfl⟩
/-- rill/rillkit.KeptBytes -/
def c16 : ACode :=
  (.seq
  (.ops [0, 1] [
    ⟨(.some 4), .mv, [(.c (.bool false))], none, 0, 0⟩])
  (.seq
  (.seq
  (.ops [0, 1, 20] [
    ⟨(.some 6), .mv, [(.t 0)], none, 0, 0⟩,
    ⟨(.some 7), .len, [(.t 6)], none, 0, 0⟩,
    ⟨(.some 8), .mv, [(.t 1)], none, 0, 0⟩,
    ⟨(.some 9), .len, [(.t 8)], none, 0, 0⟩,
    ⟨(.some 10), (.arith .add), [(.t 9), (.c (.int .i64 5))], none, 0, 0⟩,
    ⟨(.some 11), (.eq true .int), [(.t 7), (.t 10)], none, 0, 0⟩,
    ⟨(.some 12), .mv, [(.t 11)], none, 0, 0⟩,
    ⟨(.some 13), .mv, [(.t 0)], (.some (12, false)), 0, 0⟩,
    ⟨(.some 14), .mv, [(.t 1)], (.some (12, false)), 0, 0⟩,
    ⟨(.some 15), .len, [(.t 14)], (.some (12, false)), 0, 0⟩,
    ⟨(.some 16), (.slice 1 false true false), [(.t 13), (.t 15)], (.some (12, false)), 0, 0⟩,
    ⟨(.some 17), .mv, [(.t 1)], (.some (12, false)), 0, 0⟩,
    ⟨(.some 18), (.call 14), [(.t 16), (.t 17)], (.some (12, false)), 0, 0⟩,
    ⟨(.some 19), .not, [(.t 18)], (.some (12, false)), 0, 0⟩,
    ⟨(.some 20), .pick, [(.t 12), (.c (.bool true)), (.t 19)], none, 0, 0⟩])
  (.cond (.t 20)
    (.seq
    (.ops [4] [
      ⟨(.some 4), .mv, [(.c (.bool false))], none, 0, 0⟩])
    .ret)
    .skip))
  (.seq
  (.seq
  (.ops [0, 5] [
    ⟨(.some 21), .mv, [(.t 1)], none, 0, 0⟩,
    ⟨(.some 22), .len, [(.t 21)], none, 0, 0⟩,
    ⟨(.some 5), .mv, [(.t 22)], none, 0, 0⟩])
  (.block 0
    (.loop [0, 5]
      (.seq
      (.seq
      (.ops [0, 5, 26] [
        ⟨(.some 23), .mv, [(.t 5)], none, 0, 0⟩,
        ⟨(.some 24), .mv, [(.t 0)], none, 0, 0⟩,
        ⟨(.some 25), .len, [(.t 24)], none, 0, 0⟩,
        ⟨(.some 26), (.cmp .lss), [(.t 23), (.t 25)], none, 0, 0⟩])
      (.cond (.t 26)
        .skip
        (.exit 0)))
      (.seq
      (.block 1
        (.seq
        (.ops [0, 5, 33] [
          ⟨(.some 29), .mv, [(.t 0)], none, 0, 0⟩,
          ⟨(.some 30), .mv, [(.t 5)], none, 0, 0⟩,
          ⟨(.some 31), (.idxAddr 1), [(.t 29), (.t 30)], none, 0, 0⟩,
          ⟨(.some 32), (.load false 1), [(.t 31)], none, 0, 0⟩,
          ⟨(.some 33), (.eq true .int), [(.t 32), (.c (.int .u8 165))], none, 0, 0⟩])
        (.cond (.t 33)
          (.seq
          (.ops [4] [
            ⟨(.some 4), .mv, [(.c (.bool false))], none, 0, 0⟩])
          .ret)
          .skip)))
      (.ops [0, 5] [
        ⟨(.some 27), .mv, [(.t 5)], none, 0, 0⟩,
        ⟨(.some 28), (.arith .add), [(.t 27), (.c (.int .i64 1))], none, 0, 0⟩,
        ⟨(.some 5), .mv, [(.t 28)], none, 0, 0⟩]))))))
  (.seq
  (.ops [4] [
    ⟨(.some 4), .mv, [(.c (.bool true))], none, 0, 0⟩])
  .ret))))
def r16 : List ARes := [(.tmp 4)]
theorem ok16 : FnOk Try.prog 16 c16 r16 :=
  ⟨Try.f16, _, Try.func16, by kernel_rfl, rfl, by kernel_rfl, by kernel_rfl⟩
/-- rill/rillkit.Pick -/
def c17 : ACode :=
  (.seq
  (.ops [0, 1] [
    ⟨(.some 4), .mv, [(.c (.int .i64 0))], none, 0, 0⟩])
  (.seq
  (.seq
  (.ops [0, 1, 6] [
    ⟨(.some 5), .mv, [(.t 1)], none, 0, 0⟩,
    ⟨(.some 6), (.cmp .lss), [(.t 5), (.c (.int .i64 1))], none, 0, 0⟩])
  (.cond (.t 6)
    (.seq
    (.ops [4] [
      ⟨(.some 4), .mv, [(.c (.int .i64 0))], none, 0, 0⟩])
    .ret)
    .skip))
  (.seq
  (.ops [0, 1] [
    ⟨(.some 7), .mv, [(.t 0)], none, 0, 0⟩,
    ⟨(.some 8), .mv, [(.t 1)], none, 0, 0⟩,
    ⟨(.some 9), (.arith .rem), [(.t 7), (.t 8)], none, 0, 0⟩,
    ⟨(.some 0), .mv, [(.t 9)], none, 0, 0⟩])
  (.seq
  (.seq
  (.ops [0, 1, 11] [
    ⟨(.some 10), .mv, [(.t 0)], none, 0, 0⟩,
    ⟨(.some 11), (.cmp .lss), [(.t 10), (.c (.int .i64 0))], none, 0, 0⟩])
  (.cond (.t 11)
    (.ops [0] [
      ⟨(.some 12), .mv, [(.t 0)], none, 0, 0⟩,
      ⟨(.some 13), .mv, [(.t 1)], none, 0, 0⟩,
      ⟨(.some 14), (.arith .add), [(.t 12), (.t 13)], none, 0, 0⟩,
      ⟨(.some 0), .mv, [(.t 14)], none, 0, 0⟩])
    .skip))
  (.seq
  (.ops [4] [
    ⟨(.some 15), .mv, [(.t 0)], none, 0, 0⟩,
    ⟨(.some 4), .mv, [(.t 15)], none, 0, 0⟩])
  .ret)))))
def r17 : List ARes := [(.tmp 4)]
theorem ok17 : FnOk Try.prog 17 c17 r17 :=
  ⟨Try.f17, _, Try.func17, by kernel_rfl, rfl, by kernel_rfl, by kernel_rfl⟩
/-- rill/rillkit.Row -/
def c18 : ACode :=
  (.seq
  (.ops [0] [
    ⟨(.some 2), .mv, [(.c .nils)], none, 0, 0⟩])
  (.seq
  (.ops [3] [
    ⟨(.some 5), .mv, [(.t 0)], none, 0, 0⟩,
    ⟨(.some 6), .max, [(.c (.int .i64 0)), (.t 5)], none, 0, 0⟩,
    ⟨(.some 7), (.mkSlice [(.int .u8 0)] 1), [(.t 6), (.t 6)], none, 0, 0⟩,
    ⟨(.some 3), .mv, [(.t 7)], none, 0, 0⟩])
  (.seq
  (.seq
  (.ops [3, 4] [
    ⟨(.some 4), .mv, [(.c (.int .i64 0))], none, 0, 0⟩])
  (.block 0
    (.loop [3, 4]
      (.seq
      (.seq
      (.ops [3, 4, 11] [
        ⟨(.some 8), .mv, [(.t 4)], none, 0, 0⟩,
        ⟨(.some 9), .mv, [(.t 3)], none, 0, 0⟩,
        ⟨(.some 10), .len, [(.t 9)], none, 0, 0⟩,
        ⟨(.some 11), (.cmp .lss), [(.t 8), (.t 10)], none, 0, 0⟩])
      (.cond (.t 11)
        .skip
        (.exit 0)))
      (.seq
      (.block 1
        (.ops [3, 4] [
          ⟨(.some 14), .mv, [(.t 3)], none, 0, 0⟩,
          ⟨(.some 15), .mv, [(.t 4)], none, 0, 0⟩,
          ⟨(.some 16), .mv, [(.t 4)], none, 0, 0⟩,
          ⟨(.some 17), (.arith .mul), [(.t 16), (.c (.int .i64 7))], none, 0, 0⟩,
          ⟨(.some 18), (.arith .add), [(.t 17), (.c (.int .i64 1))], none, 0, 0⟩,
          ⟨(.some 19), (.conv .u8), [(.t 18)], none, 0, 0⟩,
          ⟨(.some 20), (.idxAddr 1), [(.t 14), (.t 15)], none, 0, 0⟩,
          ⟨none, (.store 1), [(.t 20), (.t 19)], none, 0, 0⟩]))
      (.ops [3, 4] [
        ⟨(.some 12), .mv, [(.t 4)], none, 0, 0⟩,
        ⟨(.some 13), (.arith .add), [(.t 12), (.c (.int .i64 1))], none, 0, 0⟩,
        ⟨(.some 4), .mv, [(.t 13)], none, 0, 0⟩]))))))
  (.seq
  (.ops [2] [
    ⟨(.some 21), .mv, [(.t 3)], none, 0, 0⟩,
    ⟨(.some 2), .mv, [(.t 21)], none, 0, 0⟩])
  .ret))))
def r18 : List ARes := [(.tmp 2)]
theorem ok18 : FnOk Try.prog 18 c18 r18 :=
  ⟨Try.f18, _, Try.func18, by kernel_rfl, rfl, by kernel_rfl, by kernel_rfl⟩
/-- rill/aes.table -/
def c19 : ACode :=
  (.seq
  (.ops [0] [
    ⟨(.some 0), (.alloc (List.replicate 256 (.int .u8 0))), [], none, 0, 0⟩])
  (.seq
  (.ops [0, 1] [
    ⟨(.some 1), (.alloc (List.replicate 256 (.int .u8 0))), [], none, 0, 0⟩])
  (.seq
  (.ops [0, 1, 2, 3] [
    ⟨(.some 2), .mv, [(.c (.int .u8 1))], none, 0, 0⟩,
    ⟨(.some 3), .mv, [(.c (.int .u8 1))], none, 0, 0⟩])
  (.seq
  (.block 0
    (.loop [0, 1, 2, 3]
      (.block 1
        (.seq
        (.ops [0, 1, 2, 3] [
          ⟨(.some 4), .mv, [(.t 2)], none, 0, 0⟩,
          ⟨(.some 5), .mv, [(.t 2)], none, 0, 0⟩,
          ⟨(.some 6), (.call 20), [(.t 5)], none, 0, 0⟩,
          ⟨(.some 7), (.arith .xor), [(.t 4), (.t 6)], none, 0, 0⟩,
          ⟨(.some 2), .mv, [(.t 7)], none, 0, 0⟩])
        (.seq
        (.ops [0, 1, 2, 3] [
          ⟨(.some 8), .mv, [(.t 3)], none, 0, 0⟩,
          ⟨(.some 9), .mv, [(.t 3)], none, 0, 0⟩,
          ⟨(.some 10), (.shift .shl), [(.t 9), (.c (.int .u64 1))], none, 0, 0⟩,
          ⟨(.some 11), (.arith .xor), [(.t 8), (.t 10)], none, 0, 0⟩,
          ⟨(.some 3), .mv, [(.t 11)], none, 0, 0⟩])
        (.seq
        (.ops [0, 1, 2, 3] [
          ⟨(.some 12), .mv, [(.t 3)], none, 0, 0⟩,
          ⟨(.some 13), .mv, [(.t 3)], none, 0, 0⟩,
          ⟨(.some 14), (.shift .shl), [(.t 13), (.c (.int .u64 2))], none, 0, 0⟩,
          ⟨(.some 15), (.arith .xor), [(.t 12), (.t 14)], none, 0, 0⟩,
          ⟨(.some 3), .mv, [(.t 15)], none, 0, 0⟩])
        (.seq
        (.ops [0, 1, 2, 3] [
          ⟨(.some 16), .mv, [(.t 3)], none, 0, 0⟩,
          ⟨(.some 17), .mv, [(.t 3)], none, 0, 0⟩,
          ⟨(.some 18), (.shift .shl), [(.t 17), (.c (.int .u64 4))], none, 0, 0⟩,
          ⟨(.some 19), (.arith .xor), [(.t 16), (.t 18)], none, 0, 0⟩,
          ⟨(.some 3), .mv, [(.t 19)], none, 0, 0⟩])
        (.seq
        (.seq
        (.ops [0, 1, 2, 3, 22] [
          ⟨(.some 20), .mv, [(.t 3)], none, 0, 0⟩,
          ⟨(.some 21), (.arith .and), [(.t 20), (.c (.int .u8 128))], none, 0, 0⟩,
          ⟨(.some 22), (.eq true .int), [(.t 21), (.c (.int .u8 0))], none, 0, 0⟩])
        (.cond (.t 22)
          (.ops [0, 1, 2, 3] [
            ⟨(.some 23), .mv, [(.t 3)], none, 0, 0⟩,
            ⟨(.some 24), (.arith .xor), [(.t 23), (.c (.int .u8 9))], none, 0, 0⟩,
            ⟨(.some 3), .mv, [(.t 24)], none, 0, 0⟩])
          .skip))
        (.seq
        (.ops [0, 1, 2, 3] [
          ⟨(.some 25), .mv, [(.t 2)], none, 0, 0⟩,
          ⟨(.some 26), .mv, [(.t 3)], none, 0, 0⟩,
          ⟨(.some 27), .mv, [(.t 3)], none, 0, 0⟩,
          ⟨(.some 28), (.shift .shl), [(.t 27), (.c (.int .u64 1))], none, 0, 0⟩,
          ⟨(.some 29), .mv, [(.t 3)], none, 0, 0⟩,
          ⟨(.some 30), (.shift .shr), [(.t 29), (.c (.int .u64 7))], none, 0, 0⟩,
          ⟨(.some 31), (.arith .or), [(.t 28), (.t 30)], none, 0, 0⟩,
          ⟨(.some 32), (.arith .xor), [(.t 26), (.t 31)], none, 0, 0⟩,
          ⟨(.some 33), .mv, [(.t 3)], none, 0, 0⟩,
          ⟨(.some 34), (.shift .shl), [(.t 33), (.c (.int .u64 2))], none, 0, 0⟩,
          ⟨(.some 35), .mv, [(.t 3)], none, 0, 0⟩,
          ⟨(.some 36), (.shift .shr), [(.t 35), (.c (.int .u64 6))], none, 0, 0⟩,
          ⟨(.some 37), (.arith .or), [(.t 34), (.t 36)], none, 0, 0⟩,
          ⟨(.some 38), (.arith .xor), [(.t 32), (.t 37)], none, 0, 0⟩,
          ⟨(.some 39), .mv, [(.t 3)], none, 0, 0⟩,
          ⟨(.some 40), (.shift .shl), [(.t 39), (.c (.int .u64 3))], none, 0, 0⟩,
          ⟨(.some 41), .mv, [(.t 3)], none, 0, 0⟩,
          ⟨(.some 42), (.shift .shr), [(.t 41), (.c (.int .u64 5))], none, 0, 0⟩,
          ⟨(.some 43), (.arith .or), [(.t 40), (.t 42)], none, 0, 0⟩,
          ⟨(.some 44), (.arith .xor), [(.t 38), (.t 43)], none, 0, 0⟩,
          ⟨(.some 45), .mv, [(.t 3)], none, 0, 0⟩,
          ⟨(.some 46), (.shift .shl), [(.t 45), (.c (.int .u64 4))], none, 0, 0⟩,
          ⟨(.some 47), .mv, [(.t 3)], none, 0, 0⟩,
          ⟨(.some 48), (.shift .shr), [(.t 47), (.c (.int .u64 4))], none, 0, 0⟩,
          ⟨(.some 49), (.arith .or), [(.t 46), (.t 48)], none, 0, 0⟩,
          ⟨(.some 50), (.arith .xor), [(.t 44), (.t 49)], none, 0, 0⟩,
          ⟨(.some 51), (.arith .xor), [(.t 50), (.c (.int .u8 99))], none, 0, 0⟩,
          ⟨(.some 52), (.idxAddrArr 256 1), [(.t 1), (.t 25)], none, 0, 0⟩,
          ⟨none, (.store 1), [(.t 52), (.t 51)], none, 0, 0⟩])
        (.seq
        (.ops [0, 1, 2, 3, 54] [
          ⟨(.some 53), .mv, [(.t 2)], none, 0, 0⟩,
          ⟨(.some 54), (.eq false .int), [(.t 53), (.c (.int .u8 1))], none, 0, 0⟩])
        (.cond (.t 54)
          (.exit 0)
          .skip)))))))))))
  (.seq
  (.ops [0, 1] [
    ⟨(.some 55), (.idxAddrArr 256 1), [(.t 1), (.c (.int .i64 0))], none, 0, 0⟩,
    ⟨none, (.store 1), [(.t 55), (.c (.int .u8 99))], none, 0, 0⟩])
  (.seq
  (.ops [0] [
    ⟨(.some 56), (.load true 256), [(.t 1)], none, 0, 0⟩,
    ⟨none, (.store 256), [(.t 0), (.t 56)], none, 0, 0⟩])
  .ret))))))
def r19 : List ARes := [(.cell 0 true 256)]
theorem ok19 : FnOk Try.prog 19 c19 r19 :=
  ⟨Try.f19, _, Try.func19, by kernel_rfl, rfl, by kernel_rfl, by kernel_rfl⟩
/-- rill/aes.twice -/
def c20 : ACode :=
  (.seq
  (.ops [0] [
    ⟨(.some 2), .mv, [(.c (.int .u8 0))], none, 0, 0⟩])
  (.seq
  (.seq
  (.ops [0, 5] [
    ⟨(.some 3), .mv, [(.t 0)], none, 0, 0⟩,
    ⟨(.some 4), (.arith .and), [(.t 3), (.c (.int .u8 128))], none, 0, 0⟩,
    ⟨(.some 5), (.eq true .int), [(.t 4), (.c (.int .u8 0))], none, 0, 0⟩])
  (.cond (.t 5)
    (.seq
    (.ops [2] [
      ⟨(.some 6), .mv, [(.t 0)], none, 0, 0⟩,
      ⟨(.some 7), (.shift .shl), [(.t 6), (.c (.int .u64 1))], none, 0, 0⟩,
      ⟨(.some 8), (.arith .xor), [(.t 7), (.c (.int .u8 27))], none, 0, 0⟩,
      ⟨(.some 2), .mv, [(.t 8)], none, 0, 0⟩])
    .ret)
    .skip))
  (.seq
  (.ops [2] [
    ⟨(.some 9), .mv, [(.t 0)], none, 0, 0⟩,
    ⟨(.some 10), (.shift .shl), [(.t 9), (.c (.int .u64 1))], none, 0, 0⟩,
    ⟨(.some 2), .mv, [(.t 10)], none, 0, 0⟩])
  .ret)))
def r20 : List ARes := [(.tmp 2)]
theorem ok20 : FnOk Try.prog 20 c20 r20 :=
  ⟨Try.f20, _, Try.func20, by kernel_rfl, rfl, by kernel_rfl, by kernel_rfl⟩
/-- rill/rillref03.Table -/
def c21 : ACode :=
  (.seq
  (.ops [] [
    ⟨(.some 0), .mv, [(.c .nils)], none, 0, 0⟩])
  (.seq
  (.ops [1] [
    ⟨(.some 1), .mv, [(.c .nils)], none, 0, 0⟩])
  (.seq
  (.seq
  (.ops [1, 2] [
    ⟨(.some 2), .mv, [(.c (.int .i64 0))], none, 0, 0⟩])
  (.block 0
    (.loop [1, 2]
      (.seq
      (.seq
      (.ops [1, 2, 4] [
        ⟨(.some 3), .mv, [(.t 2)], none, 0, 0⟩,
        ⟨(.some 4), (.cmp .lss), [(.t 3), (.c (.int .i64 256))], none, 0, 0⟩])
      (.cond (.t 4)
        .skip
        (.exit 0)))
      (.seq
      (.block 1
        (.ops [1, 2] [
          ⟨(.some 7), .mv, [(.t 1)], none, 0, 0⟩,
          ⟨(.some 8), .mv, [(.t 2)], none, 0, 0⟩,
          ⟨(.some 9), (.conv .u8), [(.t 8)], none, 0, 0⟩,
          ⟨(.some 10), (.call 28), [(.t 9)], none, 0, 0⟩,
          ⟨(.some 11), (.mkSl 1 [(.int .u8 0)] [(0, 1)]), [(.t 10)], none, 0, 0⟩,
          ⟨(.some 12), (.append 1 1), [(.t 7), (.t 11)], none, 0, 0⟩,
          ⟨(.some 1), .mv, [(.t 12)], none, 0, 0⟩]))
      (.ops [1, 2] [
        ⟨(.some 5), .mv, [(.t 2)], none, 0, 0⟩,
        ⟨(.some 6), (.arith .add), [(.t 5), (.c (.int .i64 1))], none, 0, 0⟩,
        ⟨(.some 2), .mv, [(.t 6)], none, 0, 0⟩]))))))
  (.seq
  (.ops [0] [
    ⟨(.some 13), .mv, [(.t 1)], none, 0, 0⟩,
    ⟨(.some 0), .mv, [(.t 13)], none, 0, 0⟩])
  .ret))))
def r21 : List ARes := [(.tmp 0)]
theorem ok21 : FnOk Try.prog 21 c21 r21 :=
  ⟨Try.f21, _, Try.func21, by kernel_rfl, rfl, by kernel_rfl, by kernel_rfl⟩
/-- rill/rillref03.Twice -/
def c22 : ACode :=
  (.seq
  (.ops [0] [
    ⟨(.some 2), .mv, [(.c (.int .u8 0))], none, 0, 0⟩])
  (.seq
  (.ops [0, 3] [
    ⟨(.some 4), .mv, [(.t 0)], none, 0, 0⟩,
    ⟨(.some 5), (.shift .shl), [(.t 4), (.c (.int .u64 1))], none, 0, 0⟩,
    ⟨(.some 3), .mv, [(.t 5)], none, 0, 0⟩])
  (.seq
  (.seq
  (.ops [3, 7] [
    ⟨(.some 6), .mv, [(.t 0)], none, 0, 0⟩,
    ⟨(.some 7), (.cmp .geq), [(.t 6), (.c (.int .u8 128))], none, 0, 0⟩])
  (.cond (.t 7)
    (.ops [3] [
      ⟨(.some 8), .mv, [(.t 3)], none, 0, 0⟩,
      ⟨(.some 9), (.arith .xor), [(.t 8), (.c (.int .u8 27))], none, 0, 0⟩,
      ⟨(.some 3), .mv, [(.t 9)], none, 0, 0⟩])
    .skip))
  (.seq
  (.ops [2] [
    ⟨(.some 10), .mv, [(.t 3)], none, 0, 0⟩,
    ⟨(.some 2), .mv, [(.t 10)], none, 0, 0⟩])
  .ret))))
def r22 : List ARes := [(.tmp 2)]
theorem ok22 : FnOk Try.prog 22 c22 r22 :=
  ⟨Try.f22, _, Try.func22, by kernel_rfl, rfl, by kernel_rfl, by kernel_rfl⟩
/-- rill/rilllaw04.some -/
def c23 : ACode :=
  (.seq
  (.ops [] [
    ⟨(.some 0), .mv, [(.c .nilp)], none, 0, 0⟩])
  (.seq
  (.ops [1] [
    ⟨(.some 4), (.call 18), [(.c (.int .i64 16))], none, 0, 0⟩,
    ⟨(.some 5), (.call 8), [(.t 4)], none, 0, 0⟩,
    ⟨(.some 3), .mv, [(.t 5)], none, 0, 0⟩,
    ⟨(.some 6), (.extract 0), [(.t 3)], none, 0, 0⟩,
    ⟨(.some 7), (.extract 1), [(.t 3)], none, 0, 0⟩,
    ⟨(.some 1), .mv, [(.t 6)], none, 0, 0⟩,
    ⟨(.some 2), .mv, [(.t 7)], none, 0, 0⟩])
  (.seq
  (.ops [0] [
    ⟨(.some 8), .mv, [(.t 1)], none, 0, 0⟩,
    ⟨(.some 0), .mv, [(.t 8)], none, 0, 0⟩])
  .ret)))
def r23 : List ARes := [(.tmp 0)]
theorem ok23 : FnOk Try.prog 23 c23 r23 :=
  ⟨Try.f23, _, Try.func23, by kernel_rfl, rfl, by kernel_rfl, by kernel_rfl⟩
/-- (*rill/aes.Cipher).Block -/
def c24 : ACode :=
  (.seq
  (.ops [0, 3, 4] [
    ⟨(.some 3), .box, [(.t 1)], none, 0, 0⟩,
    ⟨(.some 4), (.alloc (List.replicate 16 (.int .u8 0))), [], none, 0, 0⟩])
  (.seq
  (.drawn [0, 4, 5] [
    ⟨(.some 10), (.load true 16), [(.t 3)], none, 0, 0⟩,
    ⟨(.some 11), .mv, [(.t 0)], none, 0, 0⟩,
    ⟨(.some 12), .nilCheck, [(.t 11)], none, 0, 0⟩,
    ⟨(.some 13), (.fieldAddr 0), [(.t 12)], none, 0, 0⟩,
    ⟨(.some 14), (.load false 1), [(.t 13)], none, 0, 0⟩,
    ⟨(.some 15), (.idxAddr 16), [(.t 14), (.c (.int .i64 0))], none, 0, 0⟩,
    ⟨(.some 16), (.load true 16), [(.t 15)], none, 0, 0⟩,
    ⟨(.some 17), (.call 29), [(.t 10), (.t 16)], none, 0, 1⟩,
    ⟨(.some 5), (.alloc (List.replicate 16 (.int .u8 0))), [], none, 0, 1⟩,
    ⟨none, (.store 16), [(.t 5), (.t 17)], none, 1, 2⟩])
  (.seq
  (.seq
  (.ops [0, 4, 5, 22, 23, 24] [
    ⟨(.some 18), .mv, [(.t 0)], none, 0, 0⟩,
    ⟨(.some 19), .nilCheck, [(.t 18)], none, 0, 0⟩,
    ⟨(.some 20), (.fieldAddr 0), [(.t 19)], none, 0, 0⟩,
    ⟨(.some 21), (.load false 1), [(.t 20)], none, 0, 0⟩,
    ⟨(.some 22), (.slice 16 true false false), [(.t 21), (.c (.int .i64 1))], none, 0, 0⟩,
    ⟨(.some 23), .len, [(.t 22)], none, 0, 0⟩,
    ⟨(.some 24), .mv, [(.c (.int .i64 0))], none, 0, 0⟩])
  (.block 0
    (.loop [0, 4, 5, 22, 23, 24]
      (.seq
      (.ops [0, 4, 5, 22, 23, 24, 25] [
        ⟨(.some 25), (.cmp .lss), [(.t 24), (.t 23)], none, 0, 0⟩])
      (.seq
      (.cond (.t 25)
        .skip
        (.exit 0))
      (.seq
      (.block 1
        (.seq
        (.ops [0, 4, 5, 6, 7, 22, 23, 24] [
          ⟨(.some 26), .mv, [(.t 24)], none, 0, 0⟩,
          ⟨(.some 27), (.idxAddr 16), [(.t 22), (.t 24)], none, 0, 0⟩,
          ⟨(.some 28), (.load true 16), [(.t 27)], none, 0, 0⟩,
          ⟨(.some 7), (.alloc (List.replicate 16 (.int .u8 0))), [], none, 0, 0⟩,
          ⟨(.some 6), .mv, [(.t 26)], none, 0, 0⟩,
          ⟨none, (.store 16), [(.t 7), (.t 28)], none, 0, 0⟩])
        (.seq
        (.ops [0, 4, 5, 6, 7, 8, 22, 23, 24] [
          ⟨(.some 8), (.alloc (List.replicate 16 (.int .u8 0))), [], none, 0, 0⟩])
        (.seq
        (.seq
        (.ops [0, 4, 5, 6, 7, 8, 22, 23, 24, 29] [
          ⟨(.some 29), .mv, [(.c (.int .i64 0))], none, 0, 0⟩])
        (.block 2
          (.loop [0, 4, 5, 6, 7, 8, 22, 23, 24, 29]
            (.seq
            (.ops [0, 4, 5, 6, 7, 8, 22, 23, 24, 29, 30] [
              ⟨(.some 30), (.cmp .lss), [(.t 29), (.c (.int .i64 16))], none, 0, 0⟩])
            (.seq
            (.cond (.t 30)
              .skip
              (.exit 2))
            (.seq
            (.block 3
              (.seq
              (.ops [0, 4, 5, 6, 7, 8, 9, 22, 23, 24, 29] [
                ⟨(.some 31), .mv, [(.t 29)], none, 0, 0⟩,
                ⟨(.some 9), .mv, [(.t 31)], none, 0, 0⟩])
              (.drawn [0, 4, 5, 6, 7, 8, 22, 23, 24, 29] [
                ⟨(.some 32), .mv, [(.t 9)], none, 0, 0⟩,
                ⟨(.some 33), .mv, [(.t 0)], none, 0, 0⟩,
                ⟨(.some 34), .mv, [(.t 9)], none, 0, 0⟩,
                ⟨(.some 35), .mv, [(.t 9)], none, 0, 0⟩,
                ⟨(.some 36), (.arith .rem), [(.t 35), (.c (.int .i64 4))], none, 0, 0⟩,
                ⟨(.some 37), (.arith .mul), [(.c (.int .i64 4)), (.t 36)], none, 0, 0⟩,
                ⟨(.some 38), (.arith .add), [(.t 34), (.t 37)], none, 0, 0⟩,
                ⟨(.some 39), (.arith .rem), [(.t 38), (.c (.int .i64 16))], none, 0, 0⟩,
                ⟨(.some 40), (.idxAddrArr 16 1), [(.t 5), (.t 39)], none, 0, 0⟩,
                ⟨(.some 41), (.load false 1), [(.t 40)], none, 0, 0⟩,
                ⟨(.some 42), .nilCheck, [(.t 33)], none, 0, 0⟩,
                ⟨(.some 43), (.fieldAddr 1), [(.t 42)], none, 0, 0⟩,
                ⟨(.some 44), (.idxAddrArr 256 1), [(.t 43), (.t 41)], none, 0, 0⟩,
                ⟨(.some 45), (.load false 1), [(.t 44)], none, 0, 0⟩,
                ⟨(.some 46), (.idxAddrArr 16 1), [(.t 8), (.t 32)], none, 0, 0⟩,
                ⟨none, (.store 1), [(.t 46), (.t 45)], none, 0, 1⟩])))
            (.ops [0, 4, 5, 6, 7, 8, 22, 23, 24, 29] [
              ⟨(.some 47), (.arith .add), [(.t 29), (.c (.int .i64 1))], none, 0, 0⟩,
              ⟨(.some 29), .mv, [(.t 47)], none, 0, 0⟩])))))))
        (.seq
        (.seq
        (.ops [0, 4, 5, 7, 8, 22, 23, 24, 55] [
          ⟨(.some 48), .mv, [(.t 6)], none, 0, 0⟩,
          ⟨(.some 49), .mv, [(.t 0)], none, 0, 0⟩,
          ⟨(.some 50), .nilCheck, [(.t 49)], none, 0, 0⟩,
          ⟨(.some 51), (.fieldAddr 0), [(.t 50)], none, 0, 0⟩,
          ⟨(.some 52), (.load false 1), [(.t 51)], none, 0, 0⟩,
          ⟨(.some 53), .len, [(.t 52)], none, 0, 0⟩,
          ⟨(.some 54), (.arith .sub), [(.t 53), (.c (.int .i64 2))], none, 0, 0⟩,
          ⟨(.some 55), (.cmp .lss), [(.t 48), (.t 54)], none, 0, 0⟩])
        (.cond (.t 55)
          (.ops [0, 4, 5, 7, 8, 22, 23, 24] [
            ⟨(.some 56), (.load true 16), [(.t 8)], none, 0, 0⟩,
            ⟨(.some 57), (.call 30), [(.t 56)], none, 0, 0⟩,
            ⟨none, (.store 16), [(.t 8), (.t 57)], none, 0, 0⟩])
          .skip))
        (.ops [0, 4, 5, 22, 23, 24] [
          ⟨(.some 58), (.load true 16), [(.t 8)], none, 0, 0⟩,
          ⟨(.some 59), (.load true 16), [(.t 7)], none, 0, 0⟩,
          ⟨(.some 60), (.call 29), [(.t 58), (.t 59)], none, 0, 0⟩,
          ⟨none, (.store 16), [(.t 5), (.t 60)], none, 0, 0⟩]))))))
      (.ops [0, 4, 5, 22, 23, 24] [
        ⟨(.some 61), (.arith .add), [(.t 24), (.c (.int .i64 1))], none, 0, 0⟩,
        ⟨(.some 24), .mv, [(.t 61)], none, 0, 0⟩])))))))
  (.seq
  (.ops [4] [
    ⟨(.some 62), (.load true 16), [(.t 5)], none, 0, 0⟩,
    ⟨none, (.store 16), [(.t 4), (.t 62)], none, 0, 0⟩])
  .ret))))
def r24 : List ARes := [(.cell 4 true 16)]
theorem ok24 : FnOk Try.prog 24 c24 r24 :=
  ⟨Try.f24, _, Try.func24, by kernel_rfl, rfl, by kernel_rfl, by kernel_rfl⟩
/-- rill/rilllaw04.block -/
def c25 : ACode :=
  (.seq
  (.ops [0, 1, 2, 6] [
    ⟨(.some 6), (.alloc (List.replicate 16 (.int .u8 0))), [], none, 0, 0⟩])
  (.seq
  (.ops [6] [
    ⟨(.some 7), .mv, [(.t 0)], none, 0, 0⟩,
    ⟨(.some 8), .mv, [(.t 1)], none, 0, 0⟩,
    ⟨(.some 9), .mv, [(.t 2)], none, 0, 0⟩,
    ⟨(.some 10), (.build (List.replicate 16 (.int .u8 0)) [(0, 1), (1, 1), (2, 1), (3, 1), (4, 1), (5, 1), (6, 1), (7, 1), (8, 1), (9, 1), (10, 1), (11, 1), (12, 1), (13, 1), (14, 1), (15, 1)]), [(.c (.int .u8 0)), (.c (.int .u8 0)), (.c (.int .u8 0)), (.c (.int .u8 0)), (.c (.int .u8 0)), (.t 7), (.c (.int .u8 0)), (.c (.int .u8 0)), (.c (.int .u8 0)), (.c (.int .u8 0)), (.c (.int .u8 0)), (.t 8), (.c (.int .u8 0)), (.c (.int .u8 0)), (.c (.int .u8 0)), (.t 9)], none, 0, 0⟩,
    ⟨none, (.store 16), [(.t 6), (.t 10)], none, 0, 0⟩])
  .ret))
def r25 : List ARes := [(.cell 6 true 16)]
theorem ok25 : FnOk Try.prog 25 c25 r25 :=
  ⟨Try.f25, _, Try.func25, by kernel_rfl, rfl, by kernel_rfl, by kernel_rfl⟩
/-- rill/ctr.stream -/
def c26 : ACode :=
  (.seq
  (.ops [1, 2, 3] [
    ⟨(.some 3), .box, [(.t 0)], none, 0, 0⟩,
    ⟨(.some 6), .mv, [(.c .nilf)], none, 0, 0⟩])
  (.seq
  (.ops [1, 2, 3, 7, 8] [
    ⟨(.some 7), (.alloc (List.replicate 16 (.int .u8 0))), [], none, 0, 0⟩,
    ⟨(.some 8), (.alloc (List.replicate 16 (.int .u8 0))), [], none, 0, 0⟩])
  (.seq
  (.ops [2, 3, 7, 8] [
    ⟨(.some 11), (.sliceArr 16 1 false true true), [(.t 7), (.c (.int .i64 6)), (.c (.int .i64 6))], none, 0, 0⟩,
    ⟨(.some 12), .mv, [(.t 1)], none, 0, 0⟩,
    ⟨(.some 13), (.conv .u64), [(.t 12)], none, 0, 0⟩,
    ⟨(.some 14), (.call 31), [(.t 11), (.t 13)], none, 0, 0⟩])
  (.seq
  (.ops [3, 7, 8] [
    ⟨(.some 15), (.sliceArr 16 1 true true true), [(.t 7), (.c (.int .i64 6)), (.c (.int .i64 12)), (.c (.int .i64 12))], none, 0, 0⟩,
    ⟨(.some 16), .mv, [(.t 2)], none, 0, 0⟩,
    ⟨(.some 17), (.conv .u64), [(.t 16)], none, 0, 0⟩,
    ⟨(.some 18), (.call 31), [(.t 15), (.t 17)], none, 0, 0⟩])
  (.seq
  (.ops [3, 7, 8, 9, 10] [
    ⟨(.some 9), (.alloc [(.int .i64 0)]), [], none, 0, 0⟩,
    ⟨(.some 10), (.alloc [(.int .u64 0)]), [], none, 0, 0⟩,
    ⟨none, (.store 1), [(.t 9), (.c (.int .i64 16))], none, 0, 0⟩,
    ⟨none, (.store 1), [(.t 10), (.c (.int .u64 0))], none, 0, 0⟩])
  (.seq
  (.ops [6] [
    ⟨(.some 19), (.mkFn (.func 32) 0), [(.t 9), (.t 7), (.t 10), (.t 3), (.t 8)], none, 0, 0⟩,
    ⟨(.some 6), .mv, [(.t 19)], none, 0, 0⟩])
  .ret))))))
def r26 : List ARes := [(.tmp 6)]
theorem ok26 : FnOk Try.prog 26 c26 r26 :=
  ⟨Try.f26, _, Try.func26, by kernel_rfl, rfl, by kernel_rfl, by kernel_rfl⟩
/-- rill/rillref04.Block -/
def c27 : ACode :=
  (.seq
  (.ops [0, 1, 2, 3, 8] [
    ⟨(.some 8), (.alloc (List.replicate 16 (.int .u8 0))), [], none, 0, 0⟩])
  (.seq
  (.ops [0, 1, 2, 3, 8, 9] [
    ⟨(.some 9), (.alloc (List.replicate 16 (.int .u8 0))), [], none, 0, 0⟩])
  (.seq
  (.ops [0, 2, 3, 8, 9, 10] [
    ⟨(.some 15), .mv, [(.t 1)], none, 0, 0⟩,
    ⟨(.some 16), (.call 33), [(.t 15), (.c (.int .i64 6))], none, 0, 0⟩,
    ⟨(.some 10), .mv, [(.t 16)], none, 0, 0⟩])
  (.seq
  (.ops [0, 3, 8, 9, 10, 11] [
    ⟨(.some 17), .mv, [(.t 2)], none, 0, 0⟩,
    ⟨(.some 18), (.call 33), [(.t 17), (.c (.int .i64 6))], none, 0, 0⟩,
    ⟨(.some 11), .mv, [(.t 18)], none, 0, 0⟩])
  (.seq
  (.ops [0, 8, 9, 10, 11, 12] [
    ⟨(.some 19), .mv, [(.t 3)], none, 0, 0⟩,
    ⟨(.some 20), (.call 33), [(.t 19), (.c (.int .i64 4))], none, 0, 0⟩,
    ⟨(.some 12), .mv, [(.t 20)], none, 0, 0⟩])
  (.seq
  (.seq
  (.ops [0, 8, 9, 10, 11, 12, 13] [
    ⟨(.some 13), .mv, [(.c (.int .i64 0))], none, 0, 0⟩])
  (.block 0
    (.loop [0, 8, 9, 10, 11, 12, 13]
      (.seq
      (.seq
      (.ops [0, 8, 9, 10, 11, 12, 13, 22] [
        ⟨(.some 21), .mv, [(.t 13)], none, 0, 0⟩,
        ⟨(.some 22), (.cmp .lss), [(.t 21), (.c (.int .i64 6))], none, 0, 0⟩])
      (.cond (.t 22)
        .skip
        (.exit 0)))
      (.seq
      (.block 1
        (.seq
        (.ops [0, 8, 9, 10, 11, 12, 13] [
          ⟨(.some 25), .mv, [(.t 13)], none, 0, 0⟩,
          ⟨(.some 26), .mv, [(.t 10)], none, 0, 0⟩,
          ⟨(.some 27), .mv, [(.t 13)], none, 0, 0⟩,
          ⟨(.some 28), (.idxAddr 1), [(.t 26), (.t 27)], none, 0, 0⟩,
          ⟨(.some 29), (.load false 1), [(.t 28)], none, 0, 0⟩,
          ⟨(.some 30), (.idxAddrArr 16 1), [(.t 9), (.t 25)], none, 0, 0⟩,
          ⟨none, (.store 1), [(.t 30), (.t 29)], none, 0, 0⟩])
        (.ops [0, 8, 9, 10, 11, 12, 13] [
          ⟨(.some 31), .mv, [(.t 13)], none, 0, 0⟩,
          ⟨(.some 32), (.arith .add), [(.c (.int .i64 6)), (.t 31)], none, 0, 0⟩,
          ⟨(.some 33), .mv, [(.t 11)], none, 0, 0⟩,
          ⟨(.some 34), .mv, [(.t 13)], none, 0, 0⟩,
          ⟨(.some 35), (.idxAddr 1), [(.t 33), (.t 34)], none, 0, 0⟩,
          ⟨(.some 36), (.load false 1), [(.t 35)], none, 0, 0⟩,
          ⟨(.some 37), (.idxAddrArr 16 1), [(.t 9), (.t 32)], none, 0, 0⟩,
          ⟨none, (.store 1), [(.t 37), (.t 36)], none, 0, 0⟩])))
      (.ops [0, 8, 9, 10, 11, 12, 13] [
        ⟨(.some 23), .mv, [(.t 13)], none, 0, 0⟩,
        ⟨(.some 24), (.arith .add), [(.t 23), (.c (.int .i64 1))], none, 0, 0⟩,
        ⟨(.some 13), .mv, [(.t 24)], none, 0, 0⟩]))))))
  (.seq
  (.seq
  (.ops [0, 8, 9, 12, 14] [
    ⟨(.some 14), .mv, [(.c (.int .i64 0))], none, 0, 0⟩])
  (.block 2
    (.loop [0, 8, 9, 12, 14]
      (.seq
      (.seq
      (.ops [0, 8, 9, 12, 14, 39] [
        ⟨(.some 38), .mv, [(.t 14)], none, 0, 0⟩,
        ⟨(.some 39), (.cmp .lss), [(.t 38), (.c (.int .i64 4))], none, 0, 0⟩])
      (.cond (.t 39)
        .skip
        (.exit 2)))
      (.seq
      (.block 3
        (.ops [0, 8, 9, 12, 14] [
          ⟨(.some 42), .mv, [(.t 14)], none, 0, 0⟩,
          ⟨(.some 43), (.arith .add), [(.c (.int .i64 12)), (.t 42)], none, 0, 0⟩,
          ⟨(.some 44), .mv, [(.t 12)], none, 0, 0⟩,
          ⟨(.some 45), .mv, [(.t 14)], none, 0, 0⟩,
          ⟨(.some 46), (.idxAddr 1), [(.t 44), (.t 45)], none, 0, 0⟩,
          ⟨(.some 47), (.load false 1), [(.t 46)], none, 0, 0⟩,
          ⟨(.some 48), (.idxAddrArr 16 1), [(.t 9), (.t 43)], none, 0, 0⟩,
          ⟨none, (.store 1), [(.t 48), (.t 47)], none, 0, 0⟩]))
      (.ops [0, 8, 9, 12, 14] [
        ⟨(.some 40), .mv, [(.t 14)], none, 0, 0⟩,
        ⟨(.some 41), (.arith .add), [(.t 40), (.c (.int .i64 1))], none, 0, 0⟩,
        ⟨(.some 14), .mv, [(.t 41)], none, 0, 0⟩]))))))
  (.seq
  (.ops [8] [
    ⟨(.some 49), .mv, [(.t 0)], none, 0, 0⟩,
    ⟨(.some 50), (.load true 16), [(.t 9)], none, 0, 0⟩,
    ⟨(.some 51), (.call 34), [(.t 49), (.t 50)], none, 0, 0⟩,
    ⟨none, (.store 16), [(.t 8), (.t 51)], none, 0, 0⟩])
  .ret))))))))
def r27 : List ARes := [(.cell 8 true 16)]
theorem ok27 : FnOk Try.prog 27 c27 r27 :=
  ⟨Try.f27, _, Try.func27, by kernel_rfl, rfl, by kernel_rfl, by kernel_rfl⟩
/-- rill/rillref03.S -/
def c28 : ACode :=
  (.seq
  (.ops [0] [
    ⟨(.some 2), .mv, [(.c (.int .u8 0))], none, 0, 0⟩])
  (.seq
  (.ops [3] [
    ⟨(.some 6), .mv, [(.t 0)], none, 0, 0⟩,
    ⟨(.some 7), (.call 35), [(.t 6)], none, 0, 0⟩,
    ⟨(.some 3), .mv, [(.t 7)], none, 0, 0⟩])
  (.seq
  (.ops [3, 4] [
    ⟨(.some 8), .mv, [(.t 3)], none, 0, 0⟩,
    ⟨(.some 9), (.arith .xor), [(.t 8), (.c (.int .u8 99))], none, 0, 0⟩,
    ⟨(.some 4), .mv, [(.t 9)], none, 0, 0⟩])
  (.seq
  (.seq
  (.ops [3, 4, 5] [
    ⟨(.some 5), .mv, [(.c (.int .u64 1))], none, 0, 0⟩])
  (.block 0
    (.loop [3, 4, 5]
      (.seq
      (.seq
      (.ops [3, 4, 5, 11] [
        ⟨(.some 10), .mv, [(.t 5)], none, 0, 0⟩,
        ⟨(.some 11), (.cmp .leq), [(.t 10), (.c (.int .u64 4))], none, 0, 0⟩])
      (.cond (.t 11)
        .skip
        (.exit 0)))
      (.seq
      (.block 1
        (.ops [3, 4, 5] [
          ⟨(.some 14), .mv, [(.t 4)], none, 0, 0⟩,
          ⟨(.some 15), .mv, [(.t 3)], none, 0, 0⟩,
          ⟨(.some 16), .mv, [(.t 5)], none, 0, 0⟩,
          ⟨(.some 17), (.shift .shl), [(.t 15), (.t 16)], none, 0, 0⟩,
          ⟨(.some 18), .mv, [(.t 3)], none, 0, 0⟩,
          ⟨(.some 19), .mv, [(.t 5)], none, 0, 0⟩,
          ⟨(.some 20), (.arith .sub), [(.c (.int .u64 8)), (.t 19)], none, 0, 0⟩,
          ⟨(.some 21), (.shift .shr), [(.t 18), (.t 20)], none, 0, 0⟩,
          ⟨(.some 22), (.arith .or), [(.t 17), (.t 21)], none, 0, 0⟩,
          ⟨(.some 23), (.arith .xor), [(.t 14), (.t 22)], none, 0, 0⟩,
          ⟨(.some 4), .mv, [(.t 23)], none, 0, 0⟩]))
      (.ops [3, 4, 5] [
        ⟨(.some 12), .mv, [(.t 5)], none, 0, 0⟩,
        ⟨(.some 13), (.arith .add), [(.t 12), (.c (.int .u64 1))], none, 0, 0⟩,
        ⟨(.some 5), .mv, [(.t 13)], none, 0, 0⟩]))))))
  (.seq
  (.ops [2] [
    ⟨(.some 24), .mv, [(.t 4)], none, 0, 0⟩,
    ⟨(.some 2), .mv, [(.t 24)], none, 0, 0⟩])
  .ret)))))
def r28 : List ARes := [(.tmp 2)]
theorem ok28 : FnOk Try.prog 28 c28 r28 :=
  ⟨Try.f28, _, Try.func28, by kernel_rfl, rfl, by kernel_rfl, by kernel_rfl⟩
/-- rill/aes.over -/
def c29 : ACode :=
  (.seq
  (.ops [2, 3, 4] [
    ⟨(.some 2), .box, [(.t 0)], none, 0, 0⟩,
    ⟨(.some 3), .box, [(.t 1)], none, 0, 0⟩,
    ⟨(.some 4), (.alloc (List.replicate 16 (.int .u8 0))), [], none, 0, 0⟩])
  (.seq
  (.seq
  (.ops [2, 3, 4, 6] [
    ⟨(.some 6), .mv, [(.c (.int .i64 0))], none, 0, 0⟩])
  (.block 0
    (.loop [2, 3, 4, 6]
      (.seq
      (.ops [2, 3, 4, 6, 7] [
        ⟨(.some 7), (.cmp .lss), [(.t 6), (.c (.int .i64 16))], none, 0, 0⟩])
      (.seq
      (.cond (.t 7)
        .skip
        (.exit 0))
      (.seq
      (.block 1
        (.seq
        (.ops [2, 3, 4, 5, 6] [
          ⟨(.some 8), .mv, [(.t 6)], none, 0, 0⟩,
          ⟨(.some 5), .mv, [(.t 8)], none, 0, 0⟩])
        (.drawn [2, 3, 4, 6] [
          ⟨(.some 9), .mv, [(.t 5)], none, 0, 0⟩,
          ⟨(.some 10), (.idxAddrArr 16 1), [(.t 2), (.t 9)], none, 0, 0⟩,
          ⟨(.some 11), (.load false 1), [(.t 10)], none, 0, 0⟩,
          ⟨(.some 12), .mv, [(.t 5)], none, 0, 0⟩,
          ⟨(.some 13), (.idxAddrArr 16 1), [(.t 3), (.t 12)], none, 0, 0⟩,
          ⟨(.some 14), (.load false 1), [(.t 13)], none, 0, 0⟩,
          ⟨(.some 15), (.arith .xor), [(.t 11), (.t 14)], none, 0, 0⟩,
          ⟨(.some 16), (.idxAddrArr 16 1), [(.t 2), (.t 9)], none, 0, 0⟩,
          ⟨none, (.store 1), [(.t 16), (.t 15)], none, 0, 1⟩])))
      (.ops [2, 3, 4, 6] [
        ⟨(.some 17), (.arith .add), [(.t 6), (.c (.int .i64 1))], none, 0, 0⟩,
        ⟨(.some 6), .mv, [(.t 17)], none, 0, 0⟩])))))))
  (.seq
  (.ops [4] [
    ⟨(.some 18), (.load true 16), [(.t 2)], none, 0, 0⟩,
    ⟨none, (.store 16), [(.t 4), (.t 18)], none, 0, 0⟩])
  .ret)))
def r29 : List ARes := [(.cell 4 true 16)]
theorem ok29 : FnOk Try.prog 29 c29 r29 :=
  ⟨Try.f29, _, Try.func29, by kernel_rfl, rfl, by kernel_rfl, by kernel_rfl⟩
/-- rill/aes.mix -/
def c30 : ACode :=
  (.seq
  (.ops [1, 2] [
    ⟨(.some 1), .box, [(.t 0)], none, 0, 0⟩,
    ⟨(.some 2), (.alloc (List.replicate 16 (.int .u8 0))), [], none, 0, 0⟩])
  (.seq
  (.ops [1, 2, 3] [
    ⟨(.some 3), (.alloc (List.replicate 16 (.int .u8 0))), [], none, 0, 0⟩])
  (.seq
  (.seq
  (.ops [1, 2, 3, 4] [
    ⟨(.some 4), .mv, [(.c (.int .i64 0))], none, 0, 0⟩])
  (.block 0
    (.loop [1, 2, 3, 4]
      (.seq
      (.seq
      (.ops [1, 2, 3, 4, 8] [
        ⟨(.some 7), .mv, [(.t 4)], none, 0, 0⟩,
        ⟨(.some 8), (.cmp .lss), [(.t 7), (.c (.int .i64 16))], none, 0, 0⟩])
      (.cond (.t 8)
        .skip
        (.exit 0)))
      (.seq
      (.block 1
        (.seq
        (.drawn [1, 2, 3, 4, 5] [
          ⟨(.some 11), .mv, [(.t 4)], none, 0, 0⟩,
          ⟨(.some 12), (.idxAddrArr 16 1), [(.t 1), (.t 11)], none, 0, 0⟩,
          ⟨(.some 13), (.load false 1), [(.t 12)], none, 0, 0⟩,
          ⟨(.some 14), .mv, [(.t 4)], none, 0, 0⟩,
          ⟨(.some 15), (.arith .add), [(.t 14), (.c (.int .i64 1))], none, 0, 0⟩,
          ⟨(.some 16), (.idxAddrArr 16 1), [(.t 1), (.t 15)], none, 0, 0⟩,
          ⟨(.some 17), (.load false 1), [(.t 16)], none, 0, 0⟩,
          ⟨(.some 18), (.arith .xor), [(.t 13), (.t 17)], none, 0, 0⟩,
          ⟨(.some 19), .mv, [(.t 4)], none, 0, 0⟩,
          ⟨(.some 20), (.arith .add), [(.t 19), (.c (.int .i64 2))], none, 0, 0⟩,
          ⟨(.some 21), (.idxAddrArr 16 1), [(.t 1), (.t 20)], none, 0, 0⟩,
          ⟨(.some 22), (.load false 1), [(.t 21)], none, 0, 0⟩,
          ⟨(.some 23), (.arith .xor), [(.t 18), (.t 22)], none, 0, 0⟩,
          ⟨(.some 24), .mv, [(.t 4)], none, 0, 0⟩,
          ⟨(.some 25), (.arith .add), [(.t 24), (.c (.int .i64 3))], none, 0, 0⟩,
          ⟨(.some 26), (.idxAddrArr 16 1), [(.t 1), (.t 25)], none, 0, 0⟩,
          ⟨(.some 27), (.load false 1), [(.t 26)], none, 0, 0⟩,
          ⟨(.some 28), (.arith .xor), [(.t 23), (.t 27)], none, 0, 0⟩,
          ⟨(.some 5), .mv, [(.t 28)], none, 0, 0⟩])
        (.seq
        (.ops [1, 2, 3, 4, 5, 29] [
          ⟨(.some 29), .mv, [(.c (.int .i64 0))], none, 0, 0⟩])
        (.block 2
          (.loop [1, 2, 3, 4, 5, 29]
            (.seq
            (.ops [1, 2, 3, 4, 5, 29, 30] [
              ⟨(.some 30), (.cmp .lss), [(.t 29), (.c (.int .i64 4))], none, 0, 0⟩])
            (.seq
            (.cond (.t 30)
              .skip
              (.exit 2))
            (.seq
            (.block 3
              (.seq
              (.ops [1, 2, 3, 4, 5, 6, 29] [
                ⟨(.some 31), .mv, [(.t 29)], none, 0, 0⟩,
                ⟨(.some 6), .mv, [(.t 31)], none, 0, 0⟩])
              (.drawn [1, 2, 3, 4, 5, 29] [
                ⟨(.some 32), .mv, [(.t 4)], none, 0, 1⟩,
                ⟨(.some 33), .mv, [(.t 6)], none, 0, 1⟩,
                ⟨(.some 34), (.arith .add), [(.t 32), (.t 33)], none, 0, 1⟩,
                ⟨(.some 35), .mv, [(.t 4)], none, 0, 1⟩,
                ⟨(.some 36), .mv, [(.t 6)], none, 0, 1⟩,
                ⟨(.some 37), (.arith .add), [(.t 35), (.t 36)], none, 0, 1⟩,
                ⟨(.some 38), (.idxAddrArr 16 1), [(.t 1), (.t 37)], none, 0, 1⟩,
                ⟨(.some 39), (.load false 1), [(.t 38)], none, 0, 1⟩,
                ⟨(.some 40), .mv, [(.t 5)], none, 0, 1⟩,
                ⟨(.some 41), (.arith .xor), [(.t 39), (.t 40)], none, 0, 1⟩,
                ⟨(.some 42), .mv, [(.t 4)], none, 0, 0⟩,
                ⟨(.some 43), .mv, [(.t 6)], none, 0, 0⟩,
                ⟨(.some 44), (.arith .add), [(.t 42), (.t 43)], none, 0, 0⟩,
                ⟨(.some 45), (.idxAddrArr 16 1), [(.t 1), (.t 44)], none, 0, 0⟩,
                ⟨(.some 46), (.load false 1), [(.t 45)], none, 0, 0⟩,
                ⟨(.some 47), .mv, [(.t 4)], none, 0, 0⟩,
                ⟨(.some 48), .mv, [(.t 6)], none, 0, 0⟩,
                ⟨(.some 49), (.arith .add), [(.t 48), (.c (.int .i64 1))], none, 0, 0⟩,
                ⟨(.some 50), (.arith .rem), [(.t 49), (.c (.int .i64 4))], none, 0, 0⟩,
                ⟨(.some 51), (.arith .add), [(.t 47), (.t 50)], none, 0, 0⟩,
                ⟨(.some 52), (.idxAddrArr 16 1), [(.t 1), (.t 51)], none, 0, 0⟩,
                ⟨(.some 53), (.load false 1), [(.t 52)], none, 0, 0⟩,
                ⟨(.some 54), (.arith .xor), [(.t 46), (.t 53)], none, 0, 0⟩,
                ⟨(.some 55), (.call 20), [(.t 54)], none, 0, 1⟩,
                ⟨(.some 56), (.arith .xor), [(.t 41), (.t 55)], none, 1, 1⟩,
                ⟨(.some 57), (.idxAddrArr 16 1), [(.t 3), (.t 34)], none, 1, 1⟩,
                ⟨none, (.store 1), [(.t 57), (.t 56)], none, 1, 2⟩])))
            (.ops [1, 2, 3, 4, 5, 29] [
              ⟨(.some 58), (.arith .add), [(.t 29), (.c (.int .i64 1))], none, 0, 0⟩,
              ⟨(.some 29), .mv, [(.t 58)], none, 0, 0⟩])))))))))
      (.ops [1, 2, 3, 4] [
        ⟨(.some 9), .mv, [(.t 4)], none, 0, 0⟩,
        ⟨(.some 10), (.arith .add), [(.t 9), (.c (.int .i64 4))], none, 0, 0⟩,
        ⟨(.some 4), .mv, [(.t 10)], none, 0, 0⟩]))))))
  (.seq
  (.ops [2] [
    ⟨(.some 59), (.load true 16), [(.t 3)], none, 0, 0⟩,
    ⟨none, (.store 16), [(.t 2), (.t 59)], none, 0, 0⟩])
  .ret))))
def r30 : List ARes := [(.cell 2 true 16)]
theorem ok30 : FnOk Try.prog 30 c30 r30 :=
  ⟨Try.f30, _, Try.func30, by kernel_rfl, rfl, by kernel_rfl, by kernel_rfl⟩
/-- rill/ctr.put -/
def c31 : ACode :=
  (.seq
  (.ops [0, 1, 6, 7] [
    ⟨(.some 5), .mv, [(.t 0)], none, 0, 0⟩,
    ⟨(.some 6), .len, [(.t 5)], none, 0, 0⟩,
    ⟨(.some 7), .mv, [(.c (.int .i64 0))], none, 0, 0⟩])
  (.block 0
    (.loop [0, 1, 6, 7]
      (.seq
      (.ops [0, 1, 6, 7, 8] [
        ⟨(.some 8), (.cmp .lss), [(.t 7), (.t 6)], none, 0, 0⟩])
      (.seq
      (.cond (.t 8)
        .skip
        (.exit 0))
      (.seq
      (.block 1
        (.seq
        (.ops [0, 1, 4, 6, 7] [
          ⟨(.some 9), .mv, [(.t 7)], none, 0, 0⟩,
          ⟨(.some 4), .mv, [(.t 9)], none, 0, 0⟩])
        (.ops [0, 1, 6, 7] [
          ⟨(.some 10), .mv, [(.t 0)], none, 0, 0⟩,
          ⟨(.some 11), .mv, [(.t 4)], none, 0, 0⟩,
          ⟨(.some 12), .mv, [(.t 1)], none, 0, 0⟩,
          ⟨(.some 13), .mv, [(.t 0)], none, 0, 0⟩,
          ⟨(.some 14), .len, [(.t 13)], none, 0, 0⟩,
          ⟨(.some 15), (.arith .sub), [(.t 14), (.c (.int .i64 1))], none, 0, 0⟩,
          ⟨(.some 16), .mv, [(.t 4)], none, 0, 0⟩,
          ⟨(.some 17), (.arith .sub), [(.t 15), (.t 16)], none, 0, 0⟩,
          ⟨(.some 18), (.arith .mul), [(.c (.int .i64 8)), (.t 17)], none, 0, 0⟩,
          ⟨(.some 19), (.shift .shr), [(.t 12), (.t 18)], none, 0, 0⟩,
          ⟨(.some 20), (.conv .u8), [(.t 19)], none, 0, 0⟩,
          ⟨(.some 21), (.idxAddr 1), [(.t 10), (.t 11)], none, 0, 0⟩,
          ⟨none, (.store 1), [(.t 21), (.t 20)], none, 0, 0⟩])))
      (.ops [0, 1, 6, 7] [
        ⟨(.some 22), (.arith .add), [(.t 7), (.c (.int .i64 1))], none, 0, 0⟩,
        ⟨(.some 7), .mv, [(.t 22)], none, 0, 0⟩])))))))
def r31 : List ARes := []
theorem ok31 : FnOk Try.prog 31 c31 r31 :=
  ⟨Try.f31, _, Try.func31, by kernel_rfl, rfl, by kernel_rfl, by kernel_rfl⟩
/-- rill/ctr.stream$1 -/
def c32 : ACode :=
  (.seq
  (.ops [0, 1, 2, 3, 4] [
    ⟨(.some 5), .mv, [(.c (.int .u8 0))], none, 0, 0⟩])
  (.seq
  (.seq
  (.ops [0, 1, 2, 3, 4, 7] [
    ⟨(.some 6), (.load false 1), [(.t 0)], none, 0, 0⟩,
    ⟨(.some 7), (.eq false .int), [(.t 6), (.c (.int .i64 16))], none, 0, 0⟩])
  (.cond (.t 7)
    (.seq
    (.drawn [0, 1, 2, 3, 4] [
      ⟨(.some 8), (.sliceArr 16 1 true false false), [(.t 1), (.c (.int .i64 12))], none, 0, 0⟩,
      ⟨(.some 9), (.load false 1), [(.t 2)], none, 0, 0⟩,
      ⟨(.some 10), (.call 31), [(.t 8), (.t 9)], none, 0, 1⟩])
    (.seq
    (.ops [0, 2, 4] [
      ⟨(.some 11), (.load false 1), [(.t 3)], none, 0, 0⟩,
      ⟨(.some 12), (.load true 16), [(.t 1)], none, 0, 0⟩,
      ⟨(.some 13), (.call 24), [(.t 11), (.t 12)], none, 0, 0⟩,
      ⟨none, (.store 16), [(.t 4), (.t 13)], none, 0, 0⟩])
    (.drawn [0, 4] [
      ⟨(.some 14), (.load false 1), [(.t 2)], none, 0, 1⟩,
      ⟨(.some 15), (.arith .add), [(.t 14), (.c (.int .u64 1))], none, 0, 1⟩,
      ⟨none, (.store 1), [(.t 0), (.c (.int .i64 0))], none, 0, 1⟩,
      ⟨none, (.store 1), [(.t 2), (.t 15)], none, 1, 2⟩])))
    .skip))
  (.seq
  (.ops [0, 4] [
    ⟨(.some 16), (.load false 1), [(.t 0)], none, 0, 0⟩,
    ⟨(.some 17), (.arith .add), [(.t 16), (.c (.int .i64 1))], none, 0, 0⟩,
    ⟨none, (.store 1), [(.t 0), (.t 17)], none, 0, 0⟩])
  (.seq
  (.ops [5] [
    ⟨(.some 18), (.load false 1), [(.t 0)], none, 0, 0⟩,
    ⟨(.some 19), (.arith .sub), [(.t 18), (.c (.int .i64 1))], none, 0, 0⟩,
    ⟨(.some 20), (.idxAddrArr 16 1), [(.t 4), (.t 19)], none, 0, 0⟩,
    ⟨(.some 21), (.load false 1), [(.t 20)], none, 0, 0⟩,
    ⟨(.some 5), .mv, [(.t 21)], none, 0, 0⟩])
  .ret))))
def r32 : List ARes := [(.tmp 5)]
theorem ok32 : FnOk Try.prog 32 c32 r32 :=
  ⟨Try.f32, _, Try.func32, by kernel_rfl, rfl, by kernel_rfl, by kernel_rfl⟩
/-- rill/rillref04.low -/
def c33 : ACode :=
  (.seq
  (.ops [0, 1] [
    ⟨(.some 4), .mv, [(.c .nils)], none, 0, 0⟩])
  (.seq
  (.ops [0, 1, 5] [
    ⟨(.some 5), .mv, [(.c .nils)], none, 0, 0⟩])
  (.seq
  (.seq
  (.ops [0, 5, 6] [
    ⟨(.some 7), .mv, [(.t 1)], none, 0, 0⟩,
    ⟨(.some 8), (.arith .sub), [(.t 7), (.c (.int .i64 1))], none, 0, 0⟩,
    ⟨(.some 6), .mv, [(.t 8)], none, 0, 0⟩])
  (.block 0
    (.loop [0, 5, 6]
      (.seq
      (.seq
      (.ops [0, 5, 6, 10] [
        ⟨(.some 9), .mv, [(.t 6)], none, 0, 0⟩,
        ⟨(.some 10), (.cmp .geq), [(.t 9), (.c (.int .i64 0))], none, 0, 0⟩])
      (.cond (.t 10)
        .skip
        (.exit 0)))
      (.seq
      (.block 1
        (.ops [0, 5, 6] [
          ⟨(.some 13), .mv, [(.t 5)], none, 0, 0⟩,
          ⟨(.some 14), .mv, [(.t 0)], none, 0, 0⟩,
          ⟨(.some 15), (.conv .u64), [(.t 14)], none, 0, 0⟩,
          ⟨(.some 16), .mv, [(.t 6)], none, 0, 0⟩,
          ⟨(.some 17), (.arith .mul), [(.c (.int .i64 8)), (.t 16)], none, 0, 0⟩,
          ⟨(.some 18), (.conv .u64), [(.t 17)], none, 0, 0⟩,
          ⟨(.some 19), (.shift .shr), [(.t 15), (.t 18)], none, 0, 0⟩,
          ⟨(.some 20), (.conv .u8), [(.t 19)], none, 0, 0⟩,
          ⟨(.some 21), (.mkSl 1 [(.int .u8 0)] [(0, 1)]), [(.t 20)], none, 0, 0⟩,
          ⟨(.some 22), (.append 1 1), [(.t 13), (.t 21)], none, 0, 0⟩,
          ⟨(.some 5), .mv, [(.t 22)], none, 0, 0⟩]))
      (.ops [0, 5, 6] [
        ⟨(.some 11), .mv, [(.t 6)], none, 0, 0⟩,
        ⟨(.some 12), (.arith .sub), [(.t 11), (.c (.int .i64 1))], none, 0, 0⟩,
        ⟨(.some 6), .mv, [(.t 12)], none, 0, 0⟩]))))))
  (.seq
  (.ops [4] [
    ⟨(.some 23), .mv, [(.t 5)], none, 0, 0⟩,
    ⟨(.some 4), .mv, [(.t 23)], none, 0, 0⟩])
  .ret))))
def r33 : List ARes := [(.tmp 4)]
theorem ok33 : FnOk Try.prog 33 c33 r33 :=
  ⟨Try.f33, _, Try.func33, by kernel_rfl, rfl, by kernel_rfl, by kernel_rfl⟩
/-- (*rill/rillref03.Cipher).Block -/
def c34 : ACode :=
  (.seq
  (.ops [0, 3, 4] [
    ⟨(.some 3), .box, [(.t 1)], none, 0, 0⟩,
    ⟨(.some 4), (.alloc (List.replicate 16 (.int .u8 0))), [], none, 0, 0⟩])
  (.seq
  (.ops [0, 4, 5] [
    ⟨(.some 11), (.mkSl 0 [] []), [], none, 0, 0⟩,
    ⟨(.some 12), (.sliceArr 16 1 false false false), [(.t 3)], none, 0, 0⟩,
    ⟨(.some 13), (.append 1 1), [(.t 11), (.t 12)], none, 0, 0⟩,
    ⟨(.some 5), .mv, [(.t 13)], none, 0, 0⟩])
  (.seq
  (.ops [0, 4, 5] [
    ⟨(.some 14), .mv, [(.t 0)], none, 0, 0⟩,
    ⟨(.some 15), .mv, [(.t 5)], none, 0, 0⟩,
    ⟨(.some 16), (.call 36), [(.t 14), (.t 15), (.c (.int .i64 0))], none, 0, 0⟩,
    ⟨(.some 5), .mv, [(.t 16)], none, 0, 0⟩])
  (.seq
  (.ops [0, 4, 5, 6] [
    ⟨(.some 17), .mv, [(.t 0)], none, 0, 0⟩,
    ⟨(.some 18), .nilCheck, [(.t 17)], none, 0, 0⟩,
    ⟨(.some 19), (.fieldAddr 0), [(.t 18)], none, 0, 0⟩,
    ⟨(.some 20), (.load false 1), [(.t 19)], none, 0, 0⟩,
    ⟨(.some 21), .len, [(.t 20)], none, 0, 0⟩,
    ⟨(.some 22), (.arith .quo), [(.t 21), (.c (.int .i64 4))], none, 0, 0⟩,
    ⟨(.some 23), (.arith .sub), [(.t 22), (.c (.int .i64 1))], none, 0, 0⟩,
    ⟨(.some 6), .mv, [(.t 23)], none, 0, 0⟩])
  (.seq
  (.seq
  (.ops [0, 4, 5, 6, 7] [
    ⟨(.some 7), .mv, [(.c (.int .i64 1))], none, 0, 0⟩])
  (.block 0
    (.loop [0, 4, 5, 6, 7]
      (.seq
      (.seq
      (.ops [0, 4, 5, 6, 7, 26] [
        ⟨(.some 24), .mv, [(.t 7)], none, 0, 0⟩,
        ⟨(.some 25), .mv, [(.t 6)], none, 0, 0⟩,
        ⟨(.some 26), (.cmp .leq), [(.t 24), (.t 25)], none, 0, 0⟩])
      (.cond (.t 26)
        .skip
        (.exit 0)))
      (.seq
      (.block 1
        (.seq
        (.ops [0, 4, 5, 6, 7, 8] [
          ⟨(.some 8), .mv, [(.c .nils)], none, 0, 0⟩])
        (.seq
        (.seq
        (.ops [0, 4, 5, 6, 7, 8, 9] [
          ⟨(.some 9), .mv, [(.c (.int .i64 0))], none, 0, 0⟩])
        (.block 2
          (.loop [0, 4, 5, 6, 7, 8, 9]
            (.seq
            (.seq
            (.ops [0, 4, 5, 6, 7, 8, 9, 30] [
              ⟨(.some 29), .mv, [(.t 9)], none, 0, 0⟩,
              ⟨(.some 30), (.cmp .lss), [(.t 29), (.c (.int .i64 16))], none, 0, 0⟩])
            (.cond (.t 30)
              .skip
              (.exit 2)))
            (.seq
            (.block 3
              (.drawn [0, 4, 5, 6, 7, 8, 9] [
                ⟨(.some 33), .mv, [(.t 8)], none, 0, 0⟩,
                ⟨(.some 34), .mv, [(.t 0)], none, 0, 0⟩,
                ⟨(.some 35), .nilCheck, [(.t 34)], none, 0, 0⟩,
                ⟨(.some 36), (.fieldAddr 1), [(.t 35)], none, 0, 0⟩,
                ⟨(.some 37), (.load false 1), [(.t 36)], none, 0, 0⟩,
                ⟨(.some 38), .mv, [(.t 5)], none, 0, 0⟩,
                ⟨(.some 39), .mv, [(.t 9)], none, 0, 0⟩,
                ⟨(.some 40), (.arith .quo), [(.t 39), (.c (.int .i64 4))], none, 0, 0⟩,
                ⟨(.some 41), .mv, [(.t 9)], none, 0, 0⟩,
                ⟨(.some 42), (.arith .rem), [(.t 41), (.c (.int .i64 4))], none, 0, 0⟩,
                ⟨(.some 43), (.arith .add), [(.t 40), (.t 42)], none, 0, 0⟩,
                ⟨(.some 44), (.arith .rem), [(.t 43), (.c (.int .i64 4))], none, 0, 0⟩,
                ⟨(.some 45), (.arith .mul), [(.c (.int .i64 4)), (.t 44)], none, 0, 0⟩,
                ⟨(.some 46), .mv, [(.t 9)], none, 0, 0⟩,
                ⟨(.some 47), (.arith .rem), [(.t 46), (.c (.int .i64 4))], none, 0, 0⟩,
                ⟨(.some 48), (.arith .add), [(.t 45), (.t 47)], none, 0, 0⟩,
                ⟨(.some 49), (.idxAddr 1), [(.t 38), (.t 48)], none, 0, 0⟩,
                ⟨(.some 50), (.load false 1), [(.t 49)], none, 0, 0⟩,
                ⟨(.some 51), (.idxAddr 1), [(.t 37), (.t 50)], none, 0, 0⟩,
                ⟨(.some 52), (.load false 1), [(.t 51)], none, 0, 0⟩,
                ⟨(.some 53), (.mkSl 1 [(.int .u8 0)] [(0, 1)]), [(.t 52)], none, 0, 0⟩,
                ⟨(.some 54), (.append 1 1), [(.t 33), (.t 53)], none, 0, 1⟩,
                ⟨(.some 8), .mv, [(.t 54)], none, 1, 1⟩]))
            (.ops [0, 4, 5, 6, 7, 8, 9] [
              ⟨(.some 31), .mv, [(.t 9)], none, 0, 0⟩,
              ⟨(.some 32), (.arith .add), [(.t 31), (.c (.int .i64 1))], none, 0, 0⟩,
              ⟨(.some 9), .mv, [(.t 32)], none, 0, 0⟩]))))))
        (.seq
        (.seq
        (.ops [0, 4, 6, 7, 8, 57] [
          ⟨(.some 55), .mv, [(.t 7)], none, 0, 0⟩,
          ⟨(.some 56), .mv, [(.t 6)], none, 0, 0⟩,
          ⟨(.some 57), (.cmp .lss), [(.t 55), (.t 56)], none, 0, 0⟩])
        (.cond (.t 57)
          (.ops [0, 4, 6, 7, 8] [
            ⟨(.some 58), .mv, [(.t 8)], none, 0, 0⟩,
            ⟨(.some 59), (.call 37), [(.t 58)], none, 0, 0⟩,
            ⟨(.some 8), .mv, [(.t 59)], none, 0, 0⟩])
          .skip))
        (.ops [0, 4, 5, 6, 7] [
          ⟨(.some 60), .mv, [(.t 0)], none, 0, 0⟩,
          ⟨(.some 61), .mv, [(.t 8)], none, 0, 0⟩,
          ⟨(.some 62), .mv, [(.t 7)], none, 0, 0⟩,
          ⟨(.some 63), (.call 36), [(.t 60), (.t 61), (.t 62)], none, 0, 0⟩,
          ⟨(.some 5), .mv, [(.t 63)], none, 0, 0⟩])))))
      (.ops [0, 4, 5, 6, 7] [
        ⟨(.some 27), .mv, [(.t 7)], none, 0, 0⟩,
        ⟨(.some 28), (.arith .add), [(.t 27), (.c (.int .i64 1))], none, 0, 0⟩,
        ⟨(.some 7), .mv, [(.t 28)], none, 0, 0⟩]))))))
  (.seq
  (.ops [4, 5, 10] [
    ⟨(.some 10), (.alloc (List.replicate 16 (.int .u8 0))), [], none, 0, 0⟩])
  (.seq
  (.ops [4, 10] [
    ⟨(.some 64), (.sliceArr 16 1 false false false), [(.t 10)], none, 0, 0⟩,
    ⟨(.some 65), .mv, [(.t 5)], none, 0, 0⟩,
    ⟨(.some 66), (.copy 1), [(.t 64), (.t 65)], none, 0, 0⟩])
  (.seq
  (.ops [4] [
    ⟨(.some 67), (.load true 16), [(.t 10)], none, 0, 0⟩,
    ⟨none, (.store 16), [(.t 4), (.t 67)], none, 0, 0⟩])
  .ret))))))))
def r34 : List ARes := [(.cell 4 true 16)]
theorem ok34 : FnOk Try.prog 34 c34 r34 :=
  ⟨Try.f34, _, Try.func34, by kernel_rfl, rfl, by kernel_rfl, by kernel_rfl⟩
/-- rill/rillref03.inverse -/
def c35 : ACode :=
  (.seq
  (.ops [0] [
    ⟨(.some 2), .mv, [(.c (.int .u8 0))], none, 0, 0⟩])
  (.seq
  (.seq
  (.ops [0, 3] [
    ⟨(.some 3), .mv, [(.c (.int .i64 1))], none, 0, 0⟩])
  (.block 0
    (.loop [0, 3]
      (.seq
      (.seq
      (.ops [0, 3, 5] [
        ⟨(.some 4), .mv, [(.t 3)], none, 0, 0⟩,
        ⟨(.some 5), (.cmp .lss), [(.t 4), (.c (.int .i64 256))], none, 0, 0⟩])
      (.cond (.t 5)
        .skip
        (.exit 0)))
      (.seq
      (.block 1
        (.seq
        (.ops [0, 3, 12] [
          ⟨(.some 8), .mv, [(.t 3)], none, 0, 0⟩,
          ⟨(.some 9), (.conv .u8), [(.t 8)], none, 0, 0⟩,
          ⟨(.some 10), .mv, [(.t 0)], none, 0, 0⟩,
          ⟨(.some 11), (.call 38), [(.t 9), (.t 10)], none, 0, 0⟩,
          ⟨(.some 12), (.eq false .int), [(.t 11), (.c (.int .u8 1))], none, 0, 0⟩])
        (.cond (.t 12)
          (.seq
          (.ops [2] [
            ⟨(.some 13), .mv, [(.t 3)], none, 0, 0⟩,
            ⟨(.some 14), (.conv .u8), [(.t 13)], none, 0, 0⟩,
            ⟨(.some 2), .mv, [(.t 14)], none, 0, 0⟩])
          .ret)
          .skip)))
      (.ops [0, 3] [
        ⟨(.some 6), .mv, [(.t 3)], none, 0, 0⟩,
        ⟨(.some 7), (.arith .add), [(.t 6), (.c (.int .i64 1))], none, 0, 0⟩,
        ⟨(.some 3), .mv, [(.t 7)], none, 0, 0⟩]))))))
  (.seq
  (.ops [2] [
    ⟨(.some 2), .mv, [(.c (.int .u8 0))], none, 0, 0⟩])
  .ret)))
def r35 : List ARes := [(.tmp 2)]
theorem ok35 : FnOk Try.prog 35 c35 r35 :=
  ⟨Try.f35, _, Try.func35, by kernel_rfl, rfl, by kernel_rfl, by kernel_rfl⟩
/-- (*rill/rillref03.Cipher).over -/
def c36 : ACode :=
  (.seq
  (.ops [0, 1, 2] [
    ⟨(.some 6), .mv, [(.c .nils)], none, 0, 0⟩])
  (.seq
  (.ops [0, 1, 2, 7] [
    ⟨(.some 7), .mv, [(.c .nils)], none, 0, 0⟩])
  (.seq
  (.seq
  (.ops [0, 1, 2, 7, 8] [
    ⟨(.some 8), .mv, [(.c (.int .i64 0))], none, 0, 0⟩])
  (.block 0
    (.loop [0, 1, 2, 7, 8]
      (.seq
      (.seq
      (.ops [0, 1, 2, 7, 8, 10] [
        ⟨(.some 9), .mv, [(.t 8)], none, 0, 0⟩,
        ⟨(.some 10), (.cmp .lss), [(.t 9), (.c (.int .i64 16))], none, 0, 0⟩])
      (.cond (.t 10)
        .skip
        (.exit 0)))
      (.seq
      (.block 1
        (.drawn [0, 1, 2, 7, 8] [
          ⟨(.some 13), .mv, [(.t 7)], none, 0, 0⟩,
          ⟨(.some 14), .mv, [(.t 1)], none, 0, 0⟩,
          ⟨(.some 15), .mv, [(.t 8)], none, 0, 0⟩,
          ⟨(.some 16), (.idxAddr 1), [(.t 14), (.t 15)], none, 0, 0⟩,
          ⟨(.some 17), (.load false 1), [(.t 16)], none, 0, 0⟩,
          ⟨(.some 18), .mv, [(.t 0)], none, 0, 0⟩,
          ⟨(.some 19), .nilCheck, [(.t 18)], none, 0, 0⟩,
          ⟨(.some 20), (.fieldAddr 0), [(.t 19)], none, 0, 0⟩,
          ⟨(.some 21), (.load false 1), [(.t 20)], none, 0, 0⟩,
          ⟨(.some 22), .mv, [(.t 2)], none, 0, 0⟩,
          ⟨(.some 23), (.arith .mul), [(.c (.int .i64 4)), (.t 22)], none, 0, 0⟩,
          ⟨(.some 24), .mv, [(.t 8)], none, 0, 0⟩,
          ⟨(.some 25), (.arith .quo), [(.t 24), (.c (.int .i64 4))], none, 0, 0⟩,
          ⟨(.some 26), (.arith .add), [(.t 23), (.t 25)], none, 0, 0⟩,
          ⟨(.some 27), (.idxAddr 1), [(.t 21), (.t 26)], none, 0, 0⟩,
          ⟨(.some 28), (.load false 1), [(.t 27)], none, 0, 0⟩,
          ⟨(.some 29), .mv, [(.t 8)], none, 0, 0⟩,
          ⟨(.some 30), (.arith .rem), [(.t 29), (.c (.int .i64 4))], none, 0, 0⟩,
          ⟨(.some 31), (.idxAddr 1), [(.t 28), (.t 30)], none, 0, 0⟩,
          ⟨(.some 32), (.load false 1), [(.t 31)], none, 0, 0⟩,
          ⟨(.some 33), (.arith .xor), [(.t 17), (.t 32)], none, 0, 0⟩,
          ⟨(.some 34), (.mkSl 1 [(.int .u8 0)] [(0, 1)]), [(.t 33)], none, 0, 0⟩,
          ⟨(.some 35), (.append 1 1), [(.t 13), (.t 34)], none, 0, 1⟩,
          ⟨(.some 7), .mv, [(.t 35)], none, 1, 1⟩]))
      (.ops [0, 1, 2, 7, 8] [
        ⟨(.some 11), .mv, [(.t 8)], none, 0, 0⟩,
        ⟨(.some 12), (.arith .add), [(.t 11), (.c (.int .i64 1))], none, 0, 0⟩,
        ⟨(.some 8), .mv, [(.t 12)], none, 0, 0⟩]))))))
  (.seq
  (.ops [6] [
    ⟨(.some 36), .mv, [(.t 7)], none, 0, 0⟩,
    ⟨(.some 6), .mv, [(.t 36)], none, 0, 0⟩])
  .ret))))
def r36 : List ARes := [(.tmp 6)]
theorem ok36 : FnOk Try.prog 36 c36 r36 :=
  ⟨Try.f36, _, Try.func36, by kernel_rfl, rfl, by kernel_rfl, by kernel_rfl⟩
/-- rill/rillref03.mixed -/
def c37 : ACode :=
  (.seq
  (.ops [0] [
    ⟨(.some 2), .mv, [(.c .nils)], none, 0, 0⟩])
  (.seq
  (.ops [0, 3] [
    ⟨(.some 3), .mv, [(.c .nils)], none, 0, 0⟩])
  (.seq
  (.seq
  (.ops [0, 3, 4] [
    ⟨(.some 4), .mv, [(.c (.int .i64 0))], none, 0, 0⟩])
  (.block 0
    (.loop [0, 3, 4]
      (.seq
      (.seq
      (.ops [0, 3, 4, 10] [
        ⟨(.some 9), .mv, [(.t 4)], none, 0, 0⟩,
        ⟨(.some 10), (.cmp .lss), [(.t 9), (.c (.int .i64 4))], none, 0, 0⟩])
      (.cond (.t 10)
        .skip
        (.exit 0)))
      (.seq
      (.block 1
        (.seq
        (.drawn [0, 3, 4, 5, 6, 7, 8] [
          ⟨(.some 13), .mv, [(.t 0)], none, 0, 0⟩,
          ⟨(.some 14), .mv, [(.t 4)], none, 0, 0⟩,
          ⟨(.some 15), (.arith .mul), [(.c (.int .i64 4)), (.t 14)], none, 0, 0⟩,
          ⟨(.some 16), (.idxAddr 1), [(.t 13), (.t 15)], none, 0, 0⟩,
          ⟨(.some 17), (.load false 1), [(.t 16)], none, 0, 0⟩,
          ⟨(.some 18), .mv, [(.t 0)], none, 0, 0⟩,
          ⟨(.some 19), .mv, [(.t 4)], none, 0, 0⟩,
          ⟨(.some 20), (.arith .mul), [(.c (.int .i64 4)), (.t 19)], none, 0, 0⟩,
          ⟨(.some 21), (.arith .add), [(.t 20), (.c (.int .i64 1))], none, 0, 0⟩,
          ⟨(.some 22), (.idxAddr 1), [(.t 18), (.t 21)], none, 0, 0⟩,
          ⟨(.some 23), (.load false 1), [(.t 22)], none, 0, 0⟩,
          ⟨(.some 24), .mv, [(.t 0)], none, 0, 0⟩,
          ⟨(.some 25), .mv, [(.t 4)], none, 0, 0⟩,
          ⟨(.some 26), (.arith .mul), [(.c (.int .i64 4)), (.t 25)], none, 0, 0⟩,
          ⟨(.some 27), (.arith .add), [(.t 26), (.c (.int .i64 2))], none, 0, 0⟩,
          ⟨(.some 28), (.idxAddr 1), [(.t 24), (.t 27)], none, 0, 0⟩,
          ⟨(.some 29), (.load false 1), [(.t 28)], none, 0, 0⟩,
          ⟨(.some 30), .mv, [(.t 0)], none, 0, 0⟩,
          ⟨(.some 31), .mv, [(.t 4)], none, 0, 0⟩,
          ⟨(.some 32), (.arith .mul), [(.c (.int .i64 4)), (.t 31)], none, 0, 0⟩,
          ⟨(.some 33), (.arith .add), [(.t 32), (.c (.int .i64 3))], none, 0, 0⟩,
          ⟨(.some 34), (.idxAddr 1), [(.t 30), (.t 33)], none, 0, 0⟩,
          ⟨(.some 35), (.load false 1), [(.t 34)], none, 0, 0⟩,
          ⟨(.some 5), .mv, [(.t 17)], none, 0, 0⟩,
          ⟨(.some 6), .mv, [(.t 23)], none, 0, 0⟩,
          ⟨(.some 7), .mv, [(.t 29)], none, 0, 0⟩,
          ⟨(.some 8), .mv, [(.t 35)], none, 0, 0⟩])
        (.ops [0, 3, 4] [
          ⟨(.some 36), .mv, [(.t 3)], none, 0, 0⟩,
          ⟨(.some 37), .mv, [(.t 5)], none, 0, 0⟩,
          ⟨(.some 38), (.call 38), [(.c (.int .u8 2)), (.t 37)], none, 0, 0⟩,
          ⟨(.some 39), .mv, [(.t 6)], none, 0, 0⟩,
          ⟨(.some 40), (.call 38), [(.c (.int .u8 3)), (.t 39)], none, 0, 0⟩,
          ⟨(.some 41), (.arith .xor), [(.t 38), (.t 40)], none, 0, 0⟩,
          ⟨(.some 42), .mv, [(.t 7)], none, 0, 0⟩,
          ⟨(.some 43), (.arith .xor), [(.t 41), (.t 42)], none, 0, 0⟩,
          ⟨(.some 44), .mv, [(.t 8)], none, 0, 0⟩,
          ⟨(.some 45), (.arith .xor), [(.t 43), (.t 44)], none, 0, 0⟩,
          ⟨(.some 46), .mv, [(.t 5)], none, 0, 0⟩,
          ⟨(.some 47), .mv, [(.t 6)], none, 0, 0⟩,
          ⟨(.some 48), (.call 38), [(.c (.int .u8 2)), (.t 47)], none, 0, 0⟩,
          ⟨(.some 49), (.arith .xor), [(.t 46), (.t 48)], none, 0, 0⟩,
          ⟨(.some 50), .mv, [(.t 7)], none, 0, 0⟩,
          ⟨(.some 51), (.call 38), [(.c (.int .u8 3)), (.t 50)], none, 0, 0⟩,
          ⟨(.some 52), (.arith .xor), [(.t 49), (.t 51)], none, 0, 0⟩,
          ⟨(.some 53), .mv, [(.t 8)], none, 0, 0⟩,
          ⟨(.some 54), (.arith .xor), [(.t 52), (.t 53)], none, 0, 0⟩,
          ⟨(.some 55), .mv, [(.t 5)], none, 0, 0⟩,
          ⟨(.some 56), .mv, [(.t 6)], none, 0, 0⟩,
          ⟨(.some 57), (.arith .xor), [(.t 55), (.t 56)], none, 0, 0⟩,
          ⟨(.some 58), .mv, [(.t 7)], none, 0, 0⟩,
          ⟨(.some 59), (.call 38), [(.c (.int .u8 2)), (.t 58)], none, 0, 0⟩,
          ⟨(.some 60), (.arith .xor), [(.t 57), (.t 59)], none, 0, 0⟩,
          ⟨(.some 61), .mv, [(.t 8)], none, 0, 0⟩,
          ⟨(.some 62), (.call 38), [(.c (.int .u8 3)), (.t 61)], none, 0, 0⟩,
          ⟨(.some 63), (.arith .xor), [(.t 60), (.t 62)], none, 0, 0⟩,
          ⟨(.some 64), .mv, [(.t 5)], none, 0, 0⟩,
          ⟨(.some 65), (.call 38), [(.c (.int .u8 3)), (.t 64)], none, 0, 0⟩,
          ⟨(.some 66), .mv, [(.t 6)], none, 0, 0⟩,
          ⟨(.some 67), (.arith .xor), [(.t 65), (.t 66)], none, 0, 0⟩,
          ⟨(.some 68), .mv, [(.t 7)], none, 0, 0⟩,
          ⟨(.some 69), (.arith .xor), [(.t 67), (.t 68)], none, 0, 0⟩,
          ⟨(.some 70), .mv, [(.t 8)], none, 0, 0⟩,
          ⟨(.some 71), (.call 38), [(.c (.int .u8 2)), (.t 70)], none, 0, 0⟩,
          ⟨(.some 72), (.arith .xor), [(.t 69), (.t 71)], none, 0, 0⟩,
          ⟨(.some 73), (.mkSl 4 [(.int .u8 0), (.int .u8 0), (.int .u8 0), (.int .u8 0)] [(0, 1), (1, 1), (2, 1), (3, 1)]), [(.t 45), (.t 54), (.t 63), (.t 72)], none, 0, 0⟩,
          ⟨(.some 74), (.append 1 1), [(.t 36), (.t 73)], none, 0, 0⟩,
          ⟨(.some 3), .mv, [(.t 74)], none, 0, 0⟩])))
      (.ops [0, 3, 4] [
        ⟨(.some 11), .mv, [(.t 4)], none, 0, 0⟩,
        ⟨(.some 12), (.arith .add), [(.t 11), (.c (.int .i64 1))], none, 0, 0⟩,
        ⟨(.some 4), .mv, [(.t 12)], none, 0, 0⟩]))))))
  (.seq
  (.ops [2] [
    ⟨(.some 75), .mv, [(.t 3)], none, 0, 0⟩,
    ⟨(.some 2), .mv, [(.t 75)], none, 0, 0⟩])
  .ret))))
def r37 : List ARes := [(.tmp 2)]
theorem ok37 : FnOk Try.prog 37 c37 r37 :=
  ⟨Try.f37, _, Try.func37, by kernel_rfl, rfl, by kernel_rfl, by kernel_rfl⟩
/-- rill/rillref03.Times -/
def c38 : ACode :=
  (.seq
  (.ops [0, 1] [
    ⟨(.some 4), .mv, [(.c (.int .u8 0))], none, 0, 0⟩])
  (.seq
  (.ops [0, 1, 5] [
    ⟨(.some 5), .mv, [(.c (.int .u8 0))], none, 0, 0⟩])
  (.seq
  (.seq
  (.ops [0, 1, 5, 6] [
    ⟨(.some 6), .mv, [(.c (.int .i64 0))], none, 0, 0⟩])
  (.block 0
    (.loop [0, 1, 5, 6]
      (.seq
      (.seq
      (.ops [0, 1, 5, 6, 8] [
        ⟨(.some 7), .mv, [(.t 6)], none, 0, 0⟩,
        ⟨(.some 8), (.cmp .lss), [(.t 7), (.c (.int .i64 8))], none, 0, 0⟩])
      (.cond (.t 8)
        .skip
        (.exit 0)))
      (.seq
      (.block 1
        (.seq
        (.seq
        (.ops [0, 1, 5, 6, 16] [
          ⟨(.some 11), .mv, [(.t 0)], none, 0, 0⟩,
          ⟨(.some 12), .mv, [(.t 6)], none, 0, 0⟩,
          ⟨(.some 13), (.conv .u64), [(.t 12)], none, 0, 0⟩,
          ⟨(.some 14), (.shift .shr), [(.t 11), (.t 13)], none, 0, 0⟩,
          ⟨(.some 15), (.arith .rem), [(.t 14), (.c (.int .u8 2))], none, 0, 0⟩,
          ⟨(.some 16), (.eq false .int), [(.t 15), (.c (.int .u8 1))], none, 0, 0⟩])
        (.cond (.t 16)
          (.ops [0, 1, 5, 6] [
            ⟨(.some 17), .mv, [(.t 5)], none, 0, 0⟩,
            ⟨(.some 18), .mv, [(.t 1)], none, 0, 0⟩,
            ⟨(.some 19), (.arith .xor), [(.t 17), (.t 18)], none, 0, 0⟩,
            ⟨(.some 5), .mv, [(.t 19)], none, 0, 0⟩])
          .skip))
        (.ops [0, 1, 5, 6] [
          ⟨(.some 20), .mv, [(.t 1)], none, 0, 0⟩,
          ⟨(.some 21), (.call 22), [(.t 20)], none, 0, 0⟩,
          ⟨(.some 1), .mv, [(.t 21)], none, 0, 0⟩])))
      (.ops [0, 1, 5, 6] [
        ⟨(.some 9), .mv, [(.t 6)], none, 0, 0⟩,
        ⟨(.some 10), (.arith .add), [(.t 9), (.c (.int .i64 1))], none, 0, 0⟩,
        ⟨(.some 6), .mv, [(.t 10)], none, 0, 0⟩]))))))
  (.seq
  (.ops [4] [
    ⟨(.some 22), .mv, [(.t 5)], none, 0, 0⟩,
    ⟨(.some 4), .mv, [(.t 22)], none, 0, 0⟩])
  .ret))))
def r38 : List ARes := [(.tmp 4)]
theorem ok38 : FnOk Try.prog 38 c38 r38 :=
  ⟨Try.f38, _, Try.func38, by kernel_rfl, rfl, by kernel_rfl, by kernel_rfl⟩
end Go.Proofs.Ythdkclkiegkabaa
