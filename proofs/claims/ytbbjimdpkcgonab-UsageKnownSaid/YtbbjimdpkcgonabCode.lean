/- The abstract code of the functions, printed by a program of this session (gencode.py), and checked against the loaded program. -/
import Derived.Test.YtbbjimdpkcgonabAdmQ
import Derived.Test.YtbbjimdpkcgonabProg
import Derived.KernelRfl
namespace Go.Proofs.Ytbbjimdpkcgonab
open Go.Adm
theorem mixed : Try.prog.follows .mixedOrders = true := by kernel_rfl
/-- rill/rilllaw16.UsageOne -/
def c3 : ACode :=
  (.seq
  (.ops [0, 1] [
    ⟨(.some 4), .mv, [(.c (.bool false))], none, 0, 0⟩])
  (.seq
  (.seq
  (.ops [0, 1, 14] [
    ⟨(.some 12), .mv, [(.t 1)], none, 0, 0⟩,
    ⟨(.some 13), .len, [(.t 12)], none, 0, 0⟩,
    ⟨(.some 14), (.cmp .gtr), [(.t 13), (.c (.int .i64 300))], none, 0, 0⟩])
  (.cond (.t 14)
    (.seq
    (.ops [4] [
      ⟨(.some 15), (.call 6), [], none, 0, 0⟩,
      ⟨(.some 4), .mv, [(.t 15)], none, 0, 0⟩])
    .ret)
    .skip))
  (.seq
  (.ops [0, 1, 5] [
    ⟨(.some 16), .mv, [(.t 0)], none, 0, 0⟩,
    ⟨(.some 17), (.call 7), [(.t 16)], none, 0, 0⟩,
    ⟨(.some 5), .mv, [(.t 17)], none, 0, 0⟩])
  (.seq
  (.ops [0, 1, 5, 6] [
    ⟨(.some 18), .mv, [(.t 5)], none, 0, 0⟩,
    ⟨(.some 19), (.call 8), [(.t 18)], none, 0, 0⟩,
    ⟨(.some 20), .len, [(.t 19)], none, 0, 0⟩,
    ⟨(.some 6), .mv, [(.t 20)], none, 0, 0⟩])
  (.seq
  (.seq
  (.ops [1, 5, 6, 31] [
    ⟨(.some 21), .mv, [(.t 6)], none, 0, 0⟩,
    ⟨(.some 22), .mv, [(.t 0)], none, 0, 0⟩,
    ⟨(.some 23), .max, [(.t 22), (.c (.int .i64 0))], none, 0, 0⟩,
    ⟨(.some 24), .min, [(.t 23), (.c (.int .i64 32))], none, 0, 0⟩,
    ⟨(.some 25), (.eq true .int), [(.t 21), (.t 24)], none, 0, 0⟩,
    ⟨(.some 26), .mv, [(.t 25)], none, 0, 0⟩,
    ⟨(.some 27), .mv, [(.t 5)], (.some (26, false)), 0, 0⟩,
    ⟨(.some 28), (.call 9), [(.t 27), (.c (.int .i64 0))], (.some (26, false)), 0, 0⟩,
    ⟨(.some 29), .mv, [(.t 6)], (.some (26, false)), 0, 0⟩,
    ⟨(.some 30), (.eq true .int), [(.t 28), (.t 29)], (.some (26, false)), 0, 0⟩,
    ⟨(.some 31), .pick, [(.t 26), (.c (.bool true)), (.t 30)], none, 0, 0⟩])
  (.cond (.t 31)
    (.seq
    (.ops [4] [
      ⟨(.some 4), .mv, [(.c (.bool false))], none, 0, 0⟩])
    .ret)
    .skip))
  (.seq
  (.seq
  (.ops [1, 5, 6, 7] [
    ⟨(.some 7), .mv, [(.c (.int .i64 0))], none, 0, 0⟩])
  (.block 0
    (.loop [1, 5, 6, 7]
      (.seq
      (.seq
      (.ops [1, 5, 6, 7, 35] [
        ⟨(.some 32), .mv, [(.t 7)], none, 0, 0⟩,
        ⟨(.some 33), .mv, [(.t 1)], none, 0, 0⟩,
        ⟨(.some 34), .len, [(.t 33)], none, 0, 0⟩,
        ⟨(.some 35), (.cmp .lss), [(.t 32), (.t 34)], none, 0, 0⟩])
      (.cond (.t 35)
        .skip
        (.exit 0)))
      (.seq
      (.block 1
        (.seq
        (.ops [1, 5, 6, 7, 8] [
          ⟨(.some 38), .mv, [(.t 5)], none, 0, 0⟩,
          ⟨(.some 39), (.call 8), [(.t 38)], none, 0, 0⟩,
          ⟨(.some 8), .mv, [(.t 39)], none, 0, 0⟩])
        (.seq
        (.ops [1, 5, 6, 7, 8, 9] [
          ⟨(.some 40), .mv, [(.t 5)], none, 0, 0⟩,
          ⟨(.some 41), .mv, [(.t 1)], none, 0, 0⟩,
          ⟨(.some 42), .mv, [(.t 7)], none, 0, 0⟩,
          ⟨(.some 43), (.idxAddr 7), [(.t 41), (.t 42)], none, 0, 0⟩,
          ⟨(.some 44), (.load true 7), [(.t 43)], none, 0, 0⟩,
          ⟨(.some 45), (.call 10), [(.t 40), (.t 44)], none, 0, 0⟩,
          ⟨(.some 9), .mv, [(.t 45)], none, 0, 0⟩])
        (.seq
        (.ops [1, 5, 6, 7, 8, 9, 10] [
          ⟨(.some 46), .mv, [(.t 5)], none, 0, 0⟩,
          ⟨(.some 47), (.call 8), [(.t 46)], none, 0, 0⟩,
          ⟨(.some 10), .mv, [(.t 47)], none, 0, 0⟩])
        (.seq
        (.seq
        (.ops [1, 5, 6, 7, 10, 69] [
          ⟨(.some 48), .mv, [(.t 9)], none, 0, 0⟩,
          ⟨(.some 49), (.eq true .int), [(.t 48), (.c (.int .i64 0))], none, 0, 0⟩,
          ⟨(.some 50), .mv, [(.t 49)], none, 0, 0⟩,
          ⟨(.some 51), .mv, [(.t 8)], (.some (50, true)), 0, 0⟩,
          ⟨(.some 52), .mv, [(.t 10)], (.some (50, true)), 0, 0⟩,
          ⟨(.some 53), (.call 11), [(.t 51), (.t 52)], (.some (50, true)), 0, 0⟩,
          ⟨(.some 54), .not, [(.t 53)], (.some (50, true)), 0, 0⟩,
          ⟨(.some 55), .pick, [(.t 50), (.t 54), (.c (.bool false))], none, 0, 0⟩,
          ⟨(.some 56), .mv, [(.t 55)], none, 0, 0⟩,
          ⟨(.some 57), .mv, [(.t 5)], (.some (56, false)), 0, 0⟩,
          ⟨(.some 58), (.call 9), [(.t 57), (.c (.int .i64 1))], (.some (56, false)), 0, 0⟩,
          ⟨(.some 59), (.cmp .gtr), [(.t 58), (.c (.int .i64 1))], (.some (56, false)), 0, 0⟩,
          ⟨(.some 60), .pick, [(.t 56), (.c (.bool true)), (.t 59)], none, 0, 0⟩,
          ⟨(.some 61), .mv, [(.t 60)], none, 0, 0⟩,
          ⟨(.some 62), .mv, [(.t 5)], (.some (61, false)), 0, 0⟩,
          ⟨(.some 63), (.call 12), [(.t 62)], (.some (61, false)), 0, 0⟩,
          ⟨(.some 64), (.cmp .lss), [(.t 63), (.c (.int .i64 0))], (.some (61, false)), 0, 0⟩,
          ⟨(.some 65), .mv, [(.t 5)], (.some (61, false)), 0, 0⟩,
          ⟨(.some 66), (.call 9), [(.t 65), (.c (.int .i64 1))], (.some (61, false)), 0, 0⟩,
          ⟨(.some 67), (.eq false .int), [(.t 66), (.c (.int .i64 0))], (.some (61, false)), 0, 0⟩,
          ⟨(.some 68), (.eq true .bool), [(.t 64), (.t 67)], (.some (61, false)), 0, 0⟩,
          ⟨(.some 69), .pick, [(.t 61), (.c (.bool true)), (.t 68)], none, 0, 0⟩])
        (.cond (.t 69)
          (.seq
          (.ops [4] [
            ⟨(.some 4), .mv, [(.c (.bool false))], none, 0, 0⟩])
          .ret)
          .skip))
        (.seq
        (.seq
        (.ops [1, 5, 6, 7, 10, 82] [
          ⟨(.some 70), .mv, [(.t 5)], none, 0, 0⟩,
          ⟨(.some 71), (.call 9), [(.t 70), (.c (.int .i64 0))], none, 0, 0⟩,
          ⟨(.some 72), .mv, [(.t 5)], none, 0, 0⟩,
          ⟨(.some 73), (.call 9), [(.t 72), (.c (.int .i64 1))], none, 0, 0⟩,
          ⟨(.some 74), (.arith .add), [(.t 71), (.t 73)], none, 0, 0⟩,
          ⟨(.some 75), .mv, [(.t 5)], none, 0, 0⟩,
          ⟨(.some 76), (.call 9), [(.t 75), (.c (.int .i64 2))], none, 0, 0⟩,
          ⟨(.some 77), (.arith .add), [(.t 74), (.t 76)], none, 0, 0⟩,
          ⟨(.some 78), .mv, [(.t 5)], none, 0, 0⟩,
          ⟨(.some 79), (.call 9), [(.t 78), (.c (.int .i64 3))], none, 0, 0⟩,
          ⟨(.some 80), (.arith .add), [(.t 77), (.t 79)], none, 0, 0⟩,
          ⟨(.some 81), .mv, [(.t 6)], none, 0, 0⟩,
          ⟨(.some 82), (.eq true .int), [(.t 80), (.t 81)], none, 0, 0⟩])
        (.cond (.t 82)
          (.seq
          (.ops [4] [
            ⟨(.some 4), .mv, [(.c (.bool false))], none, 0, 0⟩])
          .ret)
          .skip))
        (.seq
        (.ops [1, 5, 6, 7, 10, 11] [
          ⟨(.some 11), .mv, [(.c (.int .i64 0))], none, 0, 0⟩])
        (.block 2
          (.loop [1, 5, 6, 7, 10, 11]
            (.seq
            (.seq
            (.ops [1, 5, 6, 7, 10, 11, 85] [
              ⟨(.some 83), .mv, [(.t 11)], none, 0, 0⟩,
              ⟨(.some 84), .mv, [(.t 6)], none, 0, 0⟩,
              ⟨(.some 85), (.cmp .lss), [(.t 83), (.t 84)], none, 0, 0⟩])
            (.cond (.t 85)
              .skip
              (.exit 2)))
            (.seq
            (.block 3
              (.seq
              (.ops [1, 5, 6, 7, 10, 11, 117] [
                ⟨(.some 88), .mv, [(.t 10)], none, 0, 0⟩,
                ⟨(.some 89), .mv, [(.t 11)], none, 0, 0⟩,
                ⟨(.some 90), (.idxAddr 3), [(.t 88), (.t 89)], none, 0, 0⟩,
                ⟨(.some 91), (.fieldAddr 1), [(.t 90)], none, 0, 0⟩,
                ⟨(.some 92), (.load false 1), [(.t 91)], none, 0, 0⟩,
                ⟨(.some 93), (.cmp .lss), [(.t 92), (.c (.int .i64 0))], none, 0, 0⟩,
                ⟨(.some 94), .mv, [(.t 93)], none, 0, 0⟩,
                ⟨(.some 95), .mv, [(.t 10)], (.some (94, false)), 0, 0⟩,
                ⟨(.some 96), .mv, [(.t 11)], (.some (94, false)), 0, 0⟩,
                ⟨(.some 97), (.idxAddr 3), [(.t 95), (.t 96)], (.some (94, false)), 0, 0⟩,
                ⟨(.some 98), (.fieldAddr 1), [(.t 97)], (.some (94, false)), 0, 0⟩,
                ⟨(.some 99), (.load false 1), [(.t 98)], (.some (94, false)), 0, 0⟩,
                ⟨(.some 100), (.cmp .gtr), [(.t 99), (.c (.int .i64 64))], (.some (94, false)), 0, 0⟩,
                ⟨(.some 101), .pick, [(.t 94), (.c (.bool true)), (.t 100)], none, 0, 0⟩,
                ⟨(.some 102), .mv, [(.t 101)], none, 0, 0⟩,
                ⟨(.some 103), .mv, [(.t 10)], (.some (102, false)), 0, 0⟩,
                ⟨(.some 104), .mv, [(.t 11)], (.some (102, false)), 0, 0⟩,
                ⟨(.some 105), (.idxAddr 3), [(.t 103), (.t 104)], (.some (102, false)), 0, 0⟩,
                ⟨(.some 106), (.fieldAddr 2), [(.t 105)], (.some (102, false)), 0, 0⟩,
                ⟨(.some 107), (.load false 1), [(.t 106)], (.some (102, false)), 0, 0⟩,
                ⟨(.some 108), (.cmp .lss), [(.t 107), (.c (.int .i64 0))], (.some (102, false)), 0, 0⟩,
                ⟨(.some 109), .pick, [(.t 102), (.c (.bool true)), (.t 108)], none, 0, 0⟩,
                ⟨(.some 110), .mv, [(.t 109)], none, 0, 0⟩,
                ⟨(.some 111), .mv, [(.t 10)], (.some (110, false)), 0, 0⟩,
                ⟨(.some 112), .mv, [(.t 11)], (.some (110, false)), 0, 0⟩,
                ⟨(.some 113), (.idxAddr 3), [(.t 111), (.t 112)], (.some (110, false)), 0, 0⟩,
                ⟨(.some 114), (.fieldAddr 2), [(.t 113)], (.some (110, false)), 0, 0⟩,
                ⟨(.some 115), (.load false 1), [(.t 114)], (.some (110, false)), 0, 0⟩,
                ⟨(.some 116), (.cmp .gtr), [(.t 115), (.c (.int .i64 1099511627776))], (.some (110, false)), 0, 0⟩,
                ⟨(.some 117), .pick, [(.t 110), (.c (.bool true)), (.t 116)], none, 0, 0⟩])
              (.cond (.t 117)
                (.seq
                (.ops [4] [
                  ⟨(.some 4), .mv, [(.c (.bool false))], none, 0, 0⟩])
                .ret)
                .skip)))
            (.ops [1, 5, 6, 7, 10, 11] [
              ⟨(.some 86), .mv, [(.t 11)], none, 0, 0⟩,
              ⟨(.some 87), (.arith .add), [(.t 86), (.c (.int .i64 1))], none, 0, 0⟩,
              ⟨(.some 11), .mv, [(.t 87)], none, 0, 0⟩]))))))))))))
      (.ops [1, 5, 6, 7] [
        ⟨(.some 36), .mv, [(.t 7)], none, 0, 0⟩,
        ⟨(.some 37), (.arith .add), [(.t 36), (.c (.int .i64 1))], none, 0, 0⟩,
        ⟨(.some 7), .mv, [(.t 37)], none, 0, 0⟩]))))))
  (.seq
  (.ops [4] [
    ⟨(.some 118), (.call 6), [], none, 0, 0⟩,
    ⟨(.some 4), .mv, [(.t 118)], none, 0, 0⟩])
  .ret)))))))
def r3 : List ARes := [(.tmp 4)]
theorem ok3 : FnOk Try.prog 3 c3 r3 :=
  ⟨Try.f3, _, Try.func3, by kernel_rfl, rfl, by kernel_rfl, by kernel_rfl⟩
/-- rill/rilllaw16.UsageRound -/
def c4 : ACode :=
  (.seq
  (.ops [0, 1] [
    ⟨(.some 4), .mv, [(.c (.bool false))], none, 0, 0⟩])
  (.seq
  (.seq
  (.ops [0, 1, 16] [
    ⟨(.some 14), .mv, [(.t 1)], none, 0, 0⟩,
    ⟨(.some 15), .len, [(.t 14)], none, 0, 0⟩,
    ⟨(.some 16), (.cmp .gtr), [(.t 15), (.c (.int .i64 300))], none, 0, 0⟩])
  (.cond (.t 16)
    (.seq
    (.ops [4] [
      ⟨(.some 17), (.call 6), [], none, 0, 0⟩,
      ⟨(.some 4), .mv, [(.t 17)], none, 0, 0⟩])
    .ret)
    .skip))
  (.seq
  (.ops [1, 5] [
    ⟨(.some 18), .mv, [(.t 0)], none, 0, 0⟩,
    ⟨(.some 19), (.call 7), [(.t 18)], none, 0, 0⟩,
    ⟨(.some 5), .mv, [(.t 19)], none, 0, 0⟩])
  (.seq
  (.seq
  (.ops [1, 5, 6] [
    ⟨(.some 6), .mv, [(.c (.int .i64 0))], none, 0, 0⟩])
  (.block 0
    (.loop [1, 5, 6]
      (.seq
      (.seq
      (.ops [1, 5, 6, 23] [
        ⟨(.some 20), .mv, [(.t 6)], none, 0, 0⟩,
        ⟨(.some 21), .mv, [(.t 1)], none, 0, 0⟩,
        ⟨(.some 22), .len, [(.t 21)], none, 0, 0⟩,
        ⟨(.some 23), (.cmp .lss), [(.t 20), (.t 22)], none, 0, 0⟩])
      (.cond (.t 23)
        .skip
        (.exit 0)))
      (.seq
      (.block 1
        (.seq
        (.ops [1, 5, 6, 7] [
          ⟨(.some 26), .mv, [(.t 1)], none, 0, 0⟩,
          ⟨(.some 27), .mv, [(.t 6)], none, 0, 0⟩,
          ⟨(.some 28), (.idxAddr 7), [(.t 26), (.t 27)], none, 0, 0⟩,
          ⟨(.some 29), (.load true 7), [(.t 28)], none, 0, 0⟩,
          ⟨(.some 7), (.alloc [(.int .i64 0), (.int .i64 0), (.int .i64 0), (.int .i64 0), (.int .i64 0), (.int .i64 0), (.int .i64 0)]), [], none, 0, 0⟩,
          ⟨none, (.store 7), [(.t 7), (.t 29)], none, 0, 0⟩])
        (.seq
        (.ops [1, 5, 6, 7, 8] [
          ⟨(.some 30), .mv, [(.t 5)], none, 0, 0⟩,
          ⟨(.some 31), (.call 8), [(.t 30)], none, 0, 0⟩,
          ⟨(.some 8), .mv, [(.t 31)], none, 0, 0⟩])
        (.seq
        (.ops [1, 5, 6, 7, 8] [
          ⟨(.some 32), .mv, [(.t 5)], none, 0, 0⟩,
          ⟨(.some 33), (.load true 7), [(.t 7)], none, 0, 0⟩,
          ⟨(.some 34), (.call 10), [(.t 32), (.t 33)], none, 0, 0⟩])
        (.seq
        (.ops [1, 5, 6, 7, 8, 9] [
          ⟨(.some 35), .mv, [(.t 5)], none, 0, 0⟩,
          ⟨(.some 36), (.call 8), [(.t 35)], none, 0, 0⟩,
          ⟨(.some 9), .mv, [(.t 36)], none, 0, 0⟩])
        (.seq
        (.ops [1, 5, 6, 7, 8, 9, 10] [
          ⟨(.some 10), .mv, [(.c (.bool true))], none, 0, 0⟩])
        (.seq
        (.ops [1, 5, 6, 7, 8, 9, 10, 11] [
          ⟨(.some 11), .mv, [(.c (.int .i64 0))], none, 0, 0⟩])
        (.block 2
          (.loop [1, 5, 6, 7, 8, 9, 10, 11]
            (.seq
            (.seq
            (.ops [1, 5, 6, 7, 8, 9, 10, 11, 45] [
              ⟨(.some 37), .mv, [(.t 11)], none, 0, 0⟩,
              ⟨(.some 38), .mv, [(.t 8)], none, 0, 0⟩,
              ⟨(.some 39), .len, [(.t 38)], none, 0, 0⟩,
              ⟨(.some 40), (.cmp .lss), [(.t 37), (.t 39)], none, 0, 0⟩,
              ⟨(.some 41), .mv, [(.t 40)], none, 0, 0⟩,
              ⟨(.some 42), (.fieldAddr 0), [(.t 7)], (.some (41, true)), 0, 0⟩,
              ⟨(.some 43), (.load false 1), [(.t 42)], (.some (41, true)), 0, 0⟩,
              ⟨(.some 44), (.eq true .int), [(.t 43), (.c (.int .i64 0))], (.some (41, true)), 0, 0⟩,
              ⟨(.some 45), .pick, [(.t 41), (.t 44), (.c (.bool false))], none, 0, 0⟩])
            (.cond (.t 45)
              .skip
              (.exit 2)))
            (.seq
            (.block 3
              (.seq
              (.ops [1, 5, 6, 7, 8, 9, 10, 11, 12] [
                ⟨(.some 48), .mv, [(.t 8)], none, 0, 0⟩,
                ⟨(.some 49), .mv, [(.t 11)], none, 0, 0⟩,
                ⟨(.some 50), (.idxAddr 3), [(.t 48), (.t 49)], none, 0, 0⟩,
                ⟨(.some 51), (.fieldAddr 0), [(.t 50)], none, 0, 0⟩,
                ⟨(.some 52), (.load false 1), [(.t 51)], none, 0, 0⟩,
                ⟨(.some 12), .mv, [(.t 52)], none, 0, 0⟩])
              (.seq
              (.ops [1, 5, 6, 7, 8, 9, 10, 11, 12, 13] [
                ⟨(.some 53), .mv, [(.t 9)], none, 0, 0⟩,
                ⟨(.some 54), .mv, [(.t 11)], none, 0, 0⟩,
                ⟨(.some 55), (.idxAddr 3), [(.t 53), (.t 54)], none, 0, 0⟩,
                ⟨(.some 56), (.fieldAddr 0), [(.t 55)], none, 0, 0⟩,
                ⟨(.some 57), (.load false 1), [(.t 56)], none, 0, 0⟩,
                ⟨(.some 13), .mv, [(.t 57)], none, 0, 0⟩])
              (.seq
              (.seq
              (.ops [1, 5, 6, 7, 8, 9, 10, 11, 12, 13, 119] [
                ⟨(.some 58), .mv, [(.t 12)], none, 0, 0⟩,
                ⟨(.some 59), .mv, [(.t 13)], none, 0, 0⟩,
                ⟨(.some 60), (.eq true .int), [(.t 58), (.t 59)], none, 0, 0⟩,
                ⟨(.some 61), .mv, [(.t 60)], none, 0, 0⟩,
                ⟨(.some 62), .mv, [(.t 13)], (.some (61, true)), 0, 0⟩,
                ⟨(.some 63), .mv, [(.t 12)], (.some (61, true)), 0, 0⟩,
                ⟨(.some 64), (.arith .add), [(.t 63), (.c (.int .i64 1))], (.some (61, true)), 0, 0⟩,
                ⟨(.some 65), (.arith .rem), [(.t 64), (.c (.int .i64 4))], (.some (61, true)), 0, 0⟩,
                ⟨(.some 66), (.eq true .int), [(.t 62), (.t 65)], (.some (61, true)), 0, 0⟩,
                ⟨(.some 67), .pick, [(.t 61), (.t 66), (.c (.bool false))], none, 0, 0⟩,
                ⟨(.some 68), .mv, [(.t 67)], none, 0, 0⟩,
                ⟨(.some 69), .mv, [(.t 12)], (.some (68, false)), 0, 0⟩,
                ⟨(.some 70), (.eq false .int), [(.t 69), (.c (.int .i64 0))], (.some (68, false)), 0, 0⟩,
                ⟨(.some 71), .mv, [(.t 70)], (.some (68, false)), 0, 0⟩,
                ⟨(.some 72), .mv, [(.t 13)], (.some (71, true)), 0, 0⟩,
                ⟨(.some 73), (.eq false .int), [(.t 72), (.c (.int .i64 1))], (.some (71, true)), 0, 0⟩,
                ⟨(.some 74), .pick, [(.t 71), (.t 73), (.c (.bool false))], (.some (68, false)), 0, 0⟩,
                ⟨(.some 75), .mv, [(.t 74)], (.some (68, false)), 0, 0⟩,
                ⟨(.some 76), .mv, [(.t 10)], (.some (75, true)), 0, 0⟩,
                ⟨(.some 77), .not, [(.t 76)], (.some (75, true)), 0, 0⟩,
                ⟨(.some 78), .pick, [(.t 75), (.t 77), (.c (.bool false))], (.some (68, false)), 0, 0⟩,
                ⟨(.some 79), .pick, [(.t 68), (.c (.bool true)), (.t 78)], none, 0, 0⟩,
                ⟨(.some 80), .mv, [(.t 79)], none, 0, 0⟩,
                ⟨(.some 81), .mv, [(.t 12)], (.some (80, false)), 0, 0⟩,
                ⟨(.some 82), (.eq false .int), [(.t 81), (.c (.int .i64 2))], (.some (80, false)), 0, 0⟩,
                ⟨(.some 83), .mv, [(.t 82)], (.some (80, false)), 0, 0⟩,
                ⟨(.some 84), .mv, [(.t 13)], (.some (83, true)), 0, 0⟩,
                ⟨(.some 85), (.eq false .int), [(.t 84), (.c (.int .i64 3))], (.some (83, true)), 0, 0⟩,
                ⟨(.some 86), .pick, [(.t 83), (.t 85), (.c (.bool false))], (.some (80, false)), 0, 0⟩,
                ⟨(.some 87), .mv, [(.t 86)], (.some (80, false)), 0, 0⟩,
                ⟨(.some 88), (.fieldAddr 0), [(.t 7)], (.some (87, true)), 0, 0⟩,
                ⟨(.some 89), (.load false 1), [(.t 88)], (.some (87, true)), 0, 0⟩,
                ⟨(.some 90), (.eq true .int), [(.t 89), (.c (.int .i64 3))], (.some (87, true)), 0, 0⟩,
                ⟨(.some 91), .mv, [(.t 90)], (.some (87, true)), 0, 0⟩,
                ⟨(.some 92), (.fieldAddr 1), [(.t 7)], (.some (91, false)), 0, 0⟩,
                ⟨(.some 93), (.load false 1), [(.t 92)], (.some (91, false)), 0, 0⟩,
                ⟨(.some 94), .mv, [(.t 11)], (.some (91, false)), 0, 0⟩,
                ⟨(.some 95), (.eq true .int), [(.t 93), (.t 94)], (.some (91, false)), 0, 0⟩,
                ⟨(.some 96), .pick, [(.t 91), (.c (.bool true)), (.t 95)], (.some (87, true)), 0, 0⟩,
                ⟨(.some 97), .mv, [(.t 96)], (.some (87, true)), 0, 0⟩,
                ⟨(.some 98), .mv, [(.t 8)], (.some (97, false)), 0, 0⟩,
                ⟨(.some 99), .mv, [(.t 11)], (.some (97, false)), 0, 0⟩,
                ⟨(.some 100), (.idxAddr 3), [(.t 98), (.t 99)], (.some (97, false)), 0, 0⟩,
                ⟨(.some 101), (.fieldAddr 1), [(.t 100)], (.some (97, false)), 0, 0⟩,
                ⟨(.some 102), (.load false 1), [(.t 101)], (.some (97, false)), 0, 0⟩,
                ⟨(.some 103), (.eq true .int), [(.t 102), (.c (.int .i64 0))], (.some (97, false)), 0, 0⟩,
                ⟨(.some 104), .pick, [(.t 97), (.c (.bool true)), (.t 103)], (.some (87, true)), 0, 0⟩,
                ⟨(.some 105), .pick, [(.t 87), (.t 104), (.c (.bool false))], (.some (80, false)), 0, 0⟩,
                ⟨(.some 106), .pick, [(.t 80), (.c (.bool true)), (.t 105)], none, 0, 0⟩,
                ⟨(.some 107), .mv, [(.t 106)], none, 0, 0⟩,
                ⟨(.some 108), .mv, [(.t 12)], (.some (107, false)), 0, 0⟩,
                ⟨(.some 109), (.eq false .int), [(.t 108), (.c (.int .i64 3))], (.some (107, false)), 0, 0⟩,
                ⟨(.some 110), .mv, [(.t 109)], (.some (107, false)), 0, 0⟩,
                ⟨(.some 111), .mv, [(.t 13)], (.some (110, true)), 0, 0⟩,
                ⟨(.some 112), (.eq false .int), [(.t 111), (.c (.int .i64 0))], (.some (110, true)), 0, 0⟩,
                ⟨(.some 113), .pick, [(.t 110), (.t 112), (.c (.bool false))], (.some (107, false)), 0, 0⟩,
                ⟨(.some 114), .mv, [(.t 113)], (.some (107, false)), 0, 0⟩,
                ⟨(.some 115), (.fieldAddr 0), [(.t 7)], (.some (114, true)), 0, 0⟩,
                ⟨(.some 116), (.load false 1), [(.t 115)], (.some (114, true)), 0, 0⟩,
                ⟨(.some 117), (.eq true .int), [(.t 116), (.c (.int .i64 4))], (.some (114, true)), 0, 0⟩,
                ⟨(.some 118), .pick, [(.t 114), (.t 117), (.c (.bool false))], (.some (107, false)), 0, 0⟩,
                ⟨(.some 119), .pick, [(.t 107), (.c (.bool true)), (.t 118)], none, 0, 0⟩])
              (.cond (.t 119)
                (.seq
                (.ops [4] [
                  ⟨(.some 4), .mv, [(.c (.bool false))], none, 0, 0⟩])
                .ret)
                .skip))
              (.seq
              (.seq
              (.ops [1, 5, 6, 7, 8, 9, 10, 11, 12, 126] [
                ⟨(.some 120), (.fieldAddr 0), [(.t 7)], none, 0, 0⟩,
                ⟨(.some 121), (.load false 1), [(.t 120)], none, 0, 0⟩,
                ⟨(.some 122), (.eq false .int), [(.t 121), (.c (.int .i64 4))], none, 0, 0⟩,
                ⟨(.some 123), .mv, [(.t 122)], none, 0, 0⟩,
                ⟨(.some 124), .mv, [(.t 13)], (.some (123, true)), 0, 0⟩,
                ⟨(.some 125), (.eq false .int), [(.t 124), (.c (.int .i64 3))], (.some (123, true)), 0, 0⟩,
                ⟨(.some 126), .pick, [(.t 123), (.t 125), (.c (.bool false))], none, 0, 0⟩])
              (.cond (.t 126)
                (.seq
                (.ops [4] [
                  ⟨(.some 4), .mv, [(.c (.bool false))], none, 0, 0⟩])
                .ret)
                .skip))
              (.ops [1, 5, 6, 7, 8, 9, 10, 11] [
                ⟨(.some 127), .mv, [(.t 10)], none, 0, 0⟩,
                ⟨(.some 128), .mv, [(.t 127)], none, 0, 0⟩,
                ⟨(.some 129), .mv, [(.t 12)], (.some (128, true)), 0, 0⟩,
                ⟨(.some 130), (.eq true .int), [(.t 129), (.c (.int .i64 0))], (.some (128, true)), 0, 0⟩,
                ⟨(.some 131), .pick, [(.t 128), (.t 130), (.c (.bool false))], none, 0, 0⟩,
                ⟨(.some 10), .mv, [(.t 131)], none, 0, 0⟩]))))))
            (.ops [1, 5, 6, 7, 8, 9, 10, 11] [
              ⟨(.some 46), .mv, [(.t 11)], none, 0, 0⟩,
              ⟨(.some 47), (.arith .add), [(.t 46), (.c (.int .i64 1))], none, 0, 0⟩,
              ⟨(.some 11), .mv, [(.t 47)], none, 0, 0⟩]))))))))))))
      (.ops [1, 5, 6] [
        ⟨(.some 24), .mv, [(.t 6)], none, 0, 0⟩,
        ⟨(.some 25), (.arith .add), [(.t 24), (.c (.int .i64 1))], none, 0, 0⟩,
        ⟨(.some 6), .mv, [(.t 25)], none, 0, 0⟩]))))))
  (.seq
  (.ops [4] [
    ⟨(.some 132), (.call 6), [], none, 0, 0⟩,
    ⟨(.some 4), .mv, [(.t 132)], none, 0, 0⟩])
  .ret)))))
def r4 : List ARes := [(.tmp 4)]
theorem ok4 : FnOk Try.prog 4 c4 r4 :=
  ⟨Try.f4, _, Try.func4, by kernel_rfl, rfl, by kernel_rfl, by kernel_rfl⟩
/-- rill/rilllaw16.UsageKnown -/
def c5 : ACode :=
  (.seq
  (.ops [] [
    ⟨(.some 0), .mv, [(.c (.bool false))], none, 0, 0⟩])
  (.seq
  (.ops [1] [
    ⟨(.some 5), (.mkSl 19 (List.replicate 19 (.int .i64 0)) [(0, 1), (1, 1), (2, 1), (3, 1), (4, 1), (5, 1), (6, 1), (7, 1), (8, 1), (9, 1), (10, 1), (11, 1), (12, 1), (13, 1), (14, 1), (15, 1), (16, 1), (17, 1), (18, 1)]), [(.c (.int .i64 (-9223372036854775808))), (.c (.int .i64 (-65))), (.c (.int .i64 (-64))), (.c (.int .i64 (-3))), (.c (.int .i64 (-2))), (.c (.int .i64 (-1))), (.c (.int .i64 0)), (.c (.int .i64 1)), (.c (.int .i64 2)), (.c (.int .i64 3)), (.c (.int .i64 31)), (.c (.int .i64 32)), (.c (.int .i64 33)), (.c (.int .i64 63)), (.c (.int .i64 64)), (.c (.int .i64 65)), (.c (.int .i64 1099511627776)), (.c (.int .i64 1099511627777)), (.c (.int .i64 9223372036854775807))], none, 0, 0⟩,
    ⟨(.some 1), .mv, [(.t 5)], none, 0, 0⟩])
  (.seq
  (.seq
  (.ops [1, 2] [
    ⟨(.some 2), .mv, [(.c (.int .i64 0))], none, 0, 0⟩])
  (.block 0
    (.loop [1, 2]
      (.seq
      (.seq
      (.ops [1, 2, 9] [
        ⟨(.some 6), .mv, [(.t 2)], none, 0, 0⟩,
        ⟨(.some 7), .mv, [(.t 1)], none, 0, 0⟩,
        ⟨(.some 8), .len, [(.t 7)], none, 0, 0⟩,
        ⟨(.some 9), (.cmp .lss), [(.t 6), (.t 8)], none, 0, 0⟩])
      (.cond (.t 9)
        .skip
        (.exit 0)))
      (.seq
      (.block 1
        (.seq
        (.ops [1, 2, 3] [
          ⟨(.some 3), .mv, [(.c (.int .i64 0))], none, 0, 0⟩])
        (.block 2
          (.loop [1, 2, 3]
            (.seq
            (.seq
            (.ops [1, 2, 3, 15] [
              ⟨(.some 12), .mv, [(.t 3)], none, 0, 0⟩,
              ⟨(.some 13), .mv, [(.t 1)], none, 0, 0⟩,
              ⟨(.some 14), .len, [(.t 13)], none, 0, 0⟩,
              ⟨(.some 15), (.cmp .lss), [(.t 12), (.t 14)], none, 0, 0⟩])
            (.cond (.t 15)
              .skip
              (.exit 2)))
            (.seq
            (.block 3
              (.seq
              (.drawn [1, 2, 3, 4] [
                ⟨(.some 18), .mv, [(.t 1)], none, 0, 0⟩,
                ⟨(.some 19), .mv, [(.t 2)], none, 0, 0⟩,
                ⟨(.some 20), (.idxAddr 1), [(.t 18), (.t 19)], none, 0, 0⟩,
                ⟨(.some 21), (.load false 1), [(.t 20)], none, 0, 0⟩,
                ⟨(.some 22), (.build [(.int .i64 0), (.int .i64 0), (.int .i64 0), (.int .i64 0), (.int .i64 0), (.int .i64 0), (.int .i64 0)] [(0, 1), (3, 1)]), [(.c (.int .i64 1)), (.t 21)], none, 0, 0⟩,
                ⟨(.some 23), .mv, [(.t 1)], none, 0, 0⟩,
                ⟨(.some 24), .mv, [(.t 3)], none, 0, 0⟩,
                ⟨(.some 25), (.idxAddr 1), [(.t 23), (.t 24)], none, 0, 0⟩,
                ⟨(.some 26), (.load false 1), [(.t 25)], none, 0, 0⟩,
                ⟨(.some 27), (.build [(.int .i64 0), (.int .i64 0), (.int .i64 0), (.int .i64 0), (.int .i64 0), (.int .i64 0), (.int .i64 0)] [(0, 1), (3, 1)]), [(.c (.int .i64 1)), (.t 26)], none, 0, 0⟩,
                ⟨(.some 28), (.build [(.int .i64 0), (.int .i64 0), (.int .i64 0), (.int .i64 0), (.int .i64 0), (.int .i64 0), (.int .i64 0)] [(0, 1), (1, 1), (2, 1), (3, 1)]), [(.c (.int .i64 2)), (.c (.int .i64 0)), (.c (.int .i64 2)), (.c (.int .i64 9))], none, 0, 0⟩,
                ⟨(.some 29), .mv, [(.t 1)], none, 0, 0⟩,
                ⟨(.some 30), .mv, [(.t 2)], none, 0, 0⟩,
                ⟨(.some 31), (.idxAddr 1), [(.t 29), (.t 30)], none, 0, 0⟩,
                ⟨(.some 32), (.load false 1), [(.t 31)], none, 0, 0⟩,
                ⟨(.some 33), .mv, [(.t 1)], none, 0, 0⟩,
                ⟨(.some 34), .mv, [(.t 3)], none, 0, 0⟩,
                ⟨(.some 35), (.idxAddr 1), [(.t 33), (.t 34)], none, 0, 0⟩,
                ⟨(.some 36), (.load false 1), [(.t 35)], none, 0, 0⟩,
                ⟨(.some 37), (.build [(.int .i64 0), (.int .i64 0), (.int .i64 0), (.int .i64 0), (.int .i64 0), (.int .i64 0), (.int .i64 0)] [(0, 1), (1, 1), (2, 1), (3, 1)]), [(.c (.int .i64 2)), (.t 32), (.t 36), (.c (.int .i64 3))], none, 0, 0⟩,
                ⟨(.some 38), .mv, [(.t 1)], none, 0, 0⟩,
                ⟨(.some 39), .mv, [(.t 2)], none, 0, 0⟩,
                ⟨(.some 40), (.idxAddr 1), [(.t 38), (.t 39)], none, 0, 0⟩,
                ⟨(.some 41), (.load false 1), [(.t 40)], none, 0, 0⟩,
                ⟨(.some 42), .mv, [(.t 1)], none, 0, 0⟩,
                ⟨(.some 43), .mv, [(.t 3)], none, 0, 0⟩,
                ⟨(.some 44), (.idxAddr 1), [(.t 42), (.t 43)], none, 0, 0⟩,
                ⟨(.some 45), (.load false 1), [(.t 44)], none, 0, 0⟩,
                ⟨(.some 46), (.build [(.int .i64 0), (.int .i64 0), (.int .i64 0), (.int .i64 0), (.int .i64 0), (.int .i64 0), (.int .i64 0)] [(0, 1), (1, 1), (2, 1), (3, 1)]), [(.c (.int .i64 2)), (.c (.int .i64 0)), (.t 41), (.t 45)], none, 0, 0⟩,
                ⟨(.some 47), .mv, [(.t 1)], none, 0, 0⟩,
                ⟨(.some 48), .mv, [(.t 3)], none, 0, 0⟩,
                ⟨(.some 49), (.idxAddr 1), [(.t 47), (.t 48)], none, 0, 0⟩,
                ⟨(.some 50), (.load false 1), [(.t 49)], none, 0, 0⟩,
                ⟨(.some 51), (.build [(.int .i64 0), (.int .i64 0), (.int .i64 0), (.int .i64 0), (.int .i64 0), (.int .i64 0), (.int .i64 0)] [(0, 1), (1, 1)]), [(.c (.int .i64 3)), (.t 50)], none, 0, 0⟩,
                ⟨(.some 52), (.build [(.int .i64 0), (.int .i64 0), (.int .i64 0), (.int .i64 0), (.int .i64 0), (.int .i64 0), (.int .i64 0)] [(0, 1), (1, 1), (2, 1)]), [(.c (.int .i64 2)), (.c (.int .i64 0)), (.c (.int .i64 (-2)))], none, 0, 0⟩,
                ⟨(.some 53), (.build [(.int .i64 0), (.int .i64 0), (.int .i64 0), (.int .i64 0), (.int .i64 0), (.int .i64 0), (.int .i64 0)] [(0, 1), (1, 1)]), [(.c (.int .i64 3)), (.c (.int .i64 0))], none, 0, 0⟩,
                ⟨(.some 54), (.build [(.int .i64 0), (.int .i64 0), (.int .i64 0), (.int .i64 0), (.int .i64 0), (.int .i64 0), (.int .i64 0)] [(0, 1)]), [(.c (.int .i64 1))], none, 0, 0⟩,
                ⟨(.some 55), (.build [(.int .i64 0), (.int .i64 0), (.int .i64 0), (.int .i64 0), (.int .i64 0), (.int .i64 0), (.int .i64 0)] [(0, 1)]), [(.c (.int .i64 1))], none, 0, 0⟩,
                ⟨(.some 56), (.build [(.int .i64 0), (.int .i64 0), (.int .i64 0), (.int .i64 0), (.int .i64 0), (.int .i64 0), (.int .i64 0)] [(0, 1)]), [(.c (.int .i64 4))], none, 0, 0⟩,
                ⟨(.some 57), (.build [(.int .i64 0), (.int .i64 0), (.int .i64 0), (.int .i64 0), (.int .i64 0), (.int .i64 0), (.int .i64 0)] [(0, 1), (3, 1)]), [(.c (.int .i64 1)), (.c (.int .i64 8))], none, 0, 0⟩,
                ⟨(.some 58), .mv, [(.t 1)], none, 0, 0⟩,
                ⟨(.some 59), .mv, [(.t 2)], none, 0, 0⟩,
                ⟨(.some 60), (.idxAddr 1), [(.t 58), (.t 59)], none, 0, 0⟩,
                ⟨(.some 61), (.load false 1), [(.t 60)], none, 0, 0⟩,
                ⟨(.some 62), .mv, [(.t 1)], none, 0, 0⟩,
                ⟨(.some 63), .mv, [(.t 3)], none, 0, 0⟩,
                ⟨(.some 64), (.idxAddr 1), [(.t 62), (.t 63)], none, 0, 0⟩,
                ⟨(.some 65), (.load false 1), [(.t 64)], none, 0, 0⟩,
                ⟨(.some 66), (.build [(.int .i64 0), (.int .i64 0), (.int .i64 0)] [(0, 1)]), [(.t 65)], none, 0, 0⟩,
                ⟨(.some 67), (.build [(.int .i64 0), (.int .i64 0), (.int .i64 0), (.int .i64 0), (.int .i64 0), (.int .i64 0), (.int .i64 0)] [(0, 1), (1, 1), (4, 3)]), [(.c (.int .i64 0)), (.t 61), (.t 66)], none, 0, 0⟩,
                ⟨(.some 68), .mv, [(.t 1)], none, 0, 0⟩,
                ⟨(.some 69), .mv, [(.t 2)], none, 0, 0⟩,
                ⟨(.some 70), (.idxAddr 1), [(.t 68), (.t 69)], none, 0, 0⟩,
                ⟨(.some 71), (.load false 1), [(.t 70)], none, 0, 0⟩,
                ⟨(.some 72), .mv, [(.t 1)], none, 0, 0⟩,
                ⟨(.some 73), .mv, [(.t 3)], none, 0, 0⟩,
                ⟨(.some 74), (.idxAddr 1), [(.t 72), (.t 73)], none, 0, 0⟩,
                ⟨(.some 75), (.load false 1), [(.t 74)], none, 0, 0⟩,
                ⟨(.some 76), (.build [(.int .i64 0), (.int .i64 0), (.int .i64 0)] [(0, 1), (1, 1), (2, 1)]), [(.c (.int .i64 2)), (.t 71), (.t 75)], none, 0, 0⟩,
                ⟨(.some 77), (.build [(.int .i64 0), (.int .i64 0), (.int .i64 0), (.int .i64 0), (.int .i64 0), (.int .i64 0), (.int .i64 0)] [(0, 1), (1, 1), (4, 3)]), [(.c (.int .i64 0)), (.c (.int .i64 1)), (.t 76)], none, 0, 0⟩,
                ⟨(.some 78), (.build [(.int .i64 0), (.int .i64 0), (.int .i64 0)] [(0, 1)]), [(.c (.int .i64 1))], none, 0, 0⟩,
                ⟨(.some 79), (.build [(.int .i64 0), (.int .i64 0), (.int .i64 0), (.int .i64 0), (.int .i64 0), (.int .i64 0), (.int .i64 0)] [(0, 1), (1, 1), (4, 3)]), [(.c (.int .i64 0)), (.c (.int .i64 2)), (.t 78)], none, 0, 0⟩,
                ⟨(.some 80), (.build [(.int .i64 0), (.int .i64 0), (.int .i64 0), (.int .i64 0), (.int .i64 0), (.int .i64 0), (.int .i64 0)] [(0, 1)]), [(.c (.int .i64 9))], none, 0, 0⟩,
                ⟨(.some 81), (.build [(.int .i64 0), (.int .i64 0), (.int .i64 0), (.int .i64 0), (.int .i64 0), (.int .i64 0), (.int .i64 0)] [(0, 1)]), [(.c (.int .i64 4))], none, 0, 0⟩,
                ⟨(.some 82), (.mkSl 17 (List.replicate 119 (.int .i64 0)) [(0, 7), (7, 7), (14, 7), (21, 7), (28, 7), (35, 7), (42, 7), (49, 7), (56, 7), (63, 7), (70, 7), (77, 7), (84, 7), (91, 7), (98, 7), (105, 7), (112, 7)]), [(.t 22), (.t 27), (.t 28), (.t 37), (.t 46), (.t 51), (.t 52), (.t 53), (.t 54), (.t 55), (.t 56), (.t 57), (.t 67), (.t 77), (.t 79), (.t 80), (.t 81)], none, 0, 0⟩,
                ⟨(.some 4), .mv, [(.t 82)], none, 0, 0⟩])
              (.seq
              (.ops [1, 2, 3, 108] [
                ⟨(.some 83), .mv, [(.t 4)], none, 0, 0⟩,
                ⟨(.some 84), (.call 13), [(.c (.int .i64 3)), (.t 83)], none, 0, 0⟩,
                ⟨(.some 85), .not, [(.t 84)], none, 0, 0⟩,
                ⟨(.some 86), .mv, [(.t 85)], none, 0, 0⟩,
                ⟨(.some 87), .mv, [(.t 1)], (.some (86, false)), 0, 0⟩,
                ⟨(.some 88), .mv, [(.t 2)], (.some (86, false)), 0, 0⟩,
                ⟨(.some 89), (.idxAddr 1), [(.t 87), (.t 88)], (.some (86, false)), 0, 0⟩,
                ⟨(.some 90), (.load false 1), [(.t 89)], (.some (86, false)), 0, 0⟩,
                ⟨(.some 91), .mv, [(.t 4)], (.some (86, false)), 0, 0⟩,
                ⟨(.some 92), (.call 13), [(.t 90), (.t 91)], (.some (86, false)), 0, 0⟩,
                ⟨(.some 93), .not, [(.t 92)], (.some (86, false)), 0, 0⟩,
                ⟨(.some 94), .pick, [(.t 86), (.c (.bool true)), (.t 93)], none, 0, 0⟩,
                ⟨(.some 95), .mv, [(.t 94)], none, 0, 0⟩,
                ⟨(.some 96), .mv, [(.t 1)], (.some (95, false)), 0, 0⟩,
                ⟨(.some 97), .mv, [(.t 3)], (.some (95, false)), 0, 0⟩,
                ⟨(.some 98), (.idxAddr 1), [(.t 96), (.t 97)], (.some (95, false)), 0, 0⟩,
                ⟨(.some 99), (.load false 1), [(.t 98)], (.some (95, false)), 0, 0⟩,
                ⟨(.some 100), .mv, [(.t 4)], (.some (95, false)), 0, 0⟩,
                ⟨(.some 101), (.call 3), [(.t 99), (.t 100)], (.some (95, false)), 0, 0⟩,
                ⟨(.some 102), .not, [(.t 101)], (.some (95, false)), 0, 0⟩,
                ⟨(.some 103), .pick, [(.t 95), (.c (.bool true)), (.t 102)], none, 0, 0⟩,
                ⟨(.some 104), .mv, [(.t 103)], none, 0, 0⟩,
                ⟨(.some 105), .mv, [(.t 4)], (.some (104, false)), 0, 0⟩,
                ⟨(.some 106), (.call 4), [(.c (.int .i64 3)), (.t 105)], (.some (104, false)), 0, 0⟩,
                ⟨(.some 107), .not, [(.t 106)], (.some (104, false)), 0, 0⟩,
                ⟨(.some 108), .pick, [(.t 104), (.c (.bool true)), (.t 107)], none, 0, 0⟩])
              (.cond (.t 108)
                (.seq
                (.ops [0] [
                  ⟨(.some 0), .mv, [(.c (.bool false))], none, 0, 0⟩])
                .ret)
                .skip))))
            (.ops [1, 2, 3] [
              ⟨(.some 16), .mv, [(.t 3)], none, 0, 0⟩,
              ⟨(.some 17), (.arith .add), [(.t 16), (.c (.int .i64 1))], none, 0, 0⟩,
              ⟨(.some 3), .mv, [(.t 17)], none, 0, 0⟩])))))))
      (.ops [1, 2] [
        ⟨(.some 10), .mv, [(.t 2)], none, 0, 0⟩,
        ⟨(.some 11), (.arith .add), [(.t 10), (.c (.int .i64 1))], none, 0, 0⟩,
        ⟨(.some 2), .mv, [(.t 11)], none, 0, 0⟩]))))))
  (.seq
  (.ops [0] [
    ⟨(.some 109), (.call 6), [], none, 0, 0⟩,
    ⟨(.some 0), .mv, [(.t 109)], none, 0, 0⟩])
  .ret))))
def r5 : List ARes := [(.tmp 0)]
theorem ok5 : FnOk Try.prog 5 c5 r5 :=
  ⟨Try.f5, _, Try.func5, by kernel_rfl, rfl, by kernel_rfl, by kernel_rfl⟩
/-- rill/rilllaw16.works -/
def c6 : ACode :=
  (.seq
  (.ops [] [
    ⟨(.some 0), .mv, [(.c (.bool false))], none, 0, 0⟩])
  (.seq
  (.ops [1] [
    ⟨(.some 11), (.call 7), [(.c (.int .i64 3))], none, 0, 0⟩,
    ⟨(.some 1), .mv, [(.t 11)], none, 0, 0⟩])
  (.seq
  (.ops [1, 2, 3] [
    ⟨(.some 13), .mv, [(.t 1)], none, 0, 0⟩,
    ⟨(.some 14), (.call 14), [(.t 13), (.c (.int .i64 5))], none, 0, 0⟩,
    ⟨(.some 12), .mv, [(.t 14)], none, 0, 0⟩,
    ⟨(.some 15), (.extract 0), [(.t 12)], none, 0, 0⟩,
    ⟨(.some 16), (.extract 1), [(.t 12)], none, 0, 0⟩,
    ⟨(.some 2), .mv, [(.t 15)], none, 0, 0⟩,
    ⟨(.some 3), .mv, [(.t 16)], none, 0, 0⟩])
  (.seq
  (.ops [1, 2, 3, 4, 5] [
    ⟨(.some 18), .mv, [(.t 1)], none, 0, 0⟩,
    ⟨(.some 19), (.call 14), [(.t 18), (.c (.int .i64 7))], none, 0, 0⟩,
    ⟨(.some 17), .mv, [(.t 19)], none, 0, 0⟩,
    ⟨(.some 20), (.extract 0), [(.t 17)], none, 0, 0⟩,
    ⟨(.some 21), (.extract 1), [(.t 17)], none, 0, 0⟩,
    ⟨(.some 4), .mv, [(.t 20)], none, 0, 0⟩,
    ⟨(.some 5), .mv, [(.t 21)], none, 0, 0⟩])
  (.seq
  (.ops [1, 2, 3, 4, 5, 6] [
    ⟨(.some 22), .mv, [(.t 1)], none, 0, 0⟩,
    ⟨(.some 23), (.call 15), [(.t 22), (.c (.int .i64 0)), (.c (.int .i64 2)), (.c (.int .i64 9))], none, 0, 0⟩,
    ⟨(.some 6), .mv, [(.t 23)], none, 0, 0⟩])
  (.seq
  (.ops [1, 2, 3, 4, 5, 6, 7] [
    ⟨(.some 24), .mv, [(.t 1)], none, 0, 0⟩,
    ⟨(.some 25), (.call 16), [(.t 24), (.c (.int .i64 0))], none, 0, 0⟩,
    ⟨(.some 7), .mv, [(.t 25)], none, 0, 0⟩])
  (.seq
  (.ops [1, 2, 3, 4, 5, 6, 7, 8] [
    ⟨(.some 26), .mv, [(.t 1)], none, 0, 0⟩,
    ⟨(.some 27), (.call 15), [(.t 26), (.c (.int .i64 0)), (.c (.int .i64 (-2))), (.c (.int .i64 11))], none, 0, 0⟩,
    ⟨(.some 8), .mv, [(.t 27)], none, 0, 0⟩])
  (.seq
  (.ops [1, 2, 3, 4, 5, 6, 7, 8, 9] [
    ⟨(.some 28), .mv, [(.t 1)], none, 0, 0⟩,
    ⟨(.some 29), (.call 16), [(.t 28), (.c (.int .i64 0))], none, 0, 0⟩,
    ⟨(.some 9), .mv, [(.t 29)], none, 0, 0⟩])
  (.seq
  (.ops [1, 2, 3, 4, 5, 6, 7, 8, 9, 10] [
    ⟨(.some 30), .mv, [(.t 1)], none, 0, 0⟩,
    ⟨(.some 31), (.call 8), [(.t 30)], none, 0, 0⟩,
    ⟨(.some 10), .mv, [(.t 31)], none, 0, 0⟩])
  (.seq
  (.ops [0] [
    ⟨(.some 32), .mv, [(.t 3)], none, 0, 0⟩,
    ⟨(.some 33), .mv, [(.t 32)], none, 0, 0⟩,
    ⟨(.some 34), .mv, [(.t 5)], (.some (33, true)), 0, 0⟩,
    ⟨(.some 35), .pick, [(.t 33), (.t 34), (.c (.bool false))], none, 0, 0⟩,
    ⟨(.some 36), .mv, [(.t 35)], none, 0, 0⟩,
    ⟨(.some 37), .mv, [(.t 2)], (.some (36, true)), 0, 0⟩,
    ⟨(.some 38), (.eq false .int), [(.t 37), (.c (.int .i64 0))], (.some (36, true)), 0, 0⟩,
    ⟨(.some 39), .pick, [(.t 36), (.t 38), (.c (.bool false))], none, 0, 0⟩,
    ⟨(.some 40), .mv, [(.t 39)], none, 0, 0⟩,
    ⟨(.some 41), .mv, [(.t 4)], (.some (40, true)), 0, 0⟩,
    ⟨(.some 42), (.eq false .int), [(.t 41), (.c (.int .i64 1))], (.some (40, true)), 0, 0⟩,
    ⟨(.some 43), .pick, [(.t 40), (.t 42), (.c (.bool false))], none, 0, 0⟩,
    ⟨(.some 44), .mv, [(.t 43)], none, 0, 0⟩,
    ⟨(.some 45), .mv, [(.t 6)], (.some (44, true)), 0, 0⟩,
    ⟨(.some 46), (.eq false .int), [(.t 45), (.c (.int .i64 0))], (.some (44, true)), 0, 0⟩,
    ⟨(.some 47), .pick, [(.t 44), (.t 46), (.c (.bool false))], none, 0, 0⟩,
    ⟨(.some 48), .mv, [(.t 47)], none, 0, 0⟩,
    ⟨(.some 49), .mv, [(.t 7)], (.some (48, true)), 0, 0⟩,
    ⟨(.some 50), (.eq false .int), [(.t 49), (.c (.int .i64 16))], (.some (48, true)), 0, 0⟩,
    ⟨(.some 51), .pick, [(.t 48), (.t 50), (.c (.bool false))], none, 0, 0⟩,
    ⟨(.some 52), .mv, [(.t 51)], none, 0, 0⟩,
    ⟨(.some 53), .mv, [(.t 8)], (.some (52, true)), 0, 0⟩,
    ⟨(.some 54), (.eq false .int), [(.t 53), (.c (.int .i64 0))], (.some (52, true)), 0, 0⟩,
    ⟨(.some 55), .pick, [(.t 52), (.t 54), (.c (.bool false))], none, 0, 0⟩,
    ⟨(.some 56), .mv, [(.t 55)], none, 0, 0⟩,
    ⟨(.some 57), .mv, [(.t 9)], (.some (56, true)), 0, 0⟩,
    ⟨(.some 58), (.eq false .int), [(.t 57), (.c (.int .i64 0))], (.some (56, true)), 0, 0⟩,
    ⟨(.some 59), .pick, [(.t 56), (.t 58), (.c (.bool false))], none, 0, 0⟩,
    ⟨(.some 60), .mv, [(.t 59)], none, 0, 0⟩,
    ⟨(.some 61), .mv, [(.t 10)], (.some (60, true)), 0, 0⟩,
    ⟨(.some 62), .len, [(.t 61)], (.some (60, true)), 0, 0⟩,
    ⟨(.some 63), (.eq false .int), [(.t 62), (.c (.int .i64 3))], (.some (60, true)), 0, 0⟩,
    ⟨(.some 64), .pick, [(.t 60), (.t 63), (.c (.bool false))], none, 0, 0⟩,
    ⟨(.some 65), .mv, [(.t 64)], none, 0, 0⟩,
    ⟨(.some 66), .mv, [(.t 10)], (.some (65, true)), 0, 0⟩,
    ⟨(.some 67), (.idxAddr 3), [(.t 66), (.c (.int .i64 0))], (.some (65, true)), 0, 0⟩,
    ⟨(.some 68), (.load true 3), [(.t 67)], (.some (65, true)), 0, 0⟩,
    ⟨(.some 69), (.build [(.int .i64 0), (.int .i64 0), (.int .i64 0)] [(0, 1), (2, 1)]), [(.c (.int .i64 3)), (.c (.int .i64 9))], (.some (65, true)), 0, 0⟩,
    ⟨(.some 70), (.eqAgg false [.i, .i, .i]), [(.t 68), (.t 69)], (.some (65, true)), 0, 0⟩,
    ⟨(.some 71), .pick, [(.t 65), (.t 70), (.c (.bool false))], none, 0, 0⟩,
    ⟨(.some 72), .mv, [(.t 71)], none, 0, 0⟩,
    ⟨(.some 73), .mv, [(.t 1)], (.some (72, true)), 0, 0⟩,
    ⟨(.some 74), (.call 17), [(.t 73)], (.some (72, true)), 0, 0⟩,
    ⟨(.some 75), (.eq false .int), [(.t 74), (.c (.int .i64 1))], (.some (72, true)), 0, 0⟩,
    ⟨(.some 76), .pick, [(.t 72), (.t 75), (.c (.bool false))], none, 0, 0⟩,
    ⟨(.some 77), .mv, [(.t 76)], none, 0, 0⟩,
    ⟨(.some 78), .mv, [(.t 1)], (.some (77, true)), 0, 0⟩,
    ⟨(.some 79), (.call 9), [(.t 78), (.c (.int .i64 0))], (.some (77, true)), 0, 0⟩,
    ⟨(.some 80), (.eq false .int), [(.t 79), (.c (.int .i64 2))], (.some (77, true)), 0, 0⟩,
    ⟨(.some 81), .pick, [(.t 77), (.t 80), (.c (.bool false))], none, 0, 0⟩,
    ⟨(.some 0), .mv, [(.t 81)], none, 0, 0⟩])
  .ret))))))))))
def r6 : List ARes := [(.tmp 0)]
theorem ok6 : FnOk Try.prog 6 c6 r6 :=
  ⟨Try.f6, _, Try.func6, by kernel_rfl, rfl, by kernel_rfl, by kernel_rfl⟩
/-- rill/usage.New -/
def c7 : ACode :=
  (.seq
  (.ops [0] [
    ⟨(.some 2), .mv, [(.c .nilp)], none, 0, 0⟩])
  (.seq
  (.ops [2] [
    ⟨(.some 3), .mv, [(.t 0)], none, 0, 0⟩,
    ⟨(.some 4), (.call 18), [(.t 3), (.c (.int .i64 32))], none, 0, 0⟩,
    ⟨(.some 5), (.mkSlice [(.int .i64 0), (.int .i64 0), (.int .i64 0)] 24), [(.t 4), (.t 4)], none, 0, 0⟩,
    ⟨(.some 6), (.build [.nils] [(0, 1)]), [(.t 5)], none, 0, 0⟩,
    ⟨(.some 7), .box, [(.t 6)], none, 0, 0⟩,
    ⟨(.some 2), .mv, [(.t 7)], none, 0, 0⟩])
  .ret))
def r7 : List ARes := [(.tmp 2)]
theorem ok7 : FnOk Try.prog 7 c7 r7 :=
  ⟨Try.f7, _, Try.func7, by kernel_rfl, rfl, by kernel_rfl, by kernel_rfl⟩
/-- (*rill/usage.Table).Segs -/
def c8 : ACode :=
  (.seq
  (.ops [0] [
    ⟨(.some 2), .mv, [(.c .nils)], none, 0, 0⟩])
  (.seq
  (.ops [2] [
    ⟨(.some 3), .mv, [(.t 0)], none, 0, 0⟩,
    ⟨(.some 4), .nilCheck, [(.t 3)], none, 0, 0⟩,
    ⟨(.some 5), (.fieldAddr 0), [(.t 4)], none, 0, 0⟩,
    ⟨(.some 6), (.load false 1), [(.t 5)], none, 0, 0⟩,
    ⟨(.some 7), (.call 19), [(.t 6)], none, 0, 0⟩,
    ⟨(.some 2), .mv, [(.t 7)], none, 0, 0⟩])
  .ret))
def r8 : List ARes := [(.tmp 2)]
theorem ok8 : FnOk Try.prog 8 c8 r8 :=
  ⟨Try.f8, _, Try.func8, by kernel_rfl, rfl, by kernel_rfl, by kernel_rfl⟩
/-- (*rill/usage.Table).Count -/
def c9 : ACode :=
  (.seq
  (.ops [0, 1] [
    ⟨(.some 4), .mv, [(.c (.int .i64 0))], none, 0, 0⟩])
  (.seq
  (.ops [0, 1, 5] [
    ⟨(.some 5), .mv, [(.c (.int .i64 0))], none, 0, 0⟩])
  (.seq
  (.ops [0, 5, 6] [
    ⟨(.some 9), .mv, [(.t 1)], none, 0, 0⟩,
    ⟨(.some 10), (.mkFn (.func 20) 1), [(.t 9)], none, 0, 0⟩,
    ⟨(.some 6), .mv, [(.t 10)], none, 0, 0⟩])
  (.seq
  (.seq
  (.ops [5, 6, 14, 15, 16] [
    ⟨(.some 11), .mv, [(.t 0)], none, 0, 0⟩,
    ⟨(.some 12), .nilCheck, [(.t 11)], none, 0, 0⟩,
    ⟨(.some 13), (.fieldAddr 0), [(.t 12)], none, 0, 0⟩,
    ⟨(.some 14), (.load false 1), [(.t 13)], none, 0, 0⟩,
    ⟨(.some 15), .len, [(.t 14)], none, 0, 0⟩,
    ⟨(.some 16), .mv, [(.c (.int .i64 0))], none, 0, 0⟩])
  (.block 0
    (.loop [5, 6, 14, 15, 16]
      (.seq
      (.ops [5, 6, 14, 15, 16, 17] [
        ⟨(.some 17), (.cmp .lss), [(.t 16), (.t 15)], none, 0, 0⟩])
      (.seq
      (.cond (.t 17)
        .skip
        (.exit 0))
      (.seq
      (.block 1
        (.seq
        (.ops [5, 6, 8, 14, 15, 16] [
          ⟨(.some 18), (.idxAddr 3), [(.t 14), (.t 16)], none, 0, 0⟩,
          ⟨(.some 19), (.load true 3), [(.t 18)], none, 0, 0⟩,
          ⟨(.some 8), (.alloc [(.int .i64 0), (.int .i64 0), (.int .i64 0)]), [], none, 0, 0⟩,
          ⟨none, (.store 3), [(.t 8), (.t 19)], none, 0, 0⟩])
        (.seq
        (.ops [5, 6, 14, 15, 16, 22] [
          ⟨(.some 20), .mv, [(.t 6)], none, 0, 0⟩,
          ⟨(.some 21), (.load true 3), [(.t 8)], none, 0, 0⟩,
          ⟨(.some 22), .callv, [(.t 20), (.t 21)], none, 0, 0⟩])
        (.cond (.t 22)
          (.ops [5, 6, 14, 15, 16] [
            ⟨(.some 23), .mv, [(.t 5)], none, 0, 0⟩,
            ⟨(.some 24), (.arith .add), [(.t 23), (.c (.int .i64 1))], none, 0, 0⟩,
            ⟨(.some 5), .mv, [(.t 24)], none, 0, 0⟩])
          .skip))))
      (.ops [5, 6, 14, 15, 16] [
        ⟨(.some 25), (.arith .add), [(.t 16), (.c (.int .i64 1))], none, 0, 0⟩,
        ⟨(.some 16), .mv, [(.t 25)], none, 0, 0⟩])))))))
  (.seq
  (.ops [4] [
    ⟨(.some 26), .mv, [(.t 5)], none, 0, 0⟩,
    ⟨(.some 4), .mv, [(.t 26)], none, 0, 0⟩])
  .ret)))))
def r9 : List ARes := [(.tmp 4)]
theorem ok9 : FnOk Try.prog 9 c9 r9 :=
  ⟨Try.f9, _, Try.func9, by kernel_rfl, rfl, by kernel_rfl, by kernel_rfl⟩
/-- rill/rilllaw16.does -/
def c10 : ACode :=
  (.seq
  (.ops [0, 3] [
    ⟨(.some 3), .box, [(.t 1)], none, 0, 0⟩,
    ⟨(.some 4), .mv, [(.c (.int .i64 0))], none, 0, 0⟩])
  (.seq
  (.seq
  (.ops [0, 3, 8] [
    ⟨(.some 7), (.fieldAddr 0), [(.t 3)], none, 0, 0⟩,
    ⟨(.some 8), (.load false 1), [(.t 7)], none, 0, 0⟩])
  (.block 0
    (.seq
    (.ops [0, 3, 8, 9] [
      ⟨(.some 10), (.eq false .int), [(.t 8), (.c (.int .i64 0))], none, 0, 0⟩,
      ⟨(.some 9), .mv, [(.t 10)], none, 0, 0⟩])
    (.cond (.t 9)
      (.seq
      (.ops [4] [
        ⟨(.some 11), .mv, [(.t 0)], none, 0, 0⟩,
        ⟨(.some 12), (.fieldAddr 1), [(.t 3)], none, 0, 0⟩,
        ⟨(.some 13), (.load false 1), [(.t 12)], none, 0, 0⟩,
        ⟨(.some 14), (.fieldAddr 4), [(.t 3)], none, 0, 0⟩,
        ⟨(.some 15), (.load true 3), [(.t 14)], none, 0, 0⟩,
        ⟨(.some 16), (.call 21), [(.t 11), (.t 13), (.t 15)], none, 0, 0⟩,
        ⟨(.some 4), .mv, [(.t 16)], none, 0, 0⟩])
      .ret)
      (.seq
      (.ops [0, 3, 8, 17] [
        ⟨(.some 18), (.eq false .int), [(.t 8), (.c (.int .i64 1))], none, 0, 0⟩,
        ⟨(.some 17), .mv, [(.t 18)], none, 0, 0⟩])
      (.cond (.t 17)
        (.seq
        (.ops [6] [
          ⟨(.some 20), .mv, [(.t 0)], none, 0, 0⟩,
          ⟨(.some 21), (.fieldAddr 3), [(.t 3)], none, 0, 0⟩,
          ⟨(.some 22), (.load false 1), [(.t 21)], none, 0, 0⟩,
          ⟨(.some 23), (.call 14), [(.t 20), (.t 22)], none, 0, 0⟩,
          ⟨(.some 19), .mv, [(.t 23)], none, 0, 0⟩,
          ⟨(.some 24), (.extract 0), [(.t 19)], none, 0, 0⟩,
          ⟨(.some 25), (.extract 1), [(.t 19)], none, 0, 0⟩,
          ⟨(.some 5), .mv, [(.t 24)], none, 0, 0⟩,
          ⟨(.some 6), .mv, [(.t 25)], none, 0, 0⟩])
        (.seq
        (.ops [27] [
          ⟨(.some 26), .mv, [(.t 6)], none, 0, 0⟩,
          ⟨(.some 27), .not, [(.t 26)], none, 0, 0⟩])
        (.cond (.t 27)
          (.seq
          (.ops [4] [
            ⟨(.some 4), .mv, [(.c (.int .i64 9))], none, 0, 0⟩])
          .ret)
          .skip)))
        (.seq
        (.ops [0, 3, 8, 28] [
          ⟨(.some 29), (.eq false .int), [(.t 8), (.c (.int .i64 2))], none, 0, 0⟩,
          ⟨(.some 28), .mv, [(.t 29)], none, 0, 0⟩])
        (.cond (.t 28)
          (.seq
          (.ops [4] [
            ⟨(.some 30), .mv, [(.t 0)], none, 0, 0⟩,
            ⟨(.some 31), (.fieldAddr 1), [(.t 3)], none, 0, 0⟩,
            ⟨(.some 32), (.load false 1), [(.t 31)], none, 0, 0⟩,
            ⟨(.some 33), (.fieldAddr 2), [(.t 3)], none, 0, 0⟩,
            ⟨(.some 34), (.load false 1), [(.t 33)], none, 0, 0⟩,
            ⟨(.some 35), (.fieldAddr 3), [(.t 3)], none, 0, 0⟩,
            ⟨(.some 36), (.load false 1), [(.t 35)], none, 0, 0⟩,
            ⟨(.some 37), (.call 15), [(.t 30), (.t 32), (.t 34), (.t 36)], none, 0, 0⟩,
            ⟨(.some 4), .mv, [(.t 37)], none, 0, 0⟩])
          .ret)
          (.seq
          (.ops [0, 3, 8, 38] [
            ⟨(.some 39), (.eq false .int), [(.t 8), (.c (.int .i64 3))], none, 0, 0⟩,
            ⟨(.some 38), .mv, [(.t 39)], none, 0, 0⟩])
          (.cond (.t 38)
            (.seq
            (.ops [4] [
              ⟨(.some 40), .mv, [(.t 0)], none, 0, 0⟩,
              ⟨(.some 41), (.fieldAddr 1), [(.t 3)], none, 0, 0⟩,
              ⟨(.some 42), (.load false 1), [(.t 41)], none, 0, 0⟩,
              ⟨(.some 43), (.call 16), [(.t 40), (.t 42)], none, 0, 0⟩,
              ⟨(.some 4), .mv, [(.t 43)], none, 0, 0⟩])
            .ret)
            (.seq
            (.ops [0, 44] [
              ⟨(.some 45), (.eq false .int), [(.t 8), (.c (.int .i64 4))], none, 0, 0⟩,
              ⟨(.some 44), .mv, [(.t 45)], none, 0, 0⟩])
            (.cond (.t 44)
              (.ops [] [
                ⟨(.some 46), .mv, [(.t 0)], none, 0, 0⟩,
                ⟨(.some 47), (.call 17), [(.t 46)], none, 0, 0⟩])
              .skip))))))))))))
  (.seq
  (.ops [4] [
    ⟨(.some 4), .mv, [(.c (.int .i64 0))], none, 0, 0⟩])
  .ret)))
def r10 : List ARes := [(.tmp 4)]
theorem ok10 : FnOk Try.prog 10 c10 r10 :=
  ⟨Try.f10, _, Try.func10, by kernel_rfl, rfl, by kernel_rfl, by kernel_rfl⟩
/-- rill/rillkit.SameSegs -/
def c11 : ACode :=
  (.seq
  (.ops [0, 1] [
    ⟨(.some 4), .mv, [(.c (.bool false))], none, 0, 0⟩])
  (.seq
  (.seq
  (.ops [0, 1, 10] [
    ⟨(.some 6), .mv, [(.t 0)], none, 0, 0⟩,
    ⟨(.some 7), .len, [(.t 6)], none, 0, 0⟩,
    ⟨(.some 8), .mv, [(.t 1)], none, 0, 0⟩,
    ⟨(.some 9), .len, [(.t 8)], none, 0, 0⟩,
    ⟨(.some 10), (.eq true .int), [(.t 7), (.t 9)], none, 0, 0⟩])
  (.cond (.t 10)
    (.seq
    (.ops [4] [
      ⟨(.some 4), .mv, [(.c (.bool false))], none, 0, 0⟩])
    .ret)
    .skip))
  (.seq
  (.seq
  (.ops [0, 1, 5] [
    ⟨(.some 5), .mv, [(.c (.int .i64 0))], none, 0, 0⟩])
  (.block 0
    (.loop [0, 1, 5]
      (.seq
      (.seq
      (.ops [0, 1, 5, 14] [
        ⟨(.some 11), .mv, [(.t 5)], none, 0, 0⟩,
        ⟨(.some 12), .mv, [(.t 0)], none, 0, 0⟩,
        ⟨(.some 13), .len, [(.t 12)], none, 0, 0⟩,
        ⟨(.some 14), (.cmp .lss), [(.t 11), (.t 13)], none, 0, 0⟩])
      (.cond (.t 14)
        .skip
        (.exit 0)))
      (.seq
      (.block 1
        (.seq
        (.drawn [0, 1, 5, 25] [
          ⟨(.some 17), .mv, [(.t 0)], none, 0, 0⟩,
          ⟨(.some 18), .mv, [(.t 5)], none, 0, 0⟩,
          ⟨(.some 19), (.idxAddr 3), [(.t 17), (.t 18)], none, 0, 0⟩,
          ⟨(.some 20), (.load true 3), [(.t 19)], none, 0, 0⟩,
          ⟨(.some 21), .mv, [(.t 1)], none, 0, 0⟩,
          ⟨(.some 22), .mv, [(.t 5)], none, 0, 0⟩,
          ⟨(.some 23), (.idxAddr 3), [(.t 21), (.t 22)], none, 0, 0⟩,
          ⟨(.some 24), (.load true 3), [(.t 23)], none, 0, 0⟩,
          ⟨(.some 25), (.eqAgg true [.i, .i, .i]), [(.t 20), (.t 24)], none, 0, 0⟩])
        (.cond (.t 25)
          (.seq
          (.ops [4] [
            ⟨(.some 4), .mv, [(.c (.bool false))], none, 0, 0⟩])
          .ret)
          .skip)))
      (.ops [0, 1, 5] [
        ⟨(.some 15), .mv, [(.t 5)], none, 0, 0⟩,
        ⟨(.some 16), (.arith .add), [(.t 15), (.c (.int .i64 1))], none, 0, 0⟩,
        ⟨(.some 5), .mv, [(.t 16)], none, 0, 0⟩]))))))
  (.seq
  (.ops [4] [
    ⟨(.some 4), .mv, [(.c (.bool true))], none, 0, 0⟩])
  .ret))))
def r11 : List ARes := [(.tmp 4)]
theorem ok11 : FnOk Try.prog 11 c11 r11 :=
  ⟨Try.f11, _, Try.func11, by kernel_rfl, rfl, by kernel_rfl, by kernel_rfl⟩
/-- (*rill/usage.Table).Open -/
def c12 : ACode :=
  (.seq
  (.ops [0] [
    ⟨(.some 2), .mv, [(.c (.int .i64 0))], none, 0, 0⟩])
  (.seq
  (.ops [2] [
    ⟨(.some 3), .mv, [(.t 0)], none, 0, 0⟩,
    ⟨(.some 4), (.call 22), [(.t 3), (.c (.int .i64 1))], none, 0, 0⟩,
    ⟨(.some 2), .mv, [(.t 4)], none, 0, 0⟩])
  .ret))
def r12 : List ARes := [(.tmp 2)]
theorem ok12 : FnOk Try.prog 12 c12 r12 :=
  ⟨Try.f12, _, Try.func12, by kernel_rfl, rfl, by kernel_rfl, by kernel_rfl⟩
/-- rill/rilllaw16.UsageRuns -/
def c13 : ACode :=
  (.seq
  (.ops [0, 1] [
    ⟨(.some 4), .mv, [(.c (.bool false))], none, 0, 0⟩])
  (.seq
  (.seq
  (.ops [0, 1, 12] [
    ⟨(.some 10), .mv, [(.t 1)], none, 0, 0⟩,
    ⟨(.some 11), .len, [(.t 10)], none, 0, 0⟩,
    ⟨(.some 12), (.cmp .gtr), [(.t 11), (.c (.int .i64 300))], none, 0, 0⟩])
  (.cond (.t 12)
    (.seq
    (.ops [4] [
      ⟨(.some 13), (.call 6), [], none, 0, 0⟩,
      ⟨(.some 4), .mv, [(.t 13)], none, 0, 0⟩])
    .ret)
    .skip))
  (.seq
  (.ops [0, 1, 5] [
    ⟨(.some 14), .mv, [(.t 0)], none, 0, 0⟩,
    ⟨(.some 15), (.call 7), [(.t 14)], none, 0, 0⟩,
    ⟨(.some 5), .mv, [(.t 15)], none, 0, 0⟩])
  (.seq
  (.ops [1, 5, 6] [
    ⟨(.some 16), .mv, [(.t 0)], none, 0, 0⟩,
    ⟨(.some 17), (.call 23), [(.t 16)], none, 0, 0⟩,
    ⟨(.some 6), .mv, [(.t 17)], none, 0, 0⟩])
  (.seq
  (.seq
  (.ops [1, 5, 6, 19] [
    ⟨(.some 18), .mv, [(.t 5)], none, 0, 0⟩,
    ⟨(.some 19), (.eq false .ptr), [(.t 18), (.c .nilp)], none, 0, 0⟩])
  (.cond (.t 19)
    (.seq
    (.ops [4] [
      ⟨(.some 4), .mv, [(.c (.bool false))], none, 0, 0⟩])
    .ret)
    .skip))
  (.seq
  (.seq
  (.ops [1, 5, 6, 7] [
    ⟨(.some 7), .mv, [(.c (.int .i64 0))], none, 0, 0⟩])
  (.block 0
    (.loop [1, 5, 6, 7]
      (.seq
      (.seq
      (.ops [1, 5, 6, 7, 23] [
        ⟨(.some 20), .mv, [(.t 7)], none, 0, 0⟩,
        ⟨(.some 21), .mv, [(.t 1)], none, 0, 0⟩,
        ⟨(.some 22), .len, [(.t 21)], none, 0, 0⟩,
        ⟨(.some 23), (.cmp .lss), [(.t 20), (.t 22)], none, 0, 0⟩])
      (.cond (.t 23)
        .skip
        (.exit 0)))
      (.seq
      (.block 1
        (.seq
        (.seq
        (.ops [1, 5, 6, 7, 40] [
          ⟨(.some 26), .mv, [(.t 5)], none, 0, 0⟩,
          ⟨(.some 27), .mv, [(.t 6)], none, 0, 0⟩,
          ⟨(.some 28), .mv, [(.t 1)], none, 0, 0⟩,
          ⟨(.some 29), .mv, [(.t 7)], none, 0, 0⟩,
          ⟨(.some 30), (.idxAddr 7), [(.t 28), (.t 29)], none, 0, 0⟩,
          ⟨(.some 31), (.load true 7), [(.t 30)], none, 0, 0⟩,
          ⟨(.some 32), (.call 24), [(.t 26), (.t 27), (.t 31)], none, 0, 0⟩,
          ⟨(.some 33), .not, [(.t 32)], none, 0, 0⟩,
          ⟨(.some 34), .mv, [(.t 33)], none, 0, 0⟩,
          ⟨(.some 35), .mv, [(.t 5)], (.some (34, false)), 0, 0⟩,
          ⟨(.some 36), (.call 12), [(.t 35)], (.some (34, false)), 0, 0⟩,
          ⟨(.some 37), .mv, [(.t 6)], (.some (34, false)), 0, 0⟩,
          ⟨(.some 38), (.call 25), [(.t 37)], (.some (34, false)), 0, 0⟩,
          ⟨(.some 39), (.eq true .int), [(.t 36), (.t 38)], (.some (34, false)), 0, 0⟩,
          ⟨(.some 40), .pick, [(.t 34), (.c (.bool true)), (.t 39)], none, 0, 0⟩])
        (.cond (.t 40)
          (.seq
          (.ops [4] [
            ⟨(.some 4), .mv, [(.c (.bool false))], none, 0, 0⟩])
          .ret)
          .skip))
        (.seq
        (.ops [1, 5, 6, 7, 8] [
          ⟨(.some 41), .mv, [(.t 5)], none, 0, 0⟩,
          ⟨(.some 42), (.call 8), [(.t 41)], none, 0, 0⟩,
          ⟨(.some 8), .mv, [(.t 42)], none, 0, 0⟩])
        (.seq
        (.seq
        (.ops [1, 5, 6, 7, 8, 47] [
          ⟨(.some 43), .mv, [(.t 8)], none, 0, 0⟩,
          ⟨(.some 44), .mv, [(.t 6)], none, 0, 0⟩,
          ⟨(.some 45), (.call 26), [(.t 44)], none, 0, 0⟩,
          ⟨(.some 46), (.call 11), [(.t 43), (.t 45)], none, 0, 0⟩,
          ⟨(.some 47), .not, [(.t 46)], none, 0, 0⟩])
        (.cond (.t 47)
          (.seq
          (.ops [4] [
            ⟨(.some 4), .mv, [(.c (.bool false))], none, 0, 0⟩])
          .ret)
          .skip))
        (.seq
        (.ops [1, 5, 6, 7] [
          ⟨(.some 48), .mv, [(.t 8)], none, 0, 0⟩,
          ⟨(.some 49), (.call 27), [(.t 48)], none, 0, 0⟩])
        (.seq
        (.ops [1, 5, 6, 7, 9] [
          ⟨(.some 9), .mv, [(.c (.int .i64 (-1)))], none, 0, 0⟩])
        (.block 2
          (.loop [1, 5, 6, 7, 9]
            (.seq
            (.seq
            (.ops [1, 5, 6, 7, 9, 51] [
              ⟨(.some 50), .mv, [(.t 9)], none, 0, 0⟩,
              ⟨(.some 51), (.cmp .leq), [(.t 50), (.c (.int .i64 4))], none, 0, 0⟩])
            (.cond (.t 51)
              .skip
              (.exit 2)))
            (.seq
            (.block 3
              (.seq
              (.ops [1, 5, 6, 7, 9, 60] [
                ⟨(.some 54), .mv, [(.t 5)], none, 0, 0⟩,
                ⟨(.some 55), .mv, [(.t 9)], none, 0, 0⟩,
                ⟨(.some 56), (.call 9), [(.t 54), (.t 55)], none, 0, 0⟩,
                ⟨(.some 57), .mv, [(.t 6)], none, 0, 0⟩,
                ⟨(.some 58), .mv, [(.t 9)], none, 0, 0⟩,
                ⟨(.some 59), (.call 28), [(.t 57), (.t 58)], none, 0, 0⟩,
                ⟨(.some 60), (.eq true .int), [(.t 56), (.t 59)], none, 0, 0⟩])
              (.cond (.t 60)
                (.seq
                (.ops [4] [
                  ⟨(.some 4), .mv, [(.c (.bool false))], none, 0, 0⟩])
                .ret)
                .skip)))
            (.ops [1, 5, 6, 7, 9] [
              ⟨(.some 52), .mv, [(.t 9)], none, 0, 0⟩,
              ⟨(.some 53), (.arith .add), [(.t 52), (.c (.int .i64 1))], none, 0, 0⟩,
              ⟨(.some 9), .mv, [(.t 53)], none, 0, 0⟩])))))))))))
      (.ops [1, 5, 6, 7] [
        ⟨(.some 24), .mv, [(.t 7)], none, 0, 0⟩,
        ⟨(.some 25), (.arith .add), [(.t 24), (.c (.int .i64 1))], none, 0, 0⟩,
        ⟨(.some 7), .mv, [(.t 25)], none, 0, 0⟩]))))))
  (.seq
  (.ops [4] [
    ⟨(.some 61), .mv, [(.t 5)], none, 0, 0⟩,
    ⟨(.some 62), (.call 8), [(.t 61)], none, 0, 0⟩,
    ⟨(.some 63), .mv, [(.t 6)], none, 0, 0⟩,
    ⟨(.some 64), (.call 26), [(.t 63)], none, 0, 0⟩,
    ⟨(.some 65), (.call 11), [(.t 62), (.t 64)], none, 0, 0⟩,
    ⟨(.some 66), .mv, [(.t 65)], none, 0, 0⟩,
    ⟨(.some 67), (.call 6), [], (.some (66, true)), 0, 0⟩,
    ⟨(.some 68), .pick, [(.t 66), (.t 67), (.c (.bool false))], none, 0, 0⟩,
    ⟨(.some 4), .mv, [(.t 68)], none, 0, 0⟩])
  .ret)))))))
def r13 : List ARes := [(.tmp 4)]
theorem ok13 : FnOk Try.prog 13 c13 r13 :=
  ⟨Try.f13, _, Try.func13, by kernel_rfl, rfl, by kernel_rfl, by kernel_rfl⟩
/-- (*rill/usage.Table).Take -/
def c14 : ACode :=
  (.seq
  (.ops [0, 1] [
    ⟨(.some 4), .mv, [(.c (.int .i64 0))], none, 0, 0⟩,
    ⟨(.some 5), .mv, [(.c (.bool false))], none, 0, 0⟩])
  (.seq
  (.ops [0, 1, 6] [
    ⟨(.some 8), .mv, [(.t 0)], none, 0, 0⟩,
    ⟨(.some 9), (.call 22), [(.t 8), (.c (.int .i64 0))], none, 0, 0⟩,
    ⟨(.some 6), .mv, [(.t 9)], none, 0, 0⟩])
  (.seq
  (.seq
  (.ops [0, 1, 6, 11] [
    ⟨(.some 10), .mv, [(.t 6)], none, 0, 0⟩,
    ⟨(.some 11), (.cmp .lss), [(.t 10), (.c (.int .i64 0))], none, 0, 0⟩])
  (.cond (.t 11)
    (.seq
    (.ops [4, 5] [
      ⟨(.some 4), .mv, [(.c (.int .i64 0))], none, 0, 0⟩,
      ⟨(.some 5), .mv, [(.c (.bool false))], none, 0, 0⟩])
    .ret)
    .skip))
  (.seq
  (.seq
  (.ops [0, 1, 6, 7] [
    ⟨(.some 12), .mv, [(.t 0)], none, 0, 0⟩,
    ⟨(.some 13), (.call 12), [(.t 12)], none, 0, 0⟩,
    ⟨(.some 7), .mv, [(.t 13)], none, 0, 0⟩])
  (.seq
  (.ops [0, 1, 6, 7, 15] [
    ⟨(.some 14), .mv, [(.t 7)], none, 0, 0⟩,
    ⟨(.some 15), (.cmp .geq), [(.t 14), (.c (.int .i64 0))], none, 0, 0⟩])
  (.cond (.t 15)
    (.ops [0, 1, 6] [
      ⟨(.some 16), .mv, [(.t 0)], none, 0, 0⟩,
      ⟨(.some 17), .nilCheck, [(.t 16)], none, 0, 0⟩,
      ⟨(.some 18), (.fieldAddr 0), [(.t 17)], none, 0, 0⟩,
      ⟨(.some 19), (.load false 1), [(.t 18)], none, 0, 0⟩,
      ⟨(.some 20), .mv, [(.t 7)], none, 0, 0⟩,
      ⟨(.some 21), (.idxAddr 3), [(.t 19), (.t 20)], none, 0, 0⟩,
      ⟨(.some 22), (.fieldAddr 0), [(.t 21)], none, 0, 0⟩,
      ⟨none, (.store 1), [(.t 22), (.c (.int .i64 2))], none, 0, 0⟩])
    .skip)))
  (.seq
  (.drawn [6] [
    ⟨(.some 23), .mv, [(.t 0)], none, 0, 1⟩,
    ⟨(.some 24), .nilCheck, [(.t 23)], none, 0, 1⟩,
    ⟨(.some 25), (.fieldAddr 0), [(.t 24)], none, 0, 1⟩,
    ⟨(.some 26), (.load false 1), [(.t 25)], none, 0, 1⟩,
    ⟨(.some 27), .mv, [(.t 6)], none, 0, 1⟩,
    ⟨(.some 28), .mv, [(.t 1)], none, 0, 0⟩,
    ⟨(.some 29), (.call 18), [(.t 28), (.c (.int .i64 1099511627776))], none, 0, 1⟩,
    ⟨(.some 30), (.build [(.int .i64 0), (.int .i64 0), (.int .i64 0)] [(0, 1), (2, 1)]), [(.c (.int .i64 1)), (.t 29)], none, 1, 1⟩,
    ⟨(.some 31), (.idxAddr 3), [(.t 26), (.t 27)], none, 1, 1⟩,
    ⟨none, (.store 3), [(.t 31), (.t 30)], none, 1, 2⟩])
  (.seq
  (.ops [4, 5] [
    ⟨(.some 32), .mv, [(.t 6)], none, 0, 0⟩,
    ⟨(.some 4), .mv, [(.t 32)], none, 0, 0⟩,
    ⟨(.some 5), .mv, [(.c (.bool true))], none, 0, 0⟩])
  .ret))))))
def r14 : List ARes := [(.tmp 4), (.tmp 5)]
theorem ok14 : FnOk Try.prog 14 c14 r14 :=
  ⟨Try.f14, _, Try.func14, by kernel_rfl, rfl, by kernel_rfl, by kernel_rfl⟩
/-- (*rill/usage.Table).Add -/
def c15 : ACode :=
  (.seq
  (.ops [0, 1, 2, 3] [
    ⟨(.some 8), .mv, [(.c (.int .i64 0))], none, 0, 0⟩])
  (.seq
  (.seq
  (.ops [0, 1, 2, 3, 38] [
    ⟨(.some 9), .mv, [(.t 0)], none, 0, 0⟩,
    ⟨(.some 10), .mv, [(.t 1)], none, 0, 0⟩,
    ⟨(.some 11), (.call 29), [(.t 9), (.t 10)], none, 0, 0⟩,
    ⟨(.some 12), .not, [(.t 11)], none, 0, 0⟩,
    ⟨(.some 13), .mv, [(.t 12)], none, 0, 0⟩,
    ⟨(.some 14), .mv, [(.t 2)], (.some (13, false)), 0, 0⟩,
    ⟨(.some 15), .mv, [(.t 0)], (.some (13, false)), 0, 0⟩,
    ⟨(.some 16), .nilCheck, [(.t 15)], (.some (13, false)), 0, 0⟩,
    ⟨(.some 17), (.fieldAddr 0), [(.t 16)], (.some (13, false)), 0, 0⟩,
    ⟨(.some 18), (.load false 1), [(.t 17)], (.some (13, false)), 0, 0⟩,
    ⟨(.some 19), .mv, [(.t 1)], (.some (13, false)), 0, 0⟩,
    ⟨(.some 20), (.idxAddr 3), [(.t 18), (.t 19)], (.some (13, false)), 0, 0⟩,
    ⟨(.some 21), (.fieldAddr 1), [(.t 20)], (.some (13, false)), 0, 0⟩,
    ⟨(.some 22), (.load false 1), [(.t 21)], (.some (13, false)), 0, 0⟩,
    ⟨(.some 23), .neg, [(.t 22)], (.some (13, false)), 0, 0⟩,
    ⟨(.some 24), (.cmp .lss), [(.t 14), (.t 23)], (.some (13, false)), 0, 0⟩,
    ⟨(.some 25), .pick, [(.t 13), (.c (.bool true)), (.t 24)], none, 0, 0⟩,
    ⟨(.some 26), .mv, [(.t 25)], none, 0, 0⟩,
    ⟨(.some 27), .mv, [(.t 2)], (.some (26, false)), 0, 0⟩,
    ⟨(.some 28), .mv, [(.t 0)], (.some (26, false)), 0, 0⟩,
    ⟨(.some 29), .nilCheck, [(.t 28)], (.some (26, false)), 0, 0⟩,
    ⟨(.some 30), (.fieldAddr 0), [(.t 29)], (.some (26, false)), 0, 0⟩,
    ⟨(.some 31), (.load false 1), [(.t 30)], (.some (26, false)), 0, 0⟩,
    ⟨(.some 32), .mv, [(.t 1)], (.some (26, false)), 0, 0⟩,
    ⟨(.some 33), (.idxAddr 3), [(.t 31), (.t 32)], (.some (26, false)), 0, 0⟩,
    ⟨(.some 34), (.fieldAddr 1), [(.t 33)], (.some (26, false)), 0, 0⟩,
    ⟨(.some 35), (.load false 1), [(.t 34)], (.some (26, false)), 0, 0⟩,
    ⟨(.some 36), (.arith .sub), [(.c (.int .i64 64)), (.t 35)], (.some (26, false)), 0, 0⟩,
    ⟨(.some 37), (.cmp .gtr), [(.t 27), (.t 36)], (.some (26, false)), 0, 0⟩,
    ⟨(.some 38), .pick, [(.t 26), (.c (.bool true)), (.t 37)], none, 0, 0⟩])
  (.cond (.t 38)
    (.seq
    (.ops [8] [
      ⟨(.some 8), .mv, [(.c (.int .i64 7))], none, 0, 0⟩])
    .ret)
    .skip))
  (.seq
  (.ops [0, 1, 2, 3] [
    ⟨(.some 39), .mv, [(.t 0)], none, 0, 0⟩,
    ⟨(.some 40), .nilCheck, [(.t 39)], none, 0, 0⟩,
    ⟨(.some 41), (.fieldAddr 0), [(.t 40)], none, 0, 0⟩,
    ⟨(.some 42), (.load false 1), [(.t 41)], none, 0, 0⟩,
    ⟨(.some 43), .mv, [(.t 1)], none, 0, 0⟩,
    ⟨(.some 44), (.idxAddr 3), [(.t 42), (.t 43)], none, 0, 0⟩,
    ⟨(.some 45), (.fieldAddr 1), [(.t 44)], none, 0, 0⟩,
    ⟨(.some 46), (.load false 1), [(.t 45)], none, 0, 0⟩,
    ⟨(.some 47), .mv, [(.t 2)], none, 0, 0⟩,
    ⟨(.some 48), (.arith .add), [(.t 46), (.t 47)], none, 0, 0⟩,
    ⟨(.some 49), (.idxAddr 3), [(.t 42), (.t 43)], none, 0, 0⟩,
    ⟨(.some 50), (.fieldAddr 1), [(.t 49)], none, 0, 0⟩,
    ⟨none, (.store 1), [(.t 50), (.t 48)], none, 0, 0⟩])
  (.seq
  (.seq
  (.ops [0, 1, 3, 52] [
    ⟨(.some 51), .mv, [(.t 2)], none, 0, 0⟩,
    ⟨(.some 52), (.cmp .gtr), [(.t 51), (.c (.int .i64 0))], none, 0, 0⟩])
  (.cond (.t 52)
    (.drawn [] [
      ⟨(.some 53), .mv, [(.t 0)], none, 0, 1⟩,
      ⟨(.some 54), .nilCheck, [(.t 53)], none, 0, 1⟩,
      ⟨(.some 55), (.fieldAddr 0), [(.t 54)], none, 0, 1⟩,
      ⟨(.some 56), (.load false 1), [(.t 55)], none, 0, 1⟩,
      ⟨(.some 57), .mv, [(.t 1)], none, 0, 1⟩,
      ⟨(.some 58), .mv, [(.t 3)], none, 0, 0⟩,
      ⟨(.some 59), (.call 18), [(.t 58), (.c (.int .i64 1099511627776))], none, 0, 1⟩,
      ⟨(.some 60), (.idxAddr 3), [(.t 56), (.t 57)], none, 1, 1⟩,
      ⟨(.some 61), (.fieldAddr 2), [(.t 60)], none, 1, 1⟩,
      ⟨none, (.store 1), [(.t 61), (.t 59)], none, 1, 2⟩])
    .skip))
  (.seq
  (.ops [8] [
    ⟨(.some 8), .mv, [(.c (.int .i64 0))], none, 0, 0⟩])
  .ret)))))
def r15 : List ARes := [(.tmp 8)]
theorem ok15 : FnOk Try.prog 15 c15 r15 :=
  ⟨Try.f15, _, Try.func15, by kernel_rfl, rfl, by kernel_rfl, by kernel_rfl⟩
/-- (*rill/usage.Table).Pend -/
def c16 : ACode :=
  (.seq
  (.ops [0, 1] [
    ⟨(.some 4), .mv, [(.c (.int .i64 0))], none, 0, 0⟩])
  (.seq
  (.block 0
    (.seq
    (.ops [0, 1, 5] [
      ⟨(.some 6), .mv, [(.t 0)], none, 0, 0⟩,
      ⟨(.some 7), .mv, [(.t 1)], none, 0, 0⟩,
      ⟨(.some 8), (.call 29), [(.t 6), (.t 7)], none, 0, 0⟩,
      ⟨(.some 9), .not, [(.t 8)], none, 0, 0⟩,
      ⟨(.some 5), .mv, [(.t 9)], none, 0, 0⟩])
    (.cond (.t 5)
      (.seq
      (.ops [4] [
        ⟨(.some 4), .mv, [(.c (.int .i64 7))], none, 0, 0⟩])
      .ret)
      (.seq
      (.ops [0, 1, 10] [
        ⟨(.some 11), .mv, [(.t 0)], none, 0, 0⟩,
        ⟨(.some 12), .nilCheck, [(.t 11)], none, 0, 0⟩,
        ⟨(.some 13), (.fieldAddr 0), [(.t 12)], none, 0, 0⟩,
        ⟨(.some 14), (.load false 1), [(.t 13)], none, 0, 0⟩,
        ⟨(.some 15), .mv, [(.t 1)], none, 0, 0⟩,
        ⟨(.some 16), (.idxAddr 3), [(.t 14), (.t 15)], none, 0, 0⟩,
        ⟨(.some 17), (.fieldAddr 0), [(.t 16)], none, 0, 0⟩,
        ⟨(.some 18), (.load false 1), [(.t 17)], none, 0, 0⟩,
        ⟨(.some 19), (.eq true .int), [(.t 18), (.c (.int .i64 2))], none, 0, 0⟩,
        ⟨(.some 20), .mv, [(.t 19)], none, 0, 0⟩,
        ⟨(.some 21), .mv, [(.t 0)], (.some (20, false)), 0, 0⟩,
        ⟨(.some 22), .nilCheck, [(.t 21)], (.some (20, false)), 0, 0⟩,
        ⟨(.some 23), (.fieldAddr 0), [(.t 22)], (.some (20, false)), 0, 0⟩,
        ⟨(.some 24), (.load false 1), [(.t 23)], (.some (20, false)), 0, 0⟩,
        ⟨(.some 25), .mv, [(.t 1)], (.some (20, false)), 0, 0⟩,
        ⟨(.some 26), (.idxAddr 3), [(.t 24), (.t 25)], (.some (20, false)), 0, 0⟩,
        ⟨(.some 27), (.fieldAddr 1), [(.t 26)], (.some (20, false)), 0, 0⟩,
        ⟨(.some 28), (.load false 1), [(.t 27)], (.some (20, false)), 0, 0⟩,
        ⟨(.some 29), (.eq true .int), [(.t 28), (.c (.int .i64 0))], (.some (20, false)), 0, 0⟩,
        ⟨(.some 30), .pick, [(.t 20), (.c (.bool true)), (.t 29)], none, 0, 0⟩,
        ⟨(.some 10), .mv, [(.t 30)], none, 0, 0⟩])
      (.cond (.t 10)
        (.seq
        (.ops [4] [
          ⟨(.some 4), .mv, [(.c (.int .i64 16))], none, 0, 0⟩])
        .ret)
        .skip)))))
  (.seq
  (.ops [] [
    ⟨(.some 31), .mv, [(.t 0)], none, 0, 0⟩,
    ⟨(.some 32), .nilCheck, [(.t 31)], none, 0, 0⟩,
    ⟨(.some 33), (.fieldAddr 0), [(.t 32)], none, 0, 0⟩,
    ⟨(.some 34), (.load false 1), [(.t 33)], none, 0, 0⟩,
    ⟨(.some 35), .mv, [(.t 1)], none, 0, 0⟩,
    ⟨(.some 36), (.idxAddr 3), [(.t 34), (.t 35)], none, 0, 0⟩,
    ⟨(.some 37), (.fieldAddr 0), [(.t 36)], none, 0, 0⟩,
    ⟨none, (.store 1), [(.t 37), (.c (.int .i64 3))], none, 0, 0⟩])
  (.seq
  (.ops [4] [
    ⟨(.some 4), .mv, [(.c (.int .i64 0))], none, 0, 0⟩])
  .ret))))
def r16 : List ARes := [(.tmp 4)]
theorem ok16 : FnOk Try.prog 16 c16 r16 :=
  ⟨Try.f16, _, Try.func16, by kernel_rfl, rfl, by kernel_rfl, by kernel_rfl⟩
/-- (*rill/usage.Table).Release -/
def c17 : ACode :=
  (.seq
  (.ops [0] [
    ⟨(.some 2), .mv, [(.c (.int .i64 0))], none, 0, 0⟩])
  (.seq
  (.ops [0, 3] [
    ⟨(.some 3), .mv, [(.c (.int .i64 0))], none, 0, 0⟩])
  (.seq
  (.seq
  (.ops [0, 3, 4] [
    ⟨(.some 5), .mv, [(.t 0)], none, 0, 0⟩,
    ⟨(.some 6), (.call 22), [(.t 5), (.c (.int .i64 3))], none, 0, 0⟩,
    ⟨(.some 4), .mv, [(.t 6)], none, 0, 0⟩])
  (.block 0
    (.loop [0, 3, 4]
      (.seq
      (.seq
      (.ops [0, 3, 4, 8] [
        ⟨(.some 7), .mv, [(.t 4)], none, 0, 0⟩,
        ⟨(.some 8), (.cmp .geq), [(.t 7), (.c (.int .i64 0))], none, 0, 0⟩])
      (.cond (.t 8)
        .skip
        (.exit 0)))
      (.seq
      (.block 1
        (.seq
        (.ops [0, 3] [
          ⟨(.some 11), .mv, [(.t 0)], none, 0, 0⟩,
          ⟨(.some 12), .nilCheck, [(.t 11)], none, 0, 0⟩,
          ⟨(.some 13), (.fieldAddr 0), [(.t 12)], none, 0, 0⟩,
          ⟨(.some 14), (.load false 1), [(.t 13)], none, 0, 0⟩,
          ⟨(.some 15), .mv, [(.t 4)], none, 0, 0⟩,
          ⟨(.some 16), (.build [(.int .i64 0), (.int .i64 0), (.int .i64 0)] []), [], none, 0, 0⟩,
          ⟨(.some 17), (.idxAddr 3), [(.t 14), (.t 15)], none, 0, 0⟩,
          ⟨none, (.store 3), [(.t 17), (.t 16)], none, 0, 0⟩])
        (.ops [0, 3] [
          ⟨(.some 18), .mv, [(.t 3)], none, 0, 0⟩,
          ⟨(.some 19), (.arith .add), [(.t 18), (.c (.int .i64 1))], none, 0, 0⟩,
          ⟨(.some 3), .mv, [(.t 19)], none, 0, 0⟩])))
      (.ops [0, 3, 4] [
        ⟨(.some 9), .mv, [(.t 0)], none, 0, 0⟩,
        ⟨(.some 10), (.call 22), [(.t 9), (.c (.int .i64 3))], none, 0, 0⟩,
        ⟨(.some 4), .mv, [(.t 10)], none, 0, 0⟩]))))))
  (.seq
  (.ops [2] [
    ⟨(.some 20), .mv, [(.t 3)], none, 0, 0⟩,
    ⟨(.some 2), .mv, [(.t 20)], none, 0, 0⟩])
  .ret))))
def r17 : List ARes := [(.tmp 2)]
theorem ok17 : FnOk Try.prog 17 c17 r17 :=
  ⟨Try.f17, _, Try.func17, by kernel_rfl, rfl, by kernel_rfl, by kernel_rfl⟩
/-- rill/usage.cut -/
def c18 : ACode :=
  (.seq
  (.ops [0, 1] [
    ⟨(.some 4), .mv, [(.c (.int .i64 0))], none, 0, 0⟩])
  (.seq
  (.ops [4] [
    ⟨(.some 5), .mv, [(.t 0)], none, 0, 0⟩,
    ⟨(.some 6), .max, [(.t 5), (.c (.int .i64 0))], none, 0, 0⟩,
    ⟨(.some 7), .mv, [(.t 1)], none, 0, 0⟩,
    ⟨(.some 8), .min, [(.t 6), (.t 7)], none, 0, 0⟩,
    ⟨(.some 4), .mv, [(.t 8)], none, 0, 0⟩])
  .ret))
def r18 : List ARes := [(.tmp 4)]
theorem ok18 : FnOk Try.prog 18 c18 r18 :=
  ⟨Try.f18, _, Try.func18, by kernel_rfl, rfl, by kernel_rfl, by kernel_rfl⟩
/-- slices.Clone[[]rill/api.Seg,rill/api.Seg] -/
def c19 : ACode :=
  (.seq
  (.ops [0] [
    ⟨(.some 2), .mv, [(.c .nils)], none, 0, 0⟩])
  (.seq
  (.seq
  (.ops [0, 4] [
    ⟨(.some 3), .mv, [(.t 0)], none, 0, 0⟩,
    ⟨(.some 4), (.eq false .slice), [(.t 3), (.c .nils)], none, 0, 0⟩])
  (.cond (.t 4)
    (.seq
    (.ops [2] [
      ⟨(.some 2), .mv, [(.c .nils)], none, 0, 0⟩])
    .ret)
    .skip))
  (.seq
  (.ops [2] [
    ⟨(.some 5), (.mkSl 0 [] []), [], none, 0, 0⟩,
    ⟨(.some 6), .mv, [(.t 0)], none, 0, 0⟩,
    ⟨(.some 7), (.append 3 24), [(.t 5), (.t 6)], none, 0, 0⟩,
    ⟨(.some 2), .mv, [(.t 7)], none, 0, 0⟩])
  .ret)))
def r19 : List ARes := [(.tmp 2)]
theorem ok19 : FnOk Try.prog 19 c19 r19 :=
  ⟨Try.f19, _, Try.func19, by kernel_rfl, rfl, by kernel_rfl, by kernel_rfl⟩
/-- (rill/usage.state).of -/
def c20 : ACode :=
  (.seq
  (.ops [0, 3] [
    ⟨(.some 3), .box, [(.t 1)], none, 0, 0⟩,
    ⟨(.some 4), .mv, [(.c (.bool false))], none, 0, 0⟩])
  (.seq
  (.ops [4] [
    ⟨(.some 5), (.fieldAddr 0), [(.t 3)], none, 0, 0⟩,
    ⟨(.some 6), (.load false 1), [(.t 5)], none, 0, 0⟩,
    ⟨(.some 7), .mv, [(.t 0)], none, 0, 0⟩,
    ⟨(.some 8), (.eq false .int), [(.t 6), (.t 7)], none, 0, 0⟩,
    ⟨(.some 4), .mv, [(.t 8)], none, 0, 0⟩])
  .ret))
def r20 : List ARes := [(.tmp 4)]
theorem ok20 : FnOk Try.prog 20 c20 r20 :=
  ⟨Try.f20, _, Try.func20, by kernel_rfl, rfl, by kernel_rfl, by kernel_rfl⟩
/-- (*rill/usage.Table).Set -/
def c21 : ACode :=
  (.seq
  (.ops [0, 1, 5] [
    ⟨(.some 5), .box, [(.t 2)], none, 0, 0⟩,
    ⟨(.some 6), .mv, [(.c (.int .i64 0))], none, 0, 0⟩])
  (.seq
  (.seq
  (.ops [0, 1, 5, 29] [
    ⟨(.some 8), .mv, [(.t 0)], none, 0, 0⟩,
    ⟨(.some 9), .mv, [(.t 1)], none, 0, 0⟩,
    ⟨(.some 10), (.call 29), [(.t 8), (.t 9)], none, 0, 0⟩,
    ⟨(.some 11), .not, [(.t 10)], none, 0, 0⟩,
    ⟨(.some 12), .mv, [(.t 11)], none, 0, 0⟩,
    ⟨(.some 13), (.fieldAddr 0), [(.t 5)], (.some (12, false)), 0, 0⟩,
    ⟨(.some 14), (.load false 1), [(.t 13)], (.some (12, false)), 0, 0⟩,
    ⟨(.some 15), (.call 30), [(.t 14), (.c (.int .i64 3))], (.some (12, false)), 0, 0⟩,
    ⟨(.some 16), .not, [(.t 15)], (.some (12, false)), 0, 0⟩,
    ⟨(.some 17), .pick, [(.t 12), (.c (.bool true)), (.t 16)], none, 0, 0⟩,
    ⟨(.some 18), .mv, [(.t 17)], none, 0, 0⟩,
    ⟨(.some 19), (.fieldAddr 1), [(.t 5)], (.some (18, false)), 0, 0⟩,
    ⟨(.some 20), (.load false 1), [(.t 19)], (.some (18, false)), 0, 0⟩,
    ⟨(.some 21), (.call 30), [(.t 20), (.c (.int .i64 64))], (.some (18, false)), 0, 0⟩,
    ⟨(.some 22), .not, [(.t 21)], (.some (18, false)), 0, 0⟩,
    ⟨(.some 23), .pick, [(.t 18), (.c (.bool true)), (.t 22)], none, 0, 0⟩,
    ⟨(.some 24), .mv, [(.t 23)], none, 0, 0⟩,
    ⟨(.some 25), (.fieldAddr 2), [(.t 5)], (.some (24, false)), 0, 0⟩,
    ⟨(.some 26), (.load false 1), [(.t 25)], (.some (24, false)), 0, 0⟩,
    ⟨(.some 27), (.call 30), [(.t 26), (.c (.int .i64 1099511627776))], (.some (24, false)), 0, 0⟩,
    ⟨(.some 28), .not, [(.t 27)], (.some (24, false)), 0, 0⟩,
    ⟨(.some 29), .pick, [(.t 24), (.c (.bool true)), (.t 28)], none, 0, 0⟩])
  (.cond (.t 29)
    (.seq
    (.ops [6] [
      ⟨(.some 6), .mv, [(.c (.int .i64 7))], none, 0, 0⟩])
    .ret)
    .skip))
  (.seq
  (.seq
  (.ops [0, 1, 5, 7] [
    ⟨(.some 30), .mv, [(.t 0)], none, 0, 0⟩,
    ⟨(.some 31), (.call 12), [(.t 30)], none, 0, 0⟩,
    ⟨(.some 7), .mv, [(.t 31)], none, 0, 0⟩])
  (.seq
  (.ops [0, 1, 5, 43] [
    ⟨(.some 32), (.fieldAddr 0), [(.t 5)], none, 0, 0⟩,
    ⟨(.some 33), (.load false 1), [(.t 32)], none, 0, 0⟩,
    ⟨(.some 34), (.eq false .int), [(.t 33), (.c (.int .i64 1))], none, 0, 0⟩,
    ⟨(.some 35), .mv, [(.t 34)], none, 0, 0⟩,
    ⟨(.some 36), .mv, [(.t 7)], (.some (35, true)), 0, 0⟩,
    ⟨(.some 37), (.cmp .geq), [(.t 36), (.c (.int .i64 0))], (.some (35, true)), 0, 0⟩,
    ⟨(.some 38), .pick, [(.t 35), (.t 37), (.c (.bool false))], none, 0, 0⟩,
    ⟨(.some 39), .mv, [(.t 38)], none, 0, 0⟩,
    ⟨(.some 40), .mv, [(.t 7)], (.some (39, true)), 0, 0⟩,
    ⟨(.some 41), .mv, [(.t 1)], (.some (39, true)), 0, 0⟩,
    ⟨(.some 42), (.eq true .int), [(.t 40), (.t 41)], (.some (39, true)), 0, 0⟩,
    ⟨(.some 43), .pick, [(.t 39), (.t 42), (.c (.bool false))], none, 0, 0⟩])
  (.cond (.t 43)
    (.seq
    (.ops [6] [
      ⟨(.some 6), .mv, [(.c (.int .i64 10))], none, 0, 0⟩])
    .ret)
    .skip)))
  (.seq
  (.drawn [] [
    ⟨(.some 44), .mv, [(.t 0)], none, 0, 0⟩,
    ⟨(.some 45), .nilCheck, [(.t 44)], none, 0, 0⟩,
    ⟨(.some 46), (.fieldAddr 0), [(.t 45)], none, 0, 0⟩,
    ⟨(.some 47), (.load false 1), [(.t 46)], none, 0, 0⟩,
    ⟨(.some 48), .mv, [(.t 1)], none, 0, 0⟩,
    ⟨(.some 49), (.load true 3), [(.t 5)], none, 0, 0⟩,
    ⟨(.some 50), (.idxAddr 3), [(.t 47), (.t 48)], none, 0, 0⟩,
    ⟨none, (.store 3), [(.t 50), (.t 49)], none, 0, 1⟩])
  (.seq
  (.ops [6] [
    ⟨(.some 6), .mv, [(.c (.int .i64 0))], none, 0, 0⟩])
  .ret)))))
def r21 : List ARes := [(.tmp 6)]
theorem ok21 : FnOk Try.prog 21 c21 r21 :=
  ⟨Try.f21, _, Try.func21, by kernel_rfl, rfl, by kernel_rfl, by kernel_rfl⟩
/-- (*rill/usage.Table).first -/
def c22 : ACode :=
  (.seq
  (.ops [0, 1] [
    ⟨(.some 4), .mv, [(.c (.int .i64 0))], none, 0, 0⟩])
  (.seq
  (.ops [4] [
    ⟨(.some 5), .mv, [(.t 0)], none, 0, 0⟩,
    ⟨(.some 6), .nilCheck, [(.t 5)], none, 0, 0⟩,
    ⟨(.some 7), (.fieldAddr 0), [(.t 6)], none, 0, 0⟩,
    ⟨(.some 8), (.load false 1), [(.t 7)], none, 0, 0⟩,
    ⟨(.some 9), .mv, [(.t 1)], none, 0, 0⟩,
    ⟨(.some 10), (.mkFn (.func 20) 1), [(.t 9)], none, 0, 0⟩,
    ⟨(.some 11), (.call 31), [(.t 8), (.t 10)], none, 0, 0⟩,
    ⟨(.some 4), .mv, [(.t 11)], none, 0, 0⟩])
  .ret))
def r22 : List ARes := [(.tmp 4)]
theorem ok22 : FnOk Try.prog 22 c22 r22 :=
  ⟨Try.f22, _, Try.func22, by kernel_rfl, rfl, by kernel_rfl, by kernel_rfl⟩
/-- rill/rillref16.New -/
def c23 : ACode :=
  (.seq
  (.ops [0] [
    ⟨(.some 2), .mv, [(.c .nilp)], none, 0, 0⟩])
  (.seq
  (.ops [0, 3] [
    ⟨(.some 4), (.build [.nils] []), [], none, 0, 0⟩,
    ⟨(.some 5), .box, [(.t 4)], none, 0, 0⟩,
    ⟨(.some 3), .mv, [(.t 5)], none, 0, 0⟩])
  (.seq
  (.block 0
    (.loop [0, 3]
      (.seq
      (.seq
      (.ops [0, 3, 20] [
        ⟨(.some 6), .mv, [(.t 3)], none, 0, 0⟩,
        ⟨(.some 7), .nilCheck, [(.t 6)], none, 0, 0⟩,
        ⟨(.some 8), (.fieldAddr 0), [(.t 7)], none, 0, 0⟩,
        ⟨(.some 9), (.load false 1), [(.t 8)], none, 0, 0⟩,
        ⟨(.some 10), .len, [(.t 9)], none, 0, 0⟩,
        ⟨(.some 11), .mv, [(.t 0)], none, 0, 0⟩,
        ⟨(.some 12), (.cmp .lss), [(.t 10), (.t 11)], none, 0, 0⟩,
        ⟨(.some 13), .mv, [(.t 12)], none, 0, 0⟩,
        ⟨(.some 14), .mv, [(.t 3)], (.some (13, true)), 0, 0⟩,
        ⟨(.some 15), .nilCheck, [(.t 14)], (.some (13, true)), 0, 0⟩,
        ⟨(.some 16), (.fieldAddr 0), [(.t 15)], (.some (13, true)), 0, 0⟩,
        ⟨(.some 17), (.load false 1), [(.t 16)], (.some (13, true)), 0, 0⟩,
        ⟨(.some 18), .len, [(.t 17)], (.some (13, true)), 0, 0⟩,
        ⟨(.some 19), (.cmp .lss), [(.t 18), (.c (.int .i64 32))], (.some (13, true)), 0, 0⟩,
        ⟨(.some 20), .pick, [(.t 13), (.t 19), (.c (.bool false))], none, 0, 0⟩])
      (.cond (.t 20)
        .skip
        (.exit 0)))
      (.block 1
        (.ops [0, 3] [
          ⟨(.some 21), .mv, [(.t 3)], none, 0, 0⟩,
          ⟨(.some 22), .mv, [(.t 3)], none, 0, 0⟩,
          ⟨(.some 23), .nilCheck, [(.t 22)], none, 0, 0⟩,
          ⟨(.some 24), (.fieldAddr 0), [(.t 23)], none, 0, 0⟩,
          ⟨(.some 25), (.load false 1), [(.t 24)], none, 0, 0⟩,
          ⟨(.some 26), (.build [(.int .i64 0), (.int .i64 0), (.int .i64 0)] []), [], none, 0, 0⟩,
          ⟨(.some 27), (.mkSl 1 [(.int .i64 0), (.int .i64 0), (.int .i64 0)] [(0, 3)]), [(.t 26)], none, 0, 0⟩,
          ⟨(.some 28), (.append 3 24), [(.t 25), (.t 27)], none, 0, 0⟩,
          ⟨(.some 29), .nilCheck, [(.t 21)], none, 0, 0⟩,
          ⟨(.some 30), (.fieldAddr 0), [(.t 29)], none, 0, 0⟩,
          ⟨none, (.store 1), [(.t 30), (.t 28)], none, 0, 0⟩])))))
  (.seq
  (.ops [2] [
    ⟨(.some 31), .mv, [(.t 3)], none, 0, 0⟩,
    ⟨(.some 2), .mv, [(.t 31)], none, 0, 0⟩])
  .ret))))
def r23 : List ARes := [(.tmp 2)]
theorem ok23 : FnOk Try.prog 23 c23 r23 :=
  ⟨Try.f23, _, Try.func23, by kernel_rfl, rfl, by kernel_rfl, by kernel_rfl⟩
/-- rill/rilllaw16.both -/
def c24 : ACode :=
  (.seq
  (.ops [0, 1, 5] [
    ⟨(.some 5), .box, [(.t 2)], none, 0, 0⟩,
    ⟨(.some 6), .mv, [(.c (.bool false))], none, 0, 0⟩])
  (.seq
  (.seq
  (.ops [0, 1, 5, 12] [
    ⟨(.some 11), (.fieldAddr 0), [(.t 5)], none, 0, 0⟩,
    ⟨(.some 12), (.load false 1), [(.t 11)], none, 0, 0⟩])
  (.block 0
    (.seq
    (.ops [0, 1, 5, 12, 13] [
      ⟨(.some 14), (.eq false .int), [(.t 12), (.c (.int .i64 0))], none, 0, 0⟩,
      ⟨(.some 13), .mv, [(.t 14)], none, 0, 0⟩])
    (.cond (.t 13)
      (.seq
      (.drawn [6] [
        ⟨(.some 15), .mv, [(.t 0)], none, 0, 0⟩,
        ⟨(.some 16), (.fieldAddr 1), [(.t 5)], none, 0, 0⟩,
        ⟨(.some 17), (.load false 1), [(.t 16)], none, 0, 0⟩,
        ⟨(.some 18), (.fieldAddr 4), [(.t 5)], none, 0, 0⟩,
        ⟨(.some 19), (.load true 3), [(.t 18)], none, 0, 0⟩,
        ⟨(.some 20), (.call 21), [(.t 15), (.t 17), (.t 19)], none, 0, 1⟩,
        ⟨(.some 21), .mv, [(.t 1)], none, 0, 1⟩,
        ⟨(.some 22), (.fieldAddr 1), [(.t 5)], none, 0, 1⟩,
        ⟨(.some 23), (.load false 1), [(.t 22)], none, 0, 1⟩,
        ⟨(.some 24), (.fieldAddr 4), [(.t 5)], none, 0, 1⟩,
        ⟨(.some 25), (.load true 3), [(.t 24)], none, 0, 1⟩,
        ⟨(.some 26), (.call 32), [(.t 21), (.t 23), (.t 25)], none, 1, 2⟩,
        ⟨(.some 27), (.eq false .int), [(.t 20), (.t 26)], none, 2, 2⟩,
        ⟨(.some 6), .mv, [(.t 27)], none, 2, 2⟩])
      .ret)
      (.seq
      (.ops [0, 1, 5, 12, 28] [
        ⟨(.some 29), (.eq false .int), [(.t 12), (.c (.int .i64 1))], none, 0, 0⟩,
        ⟨(.some 28), .mv, [(.t 29)], none, 0, 0⟩])
      (.cond (.t 28)
        (.seq
        (.ops [1, 5, 7, 8] [
          ⟨(.some 31), .mv, [(.t 0)], none, 0, 0⟩,
          ⟨(.some 32), (.fieldAddr 3), [(.t 5)], none, 0, 0⟩,
          ⟨(.some 33), (.load false 1), [(.t 32)], none, 0, 0⟩,
          ⟨(.some 34), (.call 14), [(.t 31), (.t 33)], none, 0, 0⟩,
          ⟨(.some 30), .mv, [(.t 34)], none, 0, 0⟩,
          ⟨(.some 35), (.extract 0), [(.t 30)], none, 0, 0⟩,
          ⟨(.some 36), (.extract 1), [(.t 30)], none, 0, 0⟩,
          ⟨(.some 7), .mv, [(.t 35)], none, 0, 0⟩,
          ⟨(.some 8), .mv, [(.t 36)], none, 0, 0⟩])
        (.seq
        (.ops [7, 8, 9, 10] [
          ⟨(.some 38), .mv, [(.t 1)], none, 0, 0⟩,
          ⟨(.some 39), (.fieldAddr 3), [(.t 5)], none, 0, 0⟩,
          ⟨(.some 40), (.load false 1), [(.t 39)], none, 0, 0⟩,
          ⟨(.some 41), (.call 33), [(.t 38), (.t 40)], none, 0, 0⟩,
          ⟨(.some 37), .mv, [(.t 41)], none, 0, 0⟩,
          ⟨(.some 42), (.extract 0), [(.t 37)], none, 0, 0⟩,
          ⟨(.some 43), (.extract 1), [(.t 37)], none, 0, 0⟩,
          ⟨(.some 9), .mv, [(.t 42)], none, 0, 0⟩,
          ⟨(.some 10), .mv, [(.t 43)], none, 0, 0⟩])
        (.seq
        (.ops [6] [
          ⟨(.some 44), .mv, [(.t 7)], none, 0, 0⟩,
          ⟨(.some 45), .mv, [(.t 9)], none, 0, 0⟩,
          ⟨(.some 46), (.eq false .int), [(.t 44), (.t 45)], none, 0, 0⟩,
          ⟨(.some 47), .mv, [(.t 46)], none, 0, 0⟩,
          ⟨(.some 48), .mv, [(.t 8)], (.some (47, true)), 0, 0⟩,
          ⟨(.some 49), .mv, [(.t 10)], (.some (47, true)), 0, 0⟩,
          ⟨(.some 50), (.eq false .bool), [(.t 48), (.t 49)], (.some (47, true)), 0, 0⟩,
          ⟨(.some 51), .pick, [(.t 47), (.t 50), (.c (.bool false))], none, 0, 0⟩,
          ⟨(.some 6), .mv, [(.t 51)], none, 0, 0⟩])
        .ret)))
        (.seq
        (.ops [0, 1, 5, 12, 52] [
          ⟨(.some 53), (.eq false .int), [(.t 12), (.c (.int .i64 2))], none, 0, 0⟩,
          ⟨(.some 52), .mv, [(.t 53)], none, 0, 0⟩])
        (.cond (.t 52)
          (.seq
          (.drawn [6] [
            ⟨(.some 54), .mv, [(.t 0)], none, 0, 0⟩,
            ⟨(.some 55), (.fieldAddr 1), [(.t 5)], none, 0, 0⟩,
            ⟨(.some 56), (.load false 1), [(.t 55)], none, 0, 0⟩,
            ⟨(.some 57), (.fieldAddr 2), [(.t 5)], none, 0, 0⟩,
            ⟨(.some 58), (.load false 1), [(.t 57)], none, 0, 0⟩,
            ⟨(.some 59), (.fieldAddr 3), [(.t 5)], none, 0, 0⟩,
            ⟨(.some 60), (.load false 1), [(.t 59)], none, 0, 0⟩,
            ⟨(.some 61), (.call 15), [(.t 54), (.t 56), (.t 58), (.t 60)], none, 0, 1⟩,
            ⟨(.some 62), .mv, [(.t 1)], none, 0, 1⟩,
            ⟨(.some 63), (.fieldAddr 1), [(.t 5)], none, 0, 1⟩,
            ⟨(.some 64), (.load false 1), [(.t 63)], none, 0, 1⟩,
            ⟨(.some 65), (.fieldAddr 2), [(.t 5)], none, 0, 1⟩,
            ⟨(.some 66), (.load false 1), [(.t 65)], none, 0, 1⟩,
            ⟨(.some 67), (.fieldAddr 3), [(.t 5)], none, 0, 1⟩,
            ⟨(.some 68), (.load false 1), [(.t 67)], none, 0, 1⟩,
            ⟨(.some 69), (.call 34), [(.t 62), (.t 64), (.t 66), (.t 68)], none, 1, 2⟩,
            ⟨(.some 70), (.eq false .int), [(.t 61), (.t 69)], none, 2, 2⟩,
            ⟨(.some 6), .mv, [(.t 70)], none, 2, 2⟩])
          .ret)
          (.seq
          (.ops [0, 1, 5, 12, 71] [
            ⟨(.some 72), (.eq false .int), [(.t 12), (.c (.int .i64 3))], none, 0, 0⟩,
            ⟨(.some 71), .mv, [(.t 72)], none, 0, 0⟩])
          (.cond (.t 71)
            (.seq
            (.drawn [6] [
              ⟨(.some 73), .mv, [(.t 0)], none, 0, 0⟩,
              ⟨(.some 74), (.fieldAddr 1), [(.t 5)], none, 0, 0⟩,
              ⟨(.some 75), (.load false 1), [(.t 74)], none, 0, 0⟩,
              ⟨(.some 76), (.call 16), [(.t 73), (.t 75)], none, 0, 1⟩,
              ⟨(.some 77), .mv, [(.t 1)], none, 0, 1⟩,
              ⟨(.some 78), (.fieldAddr 1), [(.t 5)], none, 0, 1⟩,
              ⟨(.some 79), (.load false 1), [(.t 78)], none, 0, 1⟩,
              ⟨(.some 80), (.call 35), [(.t 77), (.t 79)], none, 1, 2⟩,
              ⟨(.some 81), (.eq false .int), [(.t 76), (.t 80)], none, 2, 2⟩,
              ⟨(.some 6), .mv, [(.t 81)], none, 2, 2⟩])
            .ret)
            (.seq
            (.ops [0, 1, 82] [
              ⟨(.some 83), (.eq false .int), [(.t 12), (.c (.int .i64 4))], none, 0, 0⟩,
              ⟨(.some 82), .mv, [(.t 83)], none, 0, 0⟩])
            (.cond (.t 82)
              (.seq
              (.ops [6] [
                ⟨(.some 84), .mv, [(.t 0)], none, 0, 0⟩,
                ⟨(.some 85), (.call 17), [(.t 84)], none, 0, 0⟩,
                ⟨(.some 86), .mv, [(.t 1)], none, 0, 0⟩,
                ⟨(.some 87), (.call 36), [(.t 86)], none, 0, 0⟩,
                ⟨(.some 88), (.eq false .int), [(.t 85), (.t 87)], none, 0, 0⟩,
                ⟨(.some 6), .mv, [(.t 88)], none, 0, 0⟩])
              .ret)
              .skip))))))))))))
  (.seq
  (.ops [6] [
    ⟨(.some 6), .mv, [(.c (.bool true))], none, 0, 0⟩])
  .ret)))
def r24 : List ARes := [(.tmp 6)]
theorem ok24 : FnOk Try.prog 24 c24 r24 :=
  ⟨Try.f24, _, Try.func24, by kernel_rfl, rfl, by kernel_rfl, by kernel_rfl⟩
/-- (*rill/rillref16.Table).Open -/
def c25 : ACode :=
  (.seq
  (.ops [0] [
    ⟨(.some 2), .mv, [(.c (.int .i64 0))], none, 0, 0⟩])
  (.seq
  (.seq
  (.ops [0, 3] [
    ⟨(.some 3), .mv, [(.c (.int .i64 0))], none, 0, 0⟩])
  (.block 0
    (.loop [0, 3]
      (.seq
      (.seq
      (.ops [0, 3, 10] [
        ⟨(.some 4), .mv, [(.t 3)], none, 0, 0⟩,
        ⟨(.some 5), .mv, [(.t 0)], none, 0, 0⟩,
        ⟨(.some 6), .nilCheck, [(.t 5)], none, 0, 0⟩,
        ⟨(.some 7), (.fieldAddr 0), [(.t 6)], none, 0, 0⟩,
        ⟨(.some 8), (.load false 1), [(.t 7)], none, 0, 0⟩,
        ⟨(.some 9), .len, [(.t 8)], none, 0, 0⟩,
        ⟨(.some 10), (.cmp .lss), [(.t 4), (.t 9)], none, 0, 0⟩])
      (.cond (.t 10)
        .skip
        (.exit 0)))
      (.seq
      (.block 1
        (.seq
        (.ops [0, 3, 21] [
          ⟨(.some 13), .mv, [(.t 0)], none, 0, 0⟩,
          ⟨(.some 14), .nilCheck, [(.t 13)], none, 0, 0⟩,
          ⟨(.some 15), (.fieldAddr 0), [(.t 14)], none, 0, 0⟩,
          ⟨(.some 16), (.load false 1), [(.t 15)], none, 0, 0⟩,
          ⟨(.some 17), .mv, [(.t 3)], none, 0, 0⟩,
          ⟨(.some 18), (.idxAddr 3), [(.t 16), (.t 17)], none, 0, 0⟩,
          ⟨(.some 19), (.fieldAddr 0), [(.t 18)], none, 0, 0⟩,
          ⟨(.some 20), (.load false 1), [(.t 19)], none, 0, 0⟩,
          ⟨(.some 21), (.eq false .int), [(.t 20), (.c (.int .i64 1))], none, 0, 0⟩])
        (.cond (.t 21)
          (.seq
          (.ops [2] [
            ⟨(.some 22), .mv, [(.t 3)], none, 0, 0⟩,
            ⟨(.some 2), .mv, [(.t 22)], none, 0, 0⟩])
          .ret)
          .skip)))
      (.ops [0, 3] [
        ⟨(.some 11), .mv, [(.t 3)], none, 0, 0⟩,
        ⟨(.some 12), (.arith .add), [(.t 11), (.c (.int .i64 1))], none, 0, 0⟩,
        ⟨(.some 3), .mv, [(.t 12)], none, 0, 0⟩]))))))
  (.seq
  (.ops [2] [
    ⟨(.some 2), .mv, [(.c (.int .i64 (-1)))], none, 0, 0⟩])
  .ret)))
def r25 : List ARes := [(.tmp 2)]
theorem ok25 : FnOk Try.prog 25 c25 r25 :=
  ⟨Try.f25, _, Try.func25, by kernel_rfl, rfl, by kernel_rfl, by kernel_rfl⟩
/-- (*rill/rillref16.Table).Segs -/
def c26 : ACode :=
  (.seq
  (.ops [0] [
    ⟨(.some 2), .mv, [(.c .nils)], none, 0, 0⟩])
  (.seq
  (.ops [2] [
    ⟨(.some 3), .mv, [(.t 0)], none, 0, 0⟩,
    ⟨(.some 4), .nilCheck, [(.t 3)], none, 0, 0⟩,
    ⟨(.some 5), (.fieldAddr 0), [(.t 4)], none, 0, 0⟩,
    ⟨(.some 6), (.load false 1), [(.t 5)], none, 0, 0⟩,
    ⟨(.some 7), (.call 37), [(.t 6)], none, 0, 0⟩,
    ⟨(.some 2), .mv, [(.t 7)], none, 0, 0⟩])
  .ret))
def r26 : List ARes := [(.tmp 2)]
theorem ok26 : FnOk Try.prog 26 c26 r26 :=
  ⟨Try.f26, _, Try.func26, by kernel_rfl, rfl, by kernel_rfl, by kernel_rfl⟩
/-- rill/rillkit.SpoilSegs -/
def c27 : ACode :=
  (.seq
  (.ops [0, 2] [
    ⟨(.some 2), .mv, [(.c (.int .i64 0))], none, 0, 0⟩])
  (.block 0
    (.loop [0, 2]
      (.seq
      (.seq
      (.ops [0, 2, 6] [
        ⟨(.some 3), .mv, [(.t 2)], none, 0, 0⟩,
        ⟨(.some 4), .mv, [(.t 0)], none, 0, 0⟩,
        ⟨(.some 5), .len, [(.t 4)], none, 0, 0⟩,
        ⟨(.some 6), (.cmp .lss), [(.t 3), (.t 5)], none, 0, 0⟩])
      (.cond (.t 6)
        .skip
        (.exit 0)))
      (.seq
      (.block 1
        (.ops [0, 2] [
          ⟨(.some 9), .mv, [(.t 0)], none, 0, 0⟩,
          ⟨(.some 10), .mv, [(.t 2)], none, 0, 0⟩,
          ⟨(.some 11), .mv, [(.t 0)], none, 0, 0⟩,
          ⟨(.some 12), .mv, [(.t 2)], none, 0, 0⟩,
          ⟨(.some 13), (.idxAddr 3), [(.t 11), (.t 12)], none, 0, 0⟩,
          ⟨(.some 14), (.fieldAddr 0), [(.t 13)], none, 0, 0⟩,
          ⟨(.some 15), (.load false 1), [(.t 14)], none, 0, 0⟩,
          ⟨(.some 16), (.arith .xor), [(.t 15), (.c (.int .i64 77))], none, 0, 0⟩,
          ⟨(.some 17), (.build [(.int .i64 0), (.int .i64 0), (.int .i64 0)] [(0, 1)]), [(.t 16)], none, 0, 0⟩,
          ⟨(.some 18), (.idxAddr 3), [(.t 9), (.t 10)], none, 0, 0⟩,
          ⟨none, (.store 3), [(.t 18), (.t 17)], none, 0, 0⟩]))
      (.ops [0, 2] [
        ⟨(.some 7), .mv, [(.t 2)], none, 0, 0⟩,
        ⟨(.some 8), (.arith .add), [(.t 7), (.c (.int .i64 1))], none, 0, 0⟩,
        ⟨(.some 2), .mv, [(.t 8)], none, 0, 0⟩]))))))
def r27 : List ARes := []
theorem ok27 : FnOk Try.prog 27 c27 r27 :=
  ⟨Try.f27, _, Try.func27, by kernel_rfl, rfl, by kernel_rfl, by kernel_rfl⟩
/-- (*rill/rillref16.Table).Count -/
def c28 : ACode :=
  (.seq
  (.ops [0, 1] [
    ⟨(.some 4), .mv, [(.c (.int .i64 0))], none, 0, 0⟩])
  (.seq
  (.ops [0, 1, 5] [
    ⟨(.some 5), .mv, [(.c (.int .i64 0))], none, 0, 0⟩])
  (.seq
  (.seq
  (.ops [0, 1, 5, 6] [
    ⟨(.some 6), .mv, [(.c (.int .i64 0))], none, 0, 0⟩])
  (.block 0
    (.loop [0, 1, 5, 6]
      (.seq
      (.seq
      (.ops [0, 1, 5, 6, 13] [
        ⟨(.some 7), .mv, [(.t 6)], none, 0, 0⟩,
        ⟨(.some 8), .mv, [(.t 0)], none, 0, 0⟩,
        ⟨(.some 9), .nilCheck, [(.t 8)], none, 0, 0⟩,
        ⟨(.some 10), (.fieldAddr 0), [(.t 9)], none, 0, 0⟩,
        ⟨(.some 11), (.load false 1), [(.t 10)], none, 0, 0⟩,
        ⟨(.some 12), .len, [(.t 11)], none, 0, 0⟩,
        ⟨(.some 13), (.cmp .lss), [(.t 7), (.t 12)], none, 0, 0⟩])
      (.cond (.t 13)
        .skip
        (.exit 0)))
      (.seq
      (.block 1
        (.seq
        (.ops [0, 1, 5, 6, 25] [
          ⟨(.some 16), .mv, [(.t 0)], none, 0, 0⟩,
          ⟨(.some 17), .nilCheck, [(.t 16)], none, 0, 0⟩,
          ⟨(.some 18), (.fieldAddr 0), [(.t 17)], none, 0, 0⟩,
          ⟨(.some 19), (.load false 1), [(.t 18)], none, 0, 0⟩,
          ⟨(.some 20), .mv, [(.t 6)], none, 0, 0⟩,
          ⟨(.some 21), (.idxAddr 3), [(.t 19), (.t 20)], none, 0, 0⟩,
          ⟨(.some 22), (.fieldAddr 0), [(.t 21)], none, 0, 0⟩,
          ⟨(.some 23), (.load false 1), [(.t 22)], none, 0, 0⟩,
          ⟨(.some 24), .mv, [(.t 1)], none, 0, 0⟩,
          ⟨(.some 25), (.eq false .int), [(.t 23), (.t 24)], none, 0, 0⟩])
        (.cond (.t 25)
          (.ops [0, 1, 5, 6] [
            ⟨(.some 26), .mv, [(.t 5)], none, 0, 0⟩,
            ⟨(.some 27), (.arith .add), [(.t 26), (.c (.int .i64 1))], none, 0, 0⟩,
            ⟨(.some 5), .mv, [(.t 27)], none, 0, 0⟩])
          .skip)))
      (.ops [0, 1, 5, 6] [
        ⟨(.some 14), .mv, [(.t 6)], none, 0, 0⟩,
        ⟨(.some 15), (.arith .add), [(.t 14), (.c (.int .i64 1))], none, 0, 0⟩,
        ⟨(.some 6), .mv, [(.t 15)], none, 0, 0⟩]))))))
  (.seq
  (.ops [4] [
    ⟨(.some 28), .mv, [(.t 5)], none, 0, 0⟩,
    ⟨(.some 4), .mv, [(.t 28)], none, 0, 0⟩])
  .ret))))
def r28 : List ARes := [(.tmp 4)]
theorem ok28 : FnOk Try.prog 28 c28 r28 :=
  ⟨Try.f28, _, Try.func28, by kernel_rfl, rfl, by kernel_rfl, by kernel_rfl⟩
/-- (*rill/usage.Table).has -/
def c29 : ACode :=
  (.seq
  (.ops [0, 1] [
    ⟨(.some 4), .mv, [(.c (.bool false))], none, 0, 0⟩])
  (.seq
  (.ops [4] [
    ⟨(.some 5), .mv, [(.t 1)], none, 0, 0⟩,
    ⟨(.some 6), .mv, [(.t 0)], none, 0, 0⟩,
    ⟨(.some 7), .nilCheck, [(.t 6)], none, 0, 0⟩,
    ⟨(.some 8), (.fieldAddr 0), [(.t 7)], none, 0, 0⟩,
    ⟨(.some 9), (.load false 1), [(.t 8)], none, 0, 0⟩,
    ⟨(.some 10), .len, [(.t 9)], none, 0, 0⟩,
    ⟨(.some 11), (.arith .sub), [(.t 10), (.c (.int .i64 1))], none, 0, 0⟩,
    ⟨(.some 12), (.call 30), [(.t 5), (.t 11)], none, 0, 0⟩,
    ⟨(.some 4), .mv, [(.t 12)], none, 0, 0⟩])
  .ret))
def r29 : List ARes := [(.tmp 4)]
theorem ok29 : FnOk Try.prog 29 c29 r29 :=
  ⟨Try.f29, _, Try.func29, by kernel_rfl, rfl, by kernel_rfl, by kernel_rfl⟩
/-- rill/usage.within -/
def c30 : ACode :=
  (.seq
  (.ops [0, 1] [
    ⟨(.some 4), .mv, [(.c (.bool false))], none, 0, 0⟩])
  (.seq
  (.ops [4] [
    ⟨(.some 5), .mv, [(.t 0)], none, 0, 0⟩,
    ⟨(.some 6), (.cmp .geq), [(.t 5), (.c (.int .i64 0))], none, 0, 0⟩,
    ⟨(.some 7), .mv, [(.t 6)], none, 0, 0⟩,
    ⟨(.some 8), .mv, [(.t 0)], (.some (7, true)), 0, 0⟩,
    ⟨(.some 9), .mv, [(.t 1)], (.some (7, true)), 0, 0⟩,
    ⟨(.some 10), (.cmp .leq), [(.t 8), (.t 9)], (.some (7, true)), 0, 0⟩,
    ⟨(.some 11), .pick, [(.t 7), (.t 10), (.c (.bool false))], none, 0, 0⟩,
    ⟨(.some 4), .mv, [(.t 11)], none, 0, 0⟩])
  .ret))
def r30 : List ARes := [(.tmp 4)]
theorem ok30 : FnOk Try.prog 30 c30 r30 :=
  ⟨Try.f30, _, Try.func30, by kernel_rfl, rfl, by kernel_rfl, by kernel_rfl⟩
/-- slices.IndexFunc[[]rill/api.Seg,rill/api.Seg] -/
def c31 : ACode :=
  (.seq
  (.ops [0, 1] [
    ⟨(.some 4), .mv, [(.c (.int .i64 0))], none, 0, 0⟩])
  (.seq
  (.seq
  (.ops [0, 1, 7, 8] [
    ⟨(.some 6), .mv, [(.t 0)], none, 0, 0⟩,
    ⟨(.some 7), .len, [(.t 6)], none, 0, 0⟩,
    ⟨(.some 8), .mv, [(.c (.int .i64 0))], none, 0, 0⟩])
  (.block 0
    (.loop [0, 1, 7, 8]
      (.seq
      (.ops [0, 1, 7, 8, 9] [
        ⟨(.some 9), (.cmp .lss), [(.t 8), (.t 7)], none, 0, 0⟩])
      (.seq
      (.cond (.t 9)
        .skip
        (.exit 0))
      (.seq
      (.block 1
        (.seq
        (.ops [0, 1, 5, 7, 8] [
          ⟨(.some 10), .mv, [(.t 8)], none, 0, 0⟩,
          ⟨(.some 5), .mv, [(.t 10)], none, 0, 0⟩])
        (.seq
        (.ops [0, 1, 5, 7, 8, 16] [
          ⟨(.some 11), .mv, [(.t 1)], none, 0, 0⟩,
          ⟨(.some 12), .mv, [(.t 0)], none, 0, 0⟩,
          ⟨(.some 13), .mv, [(.t 5)], none, 0, 0⟩,
          ⟨(.some 14), (.idxAddr 3), [(.t 12), (.t 13)], none, 0, 0⟩,
          ⟨(.some 15), (.load true 3), [(.t 14)], none, 0, 0⟩,
          ⟨(.some 16), .callv, [(.t 11), (.t 15)], none, 0, 0⟩])
        (.cond (.t 16)
          (.seq
          (.ops [4] [
            ⟨(.some 17), .mv, [(.t 5)], none, 0, 0⟩,
            ⟨(.some 4), .mv, [(.t 17)], none, 0, 0⟩])
          .ret)
          .skip))))
      (.ops [0, 1, 7, 8] [
        ⟨(.some 18), (.arith .add), [(.t 8), (.c (.int .i64 1))], none, 0, 0⟩,
        ⟨(.some 8), .mv, [(.t 18)], none, 0, 0⟩])))))))
  (.seq
  (.ops [4] [
    ⟨(.some 4), .mv, [(.c (.int .i64 (-1)))], none, 0, 0⟩])
  .ret)))
def r31 : List ARes := [(.tmp 4)]
theorem ok31 : FnOk Try.prog 31 c31 r31 :=
  ⟨Try.f31, _, Try.func31, by kernel_rfl, rfl, by kernel_rfl, by kernel_rfl⟩
/-- (*rill/rillref16.Table).Set -/
def c32 : ACode :=
  (.seq
  (.ops [0, 1, 5] [
    ⟨(.some 5), .box, [(.t 2)], none, 0, 0⟩,
    ⟨(.some 6), .mv, [(.c (.int .i64 0))], none, 0, 0⟩])
  (.seq
  (.seq
  (.ops [0, 1, 5, 41] [
    ⟨(.some 8), .mv, [(.t 0)], none, 0, 0⟩,
    ⟨(.some 9), .mv, [(.t 1)], none, 0, 0⟩,
    ⟨(.some 10), (.call 38), [(.t 8), (.t 9)], none, 0, 0⟩,
    ⟨(.some 11), .not, [(.t 10)], none, 0, 0⟩,
    ⟨(.some 12), .mv, [(.t 11)], none, 0, 0⟩,
    ⟨(.some 13), (.fieldAddr 0), [(.t 5)], (.some (12, false)), 0, 0⟩,
    ⟨(.some 14), (.load false 1), [(.t 13)], (.some (12, false)), 0, 0⟩,
    ⟨(.some 15), (.cmp .lss), [(.t 14), (.c (.int .i64 0))], (.some (12, false)), 0, 0⟩,
    ⟨(.some 16), .pick, [(.t 12), (.c (.bool true)), (.t 15)], none, 0, 0⟩,
    ⟨(.some 17), .mv, [(.t 16)], none, 0, 0⟩,
    ⟨(.some 18), (.fieldAddr 0), [(.t 5)], (.some (17, false)), 0, 0⟩,
    ⟨(.some 19), (.load false 1), [(.t 18)], (.some (17, false)), 0, 0⟩,
    ⟨(.some 20), (.cmp .gtr), [(.t 19), (.c (.int .i64 3))], (.some (17, false)), 0, 0⟩,
    ⟨(.some 21), .pick, [(.t 17), (.c (.bool true)), (.t 20)], none, 0, 0⟩,
    ⟨(.some 22), .mv, [(.t 21)], none, 0, 0⟩,
    ⟨(.some 23), (.fieldAddr 1), [(.t 5)], (.some (22, false)), 0, 0⟩,
    ⟨(.some 24), (.load false 1), [(.t 23)], (.some (22, false)), 0, 0⟩,
    ⟨(.some 25), (.cmp .lss), [(.t 24), (.c (.int .i64 0))], (.some (22, false)), 0, 0⟩,
    ⟨(.some 26), .pick, [(.t 22), (.c (.bool true)), (.t 25)], none, 0, 0⟩,
    ⟨(.some 27), .mv, [(.t 26)], none, 0, 0⟩,
    ⟨(.some 28), (.fieldAddr 1), [(.t 5)], (.some (27, false)), 0, 0⟩,
    ⟨(.some 29), (.load false 1), [(.t 28)], (.some (27, false)), 0, 0⟩,
    ⟨(.some 30), (.cmp .gtr), [(.t 29), (.c (.int .i64 64))], (.some (27, false)), 0, 0⟩,
    ⟨(.some 31), .pick, [(.t 27), (.c (.bool true)), (.t 30)], none, 0, 0⟩,
    ⟨(.some 32), .mv, [(.t 31)], none, 0, 0⟩,
    ⟨(.some 33), (.fieldAddr 2), [(.t 5)], (.some (32, false)), 0, 0⟩,
    ⟨(.some 34), (.load false 1), [(.t 33)], (.some (32, false)), 0, 0⟩,
    ⟨(.some 35), (.cmp .lss), [(.t 34), (.c (.int .i64 0))], (.some (32, false)), 0, 0⟩,
    ⟨(.some 36), .pick, [(.t 32), (.c (.bool true)), (.t 35)], none, 0, 0⟩,
    ⟨(.some 37), .mv, [(.t 36)], none, 0, 0⟩,
    ⟨(.some 38), (.fieldAddr 2), [(.t 5)], (.some (37, false)), 0, 0⟩,
    ⟨(.some 39), (.load false 1), [(.t 38)], (.some (37, false)), 0, 0⟩,
    ⟨(.some 40), (.cmp .gtr), [(.t 39), (.c (.int .i64 1099511627776))], (.some (37, false)), 0, 0⟩,
    ⟨(.some 41), .pick, [(.t 37), (.c (.bool true)), (.t 40)], none, 0, 0⟩])
  (.cond (.t 41)
    (.seq
    (.ops [6] [
      ⟨(.some 6), .mv, [(.c (.int .i64 7))], none, 0, 0⟩])
    .ret)
    .skip))
  (.seq
  (.seq
  (.ops [0, 1, 5, 7] [
    ⟨(.some 7), .mv, [(.c (.int .i64 0))], none, 0, 0⟩])
  (.block 0
    (.loop [0, 1, 5, 7]
      (.seq
      (.seq
      (.ops [0, 1, 5, 7, 48] [
        ⟨(.some 42), .mv, [(.t 7)], none, 0, 0⟩,
        ⟨(.some 43), .mv, [(.t 0)], none, 0, 0⟩,
        ⟨(.some 44), .nilCheck, [(.t 43)], none, 0, 0⟩,
        ⟨(.some 45), (.fieldAddr 0), [(.t 44)], none, 0, 0⟩,
        ⟨(.some 46), (.load false 1), [(.t 45)], none, 0, 0⟩,
        ⟨(.some 47), .len, [(.t 46)], none, 0, 0⟩,
        ⟨(.some 48), (.cmp .lss), [(.t 42), (.t 47)], none, 0, 0⟩])
      (.cond (.t 48)
        .skip
        (.exit 0)))
      (.seq
      (.block 1
        (.seq
        (.ops [0, 1, 5, 7, 69] [
          ⟨(.some 51), .mv, [(.t 7)], none, 0, 0⟩,
          ⟨(.some 52), .mv, [(.t 1)], none, 0, 0⟩,
          ⟨(.some 53), (.eq true .int), [(.t 51), (.t 52)], none, 0, 0⟩,
          ⟨(.some 54), .mv, [(.t 53)], none, 0, 0⟩,
          ⟨(.some 55), .mv, [(.t 0)], (.some (54, true)), 0, 0⟩,
          ⟨(.some 56), .nilCheck, [(.t 55)], (.some (54, true)), 0, 0⟩,
          ⟨(.some 57), (.fieldAddr 0), [(.t 56)], (.some (54, true)), 0, 0⟩,
          ⟨(.some 58), (.load false 1), [(.t 57)], (.some (54, true)), 0, 0⟩,
          ⟨(.some 59), .mv, [(.t 7)], (.some (54, true)), 0, 0⟩,
          ⟨(.some 60), (.idxAddr 3), [(.t 58), (.t 59)], (.some (54, true)), 0, 0⟩,
          ⟨(.some 61), (.fieldAddr 0), [(.t 60)], (.some (54, true)), 0, 0⟩,
          ⟨(.some 62), (.load false 1), [(.t 61)], (.some (54, true)), 0, 0⟩,
          ⟨(.some 63), (.eq false .int), [(.t 62), (.c (.int .i64 1))], (.some (54, true)), 0, 0⟩,
          ⟨(.some 64), .pick, [(.t 54), (.t 63), (.c (.bool false))], none, 0, 0⟩,
          ⟨(.some 65), .mv, [(.t 64)], none, 0, 0⟩,
          ⟨(.some 66), (.fieldAddr 0), [(.t 5)], (.some (65, true)), 0, 0⟩,
          ⟨(.some 67), (.load false 1), [(.t 66)], (.some (65, true)), 0, 0⟩,
          ⟨(.some 68), (.eq false .int), [(.t 67), (.c (.int .i64 1))], (.some (65, true)), 0, 0⟩,
          ⟨(.some 69), .pick, [(.t 65), (.t 68), (.c (.bool false))], none, 0, 0⟩])
        (.cond (.t 69)
          (.seq
          (.ops [6] [
            ⟨(.some 6), .mv, [(.c (.int .i64 10))], none, 0, 0⟩])
          .ret)
          .skip)))
      (.ops [0, 1, 5, 7] [
        ⟨(.some 49), .mv, [(.t 7)], none, 0, 0⟩,
        ⟨(.some 50), (.arith .add), [(.t 49), (.c (.int .i64 1))], none, 0, 0⟩,
        ⟨(.some 7), .mv, [(.t 50)], none, 0, 0⟩]))))))
  (.seq
  (.drawn [] [
    ⟨(.some 70), .mv, [(.t 0)], none, 0, 0⟩,
    ⟨(.some 71), .nilCheck, [(.t 70)], none, 0, 0⟩,
    ⟨(.some 72), (.fieldAddr 0), [(.t 71)], none, 0, 0⟩,
    ⟨(.some 73), (.load false 1), [(.t 72)], none, 0, 0⟩,
    ⟨(.some 74), .mv, [(.t 1)], none, 0, 0⟩,
    ⟨(.some 75), (.load true 3), [(.t 5)], none, 0, 0⟩,
    ⟨(.some 76), (.idxAddr 3), [(.t 73), (.t 74)], none, 0, 0⟩,
    ⟨none, (.store 3), [(.t 76), (.t 75)], none, 0, 1⟩])
  (.seq
  (.ops [6] [
    ⟨(.some 6), .mv, [(.c (.int .i64 0))], none, 0, 0⟩])
  .ret)))))
def r32 : List ARes := [(.tmp 6)]
theorem ok32 : FnOk Try.prog 32 c32 r32 :=
  ⟨Try.f32, _, Try.func32, by kernel_rfl, rfl, by kernel_rfl, by kernel_rfl⟩
/-- (*rill/rillref16.Table).Take -/
def c33 : ACode :=
  (.seq
  (.ops [0, 1] [
    ⟨(.some 4), .mv, [(.c (.int .i64 0))], none, 0, 0⟩,
    ⟨(.some 5), .mv, [(.c (.bool false))], none, 0, 0⟩])
  (.seq
  (.seq
  (.ops [0, 1, 6] [
    ⟨(.some 6), .mv, [(.c (.int .i64 0))], none, 0, 0⟩])
  (.block 0
    (.loop [0, 1, 6]
      (.seq
      (.seq
      (.ops [0, 1, 6, 14] [
        ⟨(.some 8), .mv, [(.t 6)], none, 0, 0⟩,
        ⟨(.some 9), .mv, [(.t 0)], none, 0, 0⟩,
        ⟨(.some 10), .nilCheck, [(.t 9)], none, 0, 0⟩,
        ⟨(.some 11), (.fieldAddr 0), [(.t 10)], none, 0, 0⟩,
        ⟨(.some 12), (.load false 1), [(.t 11)], none, 0, 0⟩,
        ⟨(.some 13), .len, [(.t 12)], none, 0, 0⟩,
        ⟨(.some 14), (.cmp .lss), [(.t 8), (.t 13)], none, 0, 0⟩])
      (.cond (.t 14)
        .skip
        (.exit 0)))
      (.seq
      (.block 1
        (.seq
        (.seq
        (.ops [0, 1, 6, 25] [
          ⟨(.some 17), .mv, [(.t 0)], none, 0, 0⟩,
          ⟨(.some 18), .nilCheck, [(.t 17)], none, 0, 0⟩,
          ⟨(.some 19), (.fieldAddr 0), [(.t 18)], none, 0, 0⟩,
          ⟨(.some 20), (.load false 1), [(.t 19)], none, 0, 0⟩,
          ⟨(.some 21), .mv, [(.t 6)], none, 0, 0⟩,
          ⟨(.some 22), (.idxAddr 3), [(.t 20), (.t 21)], none, 0, 0⟩,
          ⟨(.some 23), (.fieldAddr 0), [(.t 22)], none, 0, 0⟩,
          ⟨(.some 24), (.load false 1), [(.t 23)], none, 0, 0⟩,
          ⟨(.some 25), (.eq true .int), [(.t 24), (.c (.int .i64 0))], none, 0, 0⟩])
        (.cond (.t 25)
          (.exit 1)
          .skip))
        (.seq
        (.seq
        (.ops [0, 1, 6, 7] [
          ⟨(.some 7), .mv, [(.c (.int .i64 0))], none, 0, 0⟩])
        (.block 2
          (.loop [0, 1, 6, 7]
            (.seq
            (.seq
            (.ops [0, 1, 6, 7, 32] [
              ⟨(.some 26), .mv, [(.t 7)], none, 0, 0⟩,
              ⟨(.some 27), .mv, [(.t 0)], none, 0, 0⟩,
              ⟨(.some 28), .nilCheck, [(.t 27)], none, 0, 0⟩,
              ⟨(.some 29), (.fieldAddr 0), [(.t 28)], none, 0, 0⟩,
              ⟨(.some 30), (.load false 1), [(.t 29)], none, 0, 0⟩,
              ⟨(.some 31), .len, [(.t 30)], none, 0, 0⟩,
              ⟨(.some 32), (.cmp .lss), [(.t 26), (.t 31)], none, 0, 0⟩])
            (.cond (.t 32)
              .skip
              (.exit 2)))
            (.seq
            (.block 3
              (.seq
              (.ops [0, 1, 6, 7, 43] [
                ⟨(.some 35), .mv, [(.t 0)], none, 0, 0⟩,
                ⟨(.some 36), .nilCheck, [(.t 35)], none, 0, 0⟩,
                ⟨(.some 37), (.fieldAddr 0), [(.t 36)], none, 0, 0⟩,
                ⟨(.some 38), (.load false 1), [(.t 37)], none, 0, 0⟩,
                ⟨(.some 39), .mv, [(.t 7)], none, 0, 0⟩,
                ⟨(.some 40), (.idxAddr 3), [(.t 38), (.t 39)], none, 0, 0⟩,
                ⟨(.some 41), (.fieldAddr 0), [(.t 40)], none, 0, 0⟩,
                ⟨(.some 42), (.load false 1), [(.t 41)], none, 0, 0⟩,
                ⟨(.some 43), (.eq false .int), [(.t 42), (.c (.int .i64 1))], none, 0, 0⟩])
              (.cond (.t 43)
                (.ops [0, 1, 6, 7] [
                  ⟨(.some 44), .mv, [(.t 0)], none, 0, 0⟩,
                  ⟨(.some 45), .nilCheck, [(.t 44)], none, 0, 0⟩,
                  ⟨(.some 46), (.fieldAddr 0), [(.t 45)], none, 0, 0⟩,
                  ⟨(.some 47), (.load false 1), [(.t 46)], none, 0, 0⟩,
                  ⟨(.some 48), .mv, [(.t 7)], none, 0, 0⟩,
                  ⟨(.some 49), (.idxAddr 3), [(.t 47), (.t 48)], none, 0, 0⟩,
                  ⟨(.some 50), (.fieldAddr 0), [(.t 49)], none, 0, 0⟩,
                  ⟨none, (.store 1), [(.t 50), (.c (.int .i64 2))], none, 0, 0⟩])
                .skip)))
            (.ops [0, 1, 6, 7] [
              ⟨(.some 33), .mv, [(.t 7)], none, 0, 0⟩,
              ⟨(.some 34), (.arith .add), [(.t 33), (.c (.int .i64 1))], none, 0, 0⟩,
              ⟨(.some 7), .mv, [(.t 34)], none, 0, 0⟩]))))))
        (.seq
        (.drawn [6] [
          ⟨(.some 51), .mv, [(.t 0)], none, 0, 1⟩,
          ⟨(.some 52), .nilCheck, [(.t 51)], none, 0, 1⟩,
          ⟨(.some 53), (.fieldAddr 0), [(.t 52)], none, 0, 1⟩,
          ⟨(.some 54), (.load false 1), [(.t 53)], none, 0, 1⟩,
          ⟨(.some 55), .mv, [(.t 6)], none, 0, 1⟩,
          ⟨(.some 56), .mv, [(.t 1)], none, 0, 0⟩,
          ⟨(.some 57), (.call 39), [(.t 56)], none, 0, 1⟩,
          ⟨(.some 58), (.build [(.int .i64 0), (.int .i64 0), (.int .i64 0)] [(0, 1), (1, 1), (2, 1)]), [(.c (.int .i64 1)), (.c (.int .i64 0)), (.t 57)], none, 1, 1⟩,
          ⟨(.some 59), (.idxAddr 3), [(.t 54), (.t 55)], none, 1, 1⟩,
          ⟨none, (.store 3), [(.t 59), (.t 58)], none, 1, 2⟩])
        (.seq
        (.ops [4, 5] [
          ⟨(.some 60), .mv, [(.t 6)], none, 0, 0⟩,
          ⟨(.some 4), .mv, [(.t 60)], none, 0, 0⟩,
          ⟨(.some 5), .mv, [(.c (.bool true))], none, 0, 0⟩])
        .ret)))))
      (.ops [0, 1, 6] [
        ⟨(.some 15), .mv, [(.t 6)], none, 0, 0⟩,
        ⟨(.some 16), (.arith .add), [(.t 15), (.c (.int .i64 1))], none, 0, 0⟩,
        ⟨(.some 6), .mv, [(.t 16)], none, 0, 0⟩]))))))
  (.seq
  (.ops [4, 5] [
    ⟨(.some 4), .mv, [(.c (.int .i64 0))], none, 0, 0⟩,
    ⟨(.some 5), .mv, [(.c (.bool false))], none, 0, 0⟩])
  .ret)))
def r33 : List ARes := [(.tmp 4), (.tmp 5)]
theorem ok33 : FnOk Try.prog 33 c33 r33 :=
  ⟨Try.f33, _, Try.func33, by kernel_rfl, rfl, by kernel_rfl, by kernel_rfl⟩
/-- (*rill/rillref16.Table).Add -/
def c34 : ACode :=
  (.seq
  (.ops [0, 1, 2, 3] [
    ⟨(.some 8), .mv, [(.c (.int .i64 0))], none, 0, 0⟩])
  (.seq
  (.seq
  (.ops [0, 1, 2, 3, 21] [
    ⟨(.some 10), .mv, [(.t 0)], none, 0, 0⟩,
    ⟨(.some 11), .mv, [(.t 1)], none, 0, 0⟩,
    ⟨(.some 12), (.call 38), [(.t 10), (.t 11)], none, 0, 0⟩,
    ⟨(.some 13), .not, [(.t 12)], none, 0, 0⟩,
    ⟨(.some 14), .mv, [(.t 13)], none, 0, 0⟩,
    ⟨(.some 15), .mv, [(.t 2)], (.some (14, false)), 0, 0⟩,
    ⟨(.some 16), (.cmp .lss), [(.t 15), (.c (.int .i64 (-64)))], (.some (14, false)), 0, 0⟩,
    ⟨(.some 17), .pick, [(.t 14), (.c (.bool true)), (.t 16)], none, 0, 0⟩,
    ⟨(.some 18), .mv, [(.t 17)], none, 0, 0⟩,
    ⟨(.some 19), .mv, [(.t 2)], (.some (18, false)), 0, 0⟩,
    ⟨(.some 20), (.cmp .gtr), [(.t 19), (.c (.int .i64 64))], (.some (18, false)), 0, 0⟩,
    ⟨(.some 21), .pick, [(.t 18), (.c (.bool true)), (.t 20)], none, 0, 0⟩])
  (.cond (.t 21)
    (.seq
    (.ops [8] [
      ⟨(.some 8), .mv, [(.c (.int .i64 7))], none, 0, 0⟩])
    .ret)
    .skip))
  (.seq
  (.ops [0, 1, 2, 3, 9] [
    ⟨(.some 22), .mv, [(.t 0)], none, 0, 0⟩,
    ⟨(.some 23), .nilCheck, [(.t 22)], none, 0, 0⟩,
    ⟨(.some 24), (.fieldAddr 0), [(.t 23)], none, 0, 0⟩,
    ⟨(.some 25), (.load false 1), [(.t 24)], none, 0, 0⟩,
    ⟨(.some 26), .mv, [(.t 1)], none, 0, 0⟩,
    ⟨(.some 27), (.idxAddr 3), [(.t 25), (.t 26)], none, 0, 0⟩,
    ⟨(.some 28), (.fieldAddr 1), [(.t 27)], none, 0, 0⟩,
    ⟨(.some 29), (.load false 1), [(.t 28)], none, 0, 0⟩,
    ⟨(.some 30), .mv, [(.t 2)], none, 0, 0⟩,
    ⟨(.some 31), (.arith .add), [(.t 29), (.t 30)], none, 0, 0⟩,
    ⟨(.some 9), .mv, [(.t 31)], none, 0, 0⟩])
  (.seq
  (.seq
  (.ops [0, 1, 2, 3, 9, 37] [
    ⟨(.some 32), .mv, [(.t 9)], none, 0, 0⟩,
    ⟨(.some 33), (.cmp .lss), [(.t 32), (.c (.int .i64 0))], none, 0, 0⟩,
    ⟨(.some 34), .mv, [(.t 33)], none, 0, 0⟩,
    ⟨(.some 35), .mv, [(.t 9)], (.some (34, false)), 0, 0⟩,
    ⟨(.some 36), (.cmp .gtr), [(.t 35), (.c (.int .i64 64))], (.some (34, false)), 0, 0⟩,
    ⟨(.some 37), .pick, [(.t 34), (.c (.bool true)), (.t 36)], none, 0, 0⟩])
  (.cond (.t 37)
    (.seq
    (.ops [8] [
      ⟨(.some 8), .mv, [(.c (.int .i64 7))], none, 0, 0⟩])
    .ret)
    .skip))
  (.seq
  (.ops [0, 1, 2, 3] [
    ⟨(.some 38), .mv, [(.t 0)], none, 0, 0⟩,
    ⟨(.some 39), .nilCheck, [(.t 38)], none, 0, 0⟩,
    ⟨(.some 40), (.fieldAddr 0), [(.t 39)], none, 0, 0⟩,
    ⟨(.some 41), (.load false 1), [(.t 40)], none, 0, 0⟩,
    ⟨(.some 42), .mv, [(.t 1)], none, 0, 0⟩,
    ⟨(.some 43), .mv, [(.t 9)], none, 0, 0⟩,
    ⟨(.some 44), (.idxAddr 3), [(.t 41), (.t 42)], none, 0, 0⟩,
    ⟨(.some 45), (.fieldAddr 1), [(.t 44)], none, 0, 0⟩,
    ⟨none, (.store 1), [(.t 45), (.t 43)], none, 0, 0⟩])
  (.seq
  (.seq
  (.ops [0, 1, 3, 47] [
    ⟨(.some 46), .mv, [(.t 2)], none, 0, 0⟩,
    ⟨(.some 47), (.cmp .gtr), [(.t 46), (.c (.int .i64 0))], none, 0, 0⟩])
  (.cond (.t 47)
    (.drawn [] [
      ⟨(.some 48), .mv, [(.t 0)], none, 0, 1⟩,
      ⟨(.some 49), .nilCheck, [(.t 48)], none, 0, 1⟩,
      ⟨(.some 50), (.fieldAddr 0), [(.t 49)], none, 0, 1⟩,
      ⟨(.some 51), (.load false 1), [(.t 50)], none, 0, 1⟩,
      ⟨(.some 52), .mv, [(.t 1)], none, 0, 1⟩,
      ⟨(.some 53), .mv, [(.t 3)], none, 0, 0⟩,
      ⟨(.some 54), (.call 39), [(.t 53)], none, 0, 1⟩,
      ⟨(.some 55), (.idxAddr 3), [(.t 51), (.t 52)], none, 1, 1⟩,
      ⟨(.some 56), (.fieldAddr 2), [(.t 55)], none, 1, 1⟩,
      ⟨none, (.store 1), [(.t 56), (.t 54)], none, 1, 2⟩])
    .skip))
  (.seq
  (.ops [8] [
    ⟨(.some 8), .mv, [(.c (.int .i64 0))], none, 0, 0⟩])
  .ret)))))))
def r34 : List ARes := [(.tmp 8)]
theorem ok34 : FnOk Try.prog 34 c34 r34 :=
  ⟨Try.f34, _, Try.func34, by kernel_rfl, rfl, by kernel_rfl, by kernel_rfl⟩
/-- (*rill/rillref16.Table).Pend -/
def c35 : ACode :=
  (.seq
  (.ops [0, 1] [
    ⟨(.some 4), .mv, [(.c (.int .i64 0))], none, 0, 0⟩])
  (.seq
  (.seq
  (.ops [0, 1, 8] [
    ⟨(.some 5), .mv, [(.t 0)], none, 0, 0⟩,
    ⟨(.some 6), .mv, [(.t 1)], none, 0, 0⟩,
    ⟨(.some 7), (.call 38), [(.t 5), (.t 6)], none, 0, 0⟩,
    ⟨(.some 8), .not, [(.t 7)], none, 0, 0⟩])
  (.cond (.t 8)
    (.seq
    (.ops [4] [
      ⟨(.some 4), .mv, [(.c (.int .i64 7))], none, 0, 0⟩])
    .ret)
    .skip))
  (.seq
  (.seq
  (.ops [0, 1, 28] [
    ⟨(.some 9), .mv, [(.t 0)], none, 0, 0⟩,
    ⟨(.some 10), .nilCheck, [(.t 9)], none, 0, 0⟩,
    ⟨(.some 11), (.fieldAddr 0), [(.t 10)], none, 0, 0⟩,
    ⟨(.some 12), (.load false 1), [(.t 11)], none, 0, 0⟩,
    ⟨(.some 13), .mv, [(.t 1)], none, 0, 0⟩,
    ⟨(.some 14), (.idxAddr 3), [(.t 12), (.t 13)], none, 0, 0⟩,
    ⟨(.some 15), (.fieldAddr 0), [(.t 14)], none, 0, 0⟩,
    ⟨(.some 16), (.load false 1), [(.t 15)], none, 0, 0⟩,
    ⟨(.some 17), (.eq false .int), [(.t 16), (.c (.int .i64 2))], none, 0, 0⟩,
    ⟨(.some 18), .mv, [(.t 17)], none, 0, 0⟩,
    ⟨(.some 19), .mv, [(.t 0)], (.some (18, true)), 0, 0⟩,
    ⟨(.some 20), .nilCheck, [(.t 19)], (.some (18, true)), 0, 0⟩,
    ⟨(.some 21), (.fieldAddr 0), [(.t 20)], (.some (18, true)), 0, 0⟩,
    ⟨(.some 22), (.load false 1), [(.t 21)], (.some (18, true)), 0, 0⟩,
    ⟨(.some 23), .mv, [(.t 1)], (.some (18, true)), 0, 0⟩,
    ⟨(.some 24), (.idxAddr 3), [(.t 22), (.t 23)], (.some (18, true)), 0, 0⟩,
    ⟨(.some 25), (.fieldAddr 1), [(.t 24)], (.some (18, true)), 0, 0⟩,
    ⟨(.some 26), (.load false 1), [(.t 25)], (.some (18, true)), 0, 0⟩,
    ⟨(.some 27), (.eq false .int), [(.t 26), (.c (.int .i64 0))], (.some (18, true)), 0, 0⟩,
    ⟨(.some 28), .pick, [(.t 18), (.t 27), (.c (.bool false))], none, 0, 0⟩])
  (.cond (.t 28)
    (.seq
    (.ops [] [
      ⟨(.some 29), .mv, [(.t 0)], none, 0, 0⟩,
      ⟨(.some 30), .nilCheck, [(.t 29)], none, 0, 0⟩,
      ⟨(.some 31), (.fieldAddr 0), [(.t 30)], none, 0, 0⟩,
      ⟨(.some 32), (.load false 1), [(.t 31)], none, 0, 0⟩,
      ⟨(.some 33), .mv, [(.t 1)], none, 0, 0⟩,
      ⟨(.some 34), (.idxAddr 3), [(.t 32), (.t 33)], none, 0, 0⟩,
      ⟨(.some 35), (.fieldAddr 0), [(.t 34)], none, 0, 0⟩,
      ⟨none, (.store 1), [(.t 35), (.c (.int .i64 3))], none, 0, 0⟩])
    (.seq
    (.ops [4] [
      ⟨(.some 4), .mv, [(.c (.int .i64 0))], none, 0, 0⟩])
    .ret))
    .skip))
  (.seq
  (.ops [4] [
    ⟨(.some 4), .mv, [(.c (.int .i64 16))], none, 0, 0⟩])
  .ret))))
def r35 : List ARes := [(.tmp 4)]
theorem ok35 : FnOk Try.prog 35 c35 r35 :=
  ⟨Try.f35, _, Try.func35, by kernel_rfl, rfl, by kernel_rfl, by kernel_rfl⟩
/-- (*rill/rillref16.Table).Release -/
def c36 : ACode :=
  (.seq
  (.ops [0] [
    ⟨(.some 2), .mv, [(.c (.int .i64 0))], none, 0, 0⟩])
  (.seq
  (.ops [0, 3] [
    ⟨(.some 3), .mv, [(.c (.int .i64 0))], none, 0, 0⟩])
  (.seq
  (.seq
  (.ops [0, 3, 4] [
    ⟨(.some 4), .mv, [(.c (.int .i64 0))], none, 0, 0⟩])
  (.block 0
    (.loop [0, 3, 4]
      (.seq
      (.seq
      (.ops [0, 3, 4, 11] [
        ⟨(.some 5), .mv, [(.t 4)], none, 0, 0⟩,
        ⟨(.some 6), .mv, [(.t 0)], none, 0, 0⟩,
        ⟨(.some 7), .nilCheck, [(.t 6)], none, 0, 0⟩,
        ⟨(.some 8), (.fieldAddr 0), [(.t 7)], none, 0, 0⟩,
        ⟨(.some 9), (.load false 1), [(.t 8)], none, 0, 0⟩,
        ⟨(.some 10), .len, [(.t 9)], none, 0, 0⟩,
        ⟨(.some 11), (.cmp .lss), [(.t 5), (.t 10)], none, 0, 0⟩])
      (.cond (.t 11)
        .skip
        (.exit 0)))
      (.seq
      (.block 1
        (.seq
        (.ops [0, 3, 4, 22] [
          ⟨(.some 14), .mv, [(.t 0)], none, 0, 0⟩,
          ⟨(.some 15), .nilCheck, [(.t 14)], none, 0, 0⟩,
          ⟨(.some 16), (.fieldAddr 0), [(.t 15)], none, 0, 0⟩,
          ⟨(.some 17), (.load false 1), [(.t 16)], none, 0, 0⟩,
          ⟨(.some 18), .mv, [(.t 4)], none, 0, 0⟩,
          ⟨(.some 19), (.idxAddr 3), [(.t 17), (.t 18)], none, 0, 0⟩,
          ⟨(.some 20), (.fieldAddr 0), [(.t 19)], none, 0, 0⟩,
          ⟨(.some 21), (.load false 1), [(.t 20)], none, 0, 0⟩,
          ⟨(.some 22), (.eq false .int), [(.t 21), (.c (.int .i64 3))], none, 0, 0⟩])
        (.cond (.t 22)
          (.seq
          (.ops [0, 3, 4] [
            ⟨(.some 23), .mv, [(.t 0)], none, 0, 0⟩,
            ⟨(.some 24), .nilCheck, [(.t 23)], none, 0, 0⟩,
            ⟨(.some 25), (.fieldAddr 0), [(.t 24)], none, 0, 0⟩,
            ⟨(.some 26), (.load false 1), [(.t 25)], none, 0, 0⟩,
            ⟨(.some 27), .mv, [(.t 4)], none, 0, 0⟩,
            ⟨(.some 28), (.build [(.int .i64 0), (.int .i64 0), (.int .i64 0)] []), [], none, 0, 0⟩,
            ⟨(.some 29), (.idxAddr 3), [(.t 26), (.t 27)], none, 0, 0⟩,
            ⟨none, (.store 3), [(.t 29), (.t 28)], none, 0, 0⟩])
          (.ops [0, 3, 4] [
            ⟨(.some 30), .mv, [(.t 3)], none, 0, 0⟩,
            ⟨(.some 31), (.arith .add), [(.t 30), (.c (.int .i64 1))], none, 0, 0⟩,
            ⟨(.some 3), .mv, [(.t 31)], none, 0, 0⟩]))
          .skip)))
      (.ops [0, 3, 4] [
        ⟨(.some 12), .mv, [(.t 4)], none, 0, 0⟩,
        ⟨(.some 13), (.arith .add), [(.t 12), (.c (.int .i64 1))], none, 0, 0⟩,
        ⟨(.some 4), .mv, [(.t 13)], none, 0, 0⟩]))))))
  (.seq
  (.ops [2] [
    ⟨(.some 32), .mv, [(.t 3)], none, 0, 0⟩,
    ⟨(.some 2), .mv, [(.t 32)], none, 0, 0⟩])
  .ret))))
def r36 : List ARes := [(.tmp 2)]
theorem ok36 : FnOk Try.prog 36 c36 r36 :=
  ⟨Try.f36, _, Try.func36, by kernel_rfl, rfl, by kernel_rfl, by kernel_rfl⟩
/-- rill/rillkit.CopySegs -/
def c37 : ACode :=
  (.seq
  (.ops [0] [
    ⟨(.some 2), .mv, [(.c .nils)], none, 0, 0⟩])
  (.seq
  (.ops [0, 3] [
    ⟨(.some 3), .mv, [(.c .nils)], none, 0, 0⟩])
  (.seq
  (.seq
  (.ops [0, 3, 4] [
    ⟨(.some 4), .mv, [(.c (.int .i64 0))], none, 0, 0⟩])
  (.block 0
    (.loop [0, 3, 4]
      (.seq
      (.seq
      (.ops [0, 3, 4, 8] [
        ⟨(.some 5), .mv, [(.t 4)], none, 0, 0⟩,
        ⟨(.some 6), .mv, [(.t 0)], none, 0, 0⟩,
        ⟨(.some 7), .len, [(.t 6)], none, 0, 0⟩,
        ⟨(.some 8), (.cmp .lss), [(.t 5), (.t 7)], none, 0, 0⟩])
      (.cond (.t 8)
        .skip
        (.exit 0)))
      (.seq
      (.block 1
        (.ops [0, 3, 4] [
          ⟨(.some 11), .mv, [(.t 3)], none, 0, 0⟩,
          ⟨(.some 12), .mv, [(.t 0)], none, 0, 0⟩,
          ⟨(.some 13), .mv, [(.t 4)], none, 0, 0⟩,
          ⟨(.some 14), (.idxAddr 3), [(.t 12), (.t 13)], none, 0, 0⟩,
          ⟨(.some 15), (.load true 3), [(.t 14)], none, 0, 0⟩,
          ⟨(.some 16), (.mkSl 1 [(.int .i64 0), (.int .i64 0), (.int .i64 0)] [(0, 3)]), [(.t 15)], none, 0, 0⟩,
          ⟨(.some 17), (.append 3 24), [(.t 11), (.t 16)], none, 0, 0⟩,
          ⟨(.some 3), .mv, [(.t 17)], none, 0, 0⟩]))
      (.ops [0, 3, 4] [
        ⟨(.some 9), .mv, [(.t 4)], none, 0, 0⟩,
        ⟨(.some 10), (.arith .add), [(.t 9), (.c (.int .i64 1))], none, 0, 0⟩,
        ⟨(.some 4), .mv, [(.t 10)], none, 0, 0⟩]))))))
  (.seq
  (.ops [2] [
    ⟨(.some 18), .mv, [(.t 3)], none, 0, 0⟩,
    ⟨(.some 2), .mv, [(.t 18)], none, 0, 0⟩])
  .ret))))
def r37 : List ARes := [(.tmp 2)]
theorem ok37 : FnOk Try.prog 37 c37 r37 :=
  ⟨Try.f37, _, Try.func37, by kernel_rfl, rfl, by kernel_rfl, by kernel_rfl⟩
/-- (*rill/rillref16.Table).there -/
def c38 : ACode :=
  (.seq
  (.ops [0, 1] [
    ⟨(.some 4), .mv, [(.c (.bool false))], none, 0, 0⟩])
  (.seq
  (.ops [4] [
    ⟨(.some 5), .mv, [(.t 1)], none, 0, 0⟩,
    ⟨(.some 6), (.cmp .geq), [(.t 5), (.c (.int .i64 0))], none, 0, 0⟩,
    ⟨(.some 7), .mv, [(.t 6)], none, 0, 0⟩,
    ⟨(.some 8), .mv, [(.t 1)], (.some (7, true)), 0, 0⟩,
    ⟨(.some 9), .mv, [(.t 0)], (.some (7, true)), 0, 0⟩,
    ⟨(.some 10), .nilCheck, [(.t 9)], (.some (7, true)), 0, 0⟩,
    ⟨(.some 11), (.fieldAddr 0), [(.t 10)], (.some (7, true)), 0, 0⟩,
    ⟨(.some 12), (.load false 1), [(.t 11)], (.some (7, true)), 0, 0⟩,
    ⟨(.some 13), .len, [(.t 12)], (.some (7, true)), 0, 0⟩,
    ⟨(.some 14), (.cmp .lss), [(.t 8), (.t 13)], (.some (7, true)), 0, 0⟩,
    ⟨(.some 15), .pick, [(.t 7), (.t 14), (.c (.bool false))], none, 0, 0⟩,
    ⟨(.some 4), .mv, [(.t 15)], none, 0, 0⟩])
  .ret))
def r38 : List ARes := [(.tmp 4)]
theorem ok38 : FnOk Try.prog 38 c38 r38 :=
  ⟨Try.f38, _, Try.func38, by kernel_rfl, rfl, by kernel_rfl, by kernel_rfl⟩
/-- rill/rillref16.now -/
def c39 : ACode :=
  (.seq
  (.ops [0] [
    ⟨(.some 2), .mv, [(.c (.int .i64 0))], none, 0, 0⟩])
  (.seq
  (.seq
  (.ops [0, 4] [
    ⟨(.some 3), .mv, [(.t 0)], none, 0, 0⟩,
    ⟨(.some 4), (.cmp .lss), [(.t 3), (.c (.int .i64 0))], none, 0, 0⟩])
  (.cond (.t 4)
    (.seq
    (.ops [2] [
      ⟨(.some 2), .mv, [(.c (.int .i64 0))], none, 0, 0⟩])
    .ret)
    .skip))
  (.seq
  (.seq
  (.ops [0, 6] [
    ⟨(.some 5), .mv, [(.t 0)], none, 0, 0⟩,
    ⟨(.some 6), (.cmp .gtr), [(.t 5), (.c (.int .i64 1099511627776))], none, 0, 0⟩])
  (.cond (.t 6)
    (.seq
    (.ops [2] [
      ⟨(.some 2), .mv, [(.c (.int .i64 1099511627776))], none, 0, 0⟩])
    .ret)
    .skip))
  (.seq
  (.ops [2] [
    ⟨(.some 7), .mv, [(.t 0)], none, 0, 0⟩,
    ⟨(.some 2), .mv, [(.t 7)], none, 0, 0⟩])
  .ret))))
def r39 : List ARes := [(.tmp 2)]
theorem ok39 : FnOk Try.prog 39 c39 r39 :=
  ⟨Try.f39, _, Try.func39, by kernel_rfl, rfl, by kernel_rfl, by kernel_rfl⟩
end Go.Proofs.Ytbbjimdpkcgonab
