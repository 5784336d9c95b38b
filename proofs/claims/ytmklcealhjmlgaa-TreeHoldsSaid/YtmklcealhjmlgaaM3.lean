/- Texts of this seat, joined (part 3 of 6): an abstract memory for Go programs, this seat's functions as abstract code, and what each of them does. -/
import Derived.Test.YtmklcealhjmlgaaProg
import Derived.KernelRfl
import Derived.Test.YtmklcealhjmlgaaM2
set_option linter.unusedSimpArgs false
section
/- The abstract code of the functions, printed by a program of this session (gencode.py), and checked against the loaded program. -/
namespace Go.Proofs.Ytmklcealhjmlgaa
open Go.Adm
theorem mixed : Try.prog.follows .mixedOrders = true := by kernel_rfl
/-- rill/rilllaw18.TreeAccounts -/
def c3 : ACode :=
  (.seq
  (.ops [0] [
    ⟨(.some 2), .mv, [(.c (.bool false))], none, 0, 0⟩])
  (.seq
  (.seq
  (.ops [0, 14] [
    ⟨(.some 12), .mv, [(.t 0)], none, 0, 0⟩,
    ⟨(.some 13), .len, [(.t 12)], none, 0, 0⟩,
    ⟨(.some 14), (.cmp .gtr), [(.t 13), (.c (.int .i64 200))], none, 0, 0⟩])
  (.cond (.t 14)
    (.seq
    (.ops [2] [
      ⟨(.some 15), (.call 9), [], none, 0, 0⟩,
      ⟨(.some 2), .mv, [(.t 15)], none, 0, 0⟩])
    .ret)
    .skip))
  (.seq
  (.ops [0, 3] [
    ⟨(.some 16), (.call 10), [], none, 0, 0⟩,
    ⟨(.some 3), .mv, [(.t 16)], none, 0, 0⟩])
  (.seq
  (.seq
  (.ops [0, 3, 4] [
    ⟨(.some 4), .mv, [(.c (.int .i64 0))], none, 0, 0⟩])
  (.block 0
    (.loop [0, 3, 4]
      (.seq
      (.seq
      (.ops [0, 3, 4, 20] [
        ⟨(.some 17), .mv, [(.t 4)], none, 0, 0⟩,
        ⟨(.some 18), .mv, [(.t 0)], none, 0, 0⟩,
        ⟨(.some 19), .len, [(.t 18)], none, 0, 0⟩,
        ⟨(.some 20), (.cmp .lss), [(.t 17), (.t 19)], none, 0, 0⟩])
      (.cond (.t 20)
        .skip
        (.exit 0)))
      (.seq
      (.block 1
        (.seq
        (.ops [0, 3, 4, 5] [
          ⟨(.some 23), .mv, [(.t 3)], none, 0, 0⟩,
          ⟨(.some 24), (.call 11), [(.t 23)], none, 0, 0⟩,
          ⟨(.some 5), .mv, [(.t 24)], none, 0, 0⟩])
        (.seq
        (.ops [0, 3, 4, 5, 6, 7] [
          ⟨(.some 26), .mv, [(.t 3)], none, 0, 0⟩,
          ⟨(.some 27), .mv, [(.t 0)], none, 0, 0⟩,
          ⟨(.some 28), .mv, [(.t 4)], none, 0, 0⟩,
          ⟨(.some 29), (.idxAddr 299), [(.t 27), (.t 28)], none, 0, 0⟩,
          ⟨(.some 30), (.load true 299), [(.t 29)], none, 0, 0⟩,
          ⟨(.some 31), (.call 12), [(.t 26), (.t 30)], none, 0, 0⟩,
          ⟨(.some 25), .mv, [(.t 31)], none, 0, 0⟩,
          ⟨(.some 32), (.extract 0), [(.t 25)], none, 0, 0⟩,
          ⟨(.some 33), (.extract 1), [(.t 25)], none, 0, 0⟩,
          ⟨(.some 6), .mv, [(.t 32)], none, 0, 0⟩,
          ⟨(.some 7), .mv, [(.t 33)], none, 0, 0⟩])
        (.seq
        (.ops [0, 3, 4, 5, 6, 7, 8] [
          ⟨(.some 34), .mv, [(.t 3)], none, 0, 0⟩,
          ⟨(.some 35), (.call 11), [(.t 34)], none, 0, 0⟩,
          ⟨(.some 8), .mv, [(.t 35)], none, 0, 0⟩])
        (.seq
        (.seq
        (.ops [0, 3, 4, 5, 6, 7, 8, 46] [
          ⟨(.some 36), .mv, [(.t 8)], none, 0, 0⟩,
          ⟨(.some 37), .len, [(.t 36)], none, 0, 0⟩,
          ⟨(.some 38), .mv, [(.t 6)], none, 0, 0⟩,
          ⟨(.some 39), .len, [(.t 38)], none, 0, 0⟩,
          ⟨(.some 40), (.arith .add), [(.t 37), (.t 39)], none, 0, 0⟩,
          ⟨(.some 41), .mv, [(.t 5)], none, 0, 0⟩,
          ⟨(.some 42), .len, [(.t 41)], none, 0, 0⟩,
          ⟨(.some 43), .mv, [(.t 7)], none, 0, 0⟩,
          ⟨(.some 44), .len, [(.t 43)], none, 0, 0⟩,
          ⟨(.some 45), (.arith .add), [(.t 42), (.t 44)], none, 0, 0⟩,
          ⟨(.some 46), (.eq true .int), [(.t 40), (.t 45)], none, 0, 0⟩])
        (.cond (.t 46)
          (.seq
          (.ops [2] [
            ⟨(.some 2), .mv, [(.c (.bool false))], none, 0, 0⟩])
          .ret)
          .skip))
        (.seq
        (.seq
        (.ops [0, 3, 4, 5, 6, 7, 8, 9] [
          ⟨(.some 9), .mv, [(.c (.int .i64 0))], none, 0, 0⟩])
        (.block 2
          (.loop [0, 3, 4, 5, 6, 7, 8, 9]
            (.seq
            (.seq
            (.ops [0, 3, 4, 5, 6, 7, 8, 9, 50] [
              ⟨(.some 47), .mv, [(.t 9)], none, 0, 0⟩,
              ⟨(.some 48), .mv, [(.t 5)], none, 0, 0⟩,
              ⟨(.some 49), .len, [(.t 48)], none, 0, 0⟩,
              ⟨(.some 50), (.cmp .lss), [(.t 47), (.t 49)], none, 0, 0⟩])
            (.cond (.t 50)
              .skip
              (.exit 2)))
            (.seq
            (.block 3
              (.seq
              (.drawn [0, 3, 4, 5, 6, 7, 8, 9, 79] [
                ⟨(.some 53), .mv, [(.t 8)], none, 0, 0⟩,
                ⟨(.some 54), .mv, [(.t 5)], none, 0, 0⟩,
                ⟨(.some 55), .mv, [(.t 9)], none, 0, 0⟩,
                ⟨(.some 56), (.idxAddr 33), [(.t 54), (.t 55)], none, 0, 0⟩,
                ⟨(.some 57), (.load true 33), [(.t 56)], none, 0, 0⟩,
                ⟨(.some 58), (.call 13), [(.t 53), (.t 57)], none, 0, 1⟩,
                ⟨(.some 59), .mv, [(.t 6)], none, 0, 1⟩,
                ⟨(.some 60), .mv, [(.t 5)], none, 0, 1⟩,
                ⟨(.some 61), .mv, [(.t 9)], none, 0, 1⟩,
                ⟨(.some 62), (.idxAddr 33), [(.t 60), (.t 61)], none, 0, 1⟩,
                ⟨(.some 63), (.load true 33), [(.t 62)], none, 0, 1⟩,
                ⟨(.some 64), (.call 13), [(.t 59), (.t 63)], none, 1, 2⟩,
                ⟨(.some 65), (.arith .add), [(.t 58), (.t 64)], none, 2, 4⟩,
                ⟨(.some 66), .mv, [(.t 5)], none, 0, 2⟩,
                ⟨(.some 67), .mv, [(.t 5)], none, 0, 2⟩,
                ⟨(.some 68), .mv, [(.t 9)], none, 0, 2⟩,
                ⟨(.some 69), (.idxAddr 33), [(.t 67), (.t 68)], none, 0, 2⟩,
                ⟨(.some 70), (.load true 33), [(.t 69)], none, 0, 2⟩,
                ⟨(.some 71), (.call 13), [(.t 66), (.t 70)], none, 2, 3⟩,
                ⟨(.some 72), .mv, [(.t 7)], none, 0, 3⟩,
                ⟨(.some 73), .mv, [(.t 5)], none, 0, 3⟩,
                ⟨(.some 74), .mv, [(.t 9)], none, 0, 3⟩,
                ⟨(.some 75), (.idxAddr 33), [(.t 73), (.t 74)], none, 0, 3⟩,
                ⟨(.some 76), (.load true 33), [(.t 75)], none, 0, 3⟩,
                ⟨(.some 77), (.call 13), [(.t 72), (.t 76)], none, 3, 4⟩,
                ⟨(.some 78), (.arith .add), [(.t 71), (.t 77)], none, 4, 4⟩,
                ⟨(.some 79), (.eq true .int), [(.t 65), (.t 78)], none, 4, 4⟩])
              (.cond (.t 79)
                (.seq
                (.ops [2] [
                  ⟨(.some 2), .mv, [(.c (.bool false))], none, 0, 0⟩])
                .ret)
                .skip)))
            (.ops [0, 3, 4, 5, 6, 7, 8, 9] [
              ⟨(.some 51), .mv, [(.t 9)], none, 0, 0⟩,
              ⟨(.some 52), (.arith .add), [(.t 51), (.c (.int .i64 1))], none, 0, 0⟩,
              ⟨(.some 9), .mv, [(.t 52)], none, 0, 0⟩]))))))
        (.seq
        (.seq
        (.ops [0, 3, 4, 5, 6, 7, 8, 10] [
          ⟨(.some 10), .mv, [(.c (.int .i64 0))], none, 0, 0⟩])
        (.block 4
          (.loop [0, 3, 4, 5, 6, 7, 8, 10]
            (.seq
            (.seq
            (.ops [0, 3, 4, 5, 6, 7, 8, 10, 83] [
              ⟨(.some 80), .mv, [(.t 10)], none, 0, 0⟩,
              ⟨(.some 81), .mv, [(.t 8)], none, 0, 0⟩,
              ⟨(.some 82), .len, [(.t 81)], none, 0, 0⟩,
              ⟨(.some 83), (.cmp .lss), [(.t 80), (.t 82)], none, 0, 0⟩])
            (.cond (.t 83)
              .skip
              (.exit 4)))
            (.seq
            (.block 5
              (.seq
              (.drawn [0, 3, 4, 5, 6, 7, 8, 10, 120] [
                ⟨(.some 86), .mv, [(.t 8)], none, 0, 0⟩,
                ⟨(.some 87), .mv, [(.t 10)], none, 0, 0⟩,
                ⟨(.some 88), (.idxAddr 33), [(.t 86), (.t 87)], none, 0, 0⟩,
                ⟨(.some 89), (.fieldAddr 0), [(.t 88)], none, 0, 0⟩,
                ⟨(.some 90), (.load false 1), [(.t 89)], none, 0, 0⟩,
                ⟨(.some 91), (.cmp .lss), [(.t 90), (.c (.int .i64 1))], none, 0, 0⟩,
                ⟨(.some 92), .mv, [(.t 91)], none, 0, 0⟩,
                ⟨(.some 93), .mv, [(.t 8)], (.some (92, false)), 0, 0⟩,
                ⟨(.some 94), .mv, [(.t 8)], (.some (92, false)), 0, 0⟩,
                ⟨(.some 95), .mv, [(.t 10)], (.some (92, false)), 0, 0⟩,
                ⟨(.some 96), (.idxAddr 33), [(.t 94), (.t 95)], (.some (92, false)), 0, 0⟩,
                ⟨(.some 97), (.load true 33), [(.t 96)], (.some (92, false)), 0, 0⟩,
                ⟨(.some 98), (.call 13), [(.t 93), (.t 97)], (.some (92, false)), 0, 1⟩,
                ⟨(.some 99), .mv, [(.t 6)], (.some (92, false)), 0, 1⟩,
                ⟨(.some 100), .mv, [(.t 8)], (.some (92, false)), 0, 1⟩,
                ⟨(.some 101), .mv, [(.t 10)], (.some (92, false)), 0, 1⟩,
                ⟨(.some 102), (.idxAddr 33), [(.t 100), (.t 101)], (.some (92, false)), 0, 1⟩,
                ⟨(.some 103), (.load true 33), [(.t 102)], (.some (92, false)), 0, 1⟩,
                ⟨(.some 104), (.call 13), [(.t 99), (.t 103)], (.some (92, false)), 1, 2⟩,
                ⟨(.some 105), (.arith .add), [(.t 98), (.t 104)], (.some (92, false)), 2, 4⟩,
                ⟨(.some 106), .mv, [(.t 5)], (.some (92, false)), 0, 2⟩,
                ⟨(.some 107), .mv, [(.t 8)], (.some (92, false)), 0, 2⟩,
                ⟨(.some 108), .mv, [(.t 10)], (.some (92, false)), 0, 2⟩,
                ⟨(.some 109), (.idxAddr 33), [(.t 107), (.t 108)], (.some (92, false)), 0, 2⟩,
                ⟨(.some 110), (.load true 33), [(.t 109)], (.some (92, false)), 0, 2⟩,
                ⟨(.some 111), (.call 13), [(.t 106), (.t 110)], (.some (92, false)), 2, 3⟩,
                ⟨(.some 112), .mv, [(.t 7)], (.some (92, false)), 0, 3⟩,
                ⟨(.some 113), .mv, [(.t 8)], (.some (92, false)), 0, 3⟩,
                ⟨(.some 114), .mv, [(.t 10)], (.some (92, false)), 0, 3⟩,
                ⟨(.some 115), (.idxAddr 33), [(.t 113), (.t 114)], (.some (92, false)), 0, 3⟩,
                ⟨(.some 116), (.load true 33), [(.t 115)], (.some (92, false)), 0, 3⟩,
                ⟨(.some 117), (.call 13), [(.t 112), (.t 116)], (.some (92, false)), 3, 4⟩,
                ⟨(.some 118), (.arith .add), [(.t 111), (.t 117)], (.some (92, false)), 4, 4⟩,
                ⟨(.some 119), (.eq true .int), [(.t 105), (.t 118)], (.some (92, false)), 4, 4⟩,
                ⟨(.some 120), .pick, [(.t 92), (.c (.bool true)), (.t 119)], none, 4, 4⟩])
              (.cond (.t 120)
                (.seq
                (.ops [2] [
                  ⟨(.some 2), .mv, [(.c (.bool false))], none, 0, 0⟩])
                .ret)
                .skip)))
            (.ops [0, 3, 4, 5, 6, 7, 8, 10] [
              ⟨(.some 84), .mv, [(.t 10)], none, 0, 0⟩,
              ⟨(.some 85), (.arith .add), [(.t 84), (.c (.int .i64 1))], none, 0, 0⟩,
              ⟨(.some 10), .mv, [(.t 85)], none, 0, 0⟩]))))))
        (.seq
        (.ops [0, 3, 4, 6, 11] [
          ⟨(.some 11), .mv, [(.c (.int .i64 0))], none, 0, 0⟩])
        (.block 6
          (.loop [0, 3, 4, 6, 11]
            (.seq
            (.seq
            (.ops [0, 3, 4, 6, 11, 124] [
              ⟨(.some 121), .mv, [(.t 11)], none, 0, 0⟩,
              ⟨(.some 122), .mv, [(.t 6)], none, 0, 0⟩,
              ⟨(.some 123), .len, [(.t 122)], none, 0, 0⟩,
              ⟨(.some 124), (.cmp .lss), [(.t 121), (.t 123)], none, 0, 0⟩])
            (.cond (.t 124)
              .skip
              (.exit 6)))
            (.seq
            (.block 7
              (.seq
              (.ops [0, 3, 4, 6, 11, 132] [
                ⟨(.some 127), .mv, [(.t 6)], none, 0, 0⟩,
                ⟨(.some 128), .mv, [(.t 11)], none, 0, 0⟩,
                ⟨(.some 129), (.idxAddr 33), [(.t 127), (.t 128)], none, 0, 0⟩,
                ⟨(.some 130), (.fieldAddr 0), [(.t 129)], none, 0, 0⟩,
                ⟨(.some 131), (.load false 1), [(.t 130)], none, 0, 0⟩,
                ⟨(.some 132), (.cmp .lss), [(.t 131), (.c (.int .i64 1))], none, 0, 0⟩])
              (.cond (.t 132)
                (.seq
                (.ops [2] [
                  ⟨(.some 2), .mv, [(.c (.bool false))], none, 0, 0⟩])
                .ret)
                .skip)))
            (.ops [0, 3, 4, 6, 11] [
              ⟨(.some 125), .mv, [(.t 11)], none, 0, 0⟩,
              ⟨(.some 126), (.arith .add), [(.t 125), (.c (.int .i64 1))], none, 0, 0⟩,
              ⟨(.some 11), .mv, [(.t 126)], none, 0, 0⟩])))))))))))))
      (.ops [0, 3, 4] [
        ⟨(.some 21), .mv, [(.t 4)], none, 0, 0⟩,
        ⟨(.some 22), (.arith .add), [(.t 21), (.c (.int .i64 1))], none, 0, 0⟩,
        ⟨(.some 4), .mv, [(.t 22)], none, 0, 0⟩]))))))
  (.seq
  (.ops [2] [
    ⟨(.some 133), (.call 9), [], none, 0, 0⟩,
    ⟨(.some 2), .mv, [(.t 133)], none, 0, 0⟩])
  .ret)))))
def r3 : List ARes := [(.tmp 2)]
theorem ok3 : FnOk Try.prog 3 c3 r3 :=
  ⟨Try.f3, _, Try.func3, by kernel_rfl, rfl, by kernel_rfl, by kernel_rfl⟩
/-- rill/rilllaw18.TreeHolds -/
def c4 : ACode :=
  (.seq
  (.ops [0] [
    ⟨(.some 2), .mv, [(.c (.bool false))], none, 0, 0⟩])
  (.seq
  (.seq
  (.ops [0, 13] [
    ⟨(.some 11), .mv, [(.t 0)], none, 0, 0⟩,
    ⟨(.some 12), .len, [(.t 11)], none, 0, 0⟩,
    ⟨(.some 13), (.cmp .gtr), [(.t 12), (.c (.int .i64 200))], none, 0, 0⟩])
  (.cond (.t 13)
    (.seq
    (.ops [2] [
      ⟨(.some 14), (.call 9), [], none, 0, 0⟩,
      ⟨(.some 2), .mv, [(.t 14)], none, 0, 0⟩])
    .ret)
    .skip))
  (.seq
  (.ops [0, 3] [
    ⟨(.some 15), (.call 10), [], none, 0, 0⟩,
    ⟨(.some 3), .mv, [(.t 15)], none, 0, 0⟩])
  (.seq
  (.ops [0, 3, 4] [
    ⟨(.some 16), (.mkSlice ([(.int .i64 0)] ++ (List.replicate 32 (.int .u8 0))) 40), [(.c (.int .i64 64)), (.c (.int .i64 64))], none, 0, 0⟩,
    ⟨(.some 4), .mv, [(.t 16)], none, 0, 0⟩])
  (.seq
  (.seq
  (.ops [0, 3, 4, 5] [
    ⟨(.some 5), .mv, [(.c (.int .i64 0))], none, 0, 0⟩])
  (.block 0
    (.loop [0, 3, 4, 5]
      (.seq
      (.seq
      (.ops [0, 3, 4, 5, 20] [
        ⟨(.some 17), .mv, [(.t 5)], none, 0, 0⟩,
        ⟨(.some 18), .mv, [(.t 0)], none, 0, 0⟩,
        ⟨(.some 19), .len, [(.t 18)], none, 0, 0⟩,
        ⟨(.some 20), (.cmp .lss), [(.t 17), (.t 19)], none, 0, 0⟩])
      (.cond (.t 20)
        .skip
        (.exit 0)))
      (.seq
      (.block 1
        (.seq
        (.ops [0, 3, 4, 5, 6] [
          ⟨(.some 23), .mv, [(.t 0)], none, 0, 0⟩,
          ⟨(.some 24), .mv, [(.t 5)], none, 0, 0⟩,
          ⟨(.some 25), (.idxAddr 299), [(.t 23), (.t 24)], none, 0, 0⟩,
          ⟨(.some 26), (.load true 299), [(.t 25)], none, 0, 0⟩,
          ⟨(.some 6), (.alloc ([(.int .i64 0), (.int .i64 0)] ++ (rep 9 ([(.int .i64 0)] ++ (List.replicate 32 (.int .u8 0)))))), [], none, 0, 0⟩,
          ⟨none, (.store 299), [(.t 6), (.t 26)], none, 0, 0⟩])
        (.seq
        (.ops [0, 3, 4, 5, 6] [
          ⟨(.some 27), .mv, [(.t 3)], none, 0, 0⟩,
          ⟨(.some 28), (.load true 299), [(.t 6)], none, 0, 0⟩,
          ⟨(.some 29), (.call 12), [(.t 27), (.t 28)], none, 0, 0⟩])
        (.seq
        (.seq
        (.ops [0, 3, 4, 5, 6, 47] [
          ⟨(.some 30), (.fieldAddr 0), [(.t 6)], none, 0, 0⟩,
          ⟨(.some 31), (.load false 1), [(.t 30)], none, 0, 0⟩,
          ⟨(.some 32), (.cmp .leq), [(.t 31), (.c (.int .i64 1))], none, 0, 0⟩,
          ⟨(.some 33), .mv, [(.t 32)], none, 0, 0⟩,
          ⟨(.some 34), (.fieldAddr 0), [(.t 6)], (.some (33, true)), 0, 0⟩,
          ⟨(.some 35), (.load false 1), [(.t 34)], (.some (33, true)), 0, 0⟩,
          ⟨(.some 36), (.cmp .geq), [(.t 35), (.c (.int .i64 0))], (.some (33, true)), 0, 0⟩,
          ⟨(.some 37), .pick, [(.t 33), (.t 36), (.c (.bool false))], none, 0, 0⟩,
          ⟨(.some 38), .mv, [(.t 37)], none, 0, 0⟩,
          ⟨(.some 39), (.fieldAddr 1), [(.t 6)], (.some (38, true)), 0, 0⟩,
          ⟨(.some 40), (.load false 1), [(.t 39)], (.some (38, true)), 0, 0⟩,
          ⟨(.some 41), (.cmp .geq), [(.t 40), (.c (.int .i64 0))], (.some (38, true)), 0, 0⟩,
          ⟨(.some 42), .pick, [(.t 38), (.t 41), (.c (.bool false))], none, 0, 0⟩,
          ⟨(.some 43), .mv, [(.t 42)], none, 0, 0⟩,
          ⟨(.some 44), (.fieldAddr 1), [(.t 6)], (.some (43, true)), 0, 0⟩,
          ⟨(.some 45), (.load false 1), [(.t 44)], (.some (43, true)), 0, 0⟩,
          ⟨(.some 46), (.cmp .lss), [(.t 45), (.c (.int .i64 64))], (.some (43, true)), 0, 0⟩,
          ⟨(.some 47), .pick, [(.t 43), (.t 46), (.c (.bool false))], none, 0, 0⟩])
        (.cond (.t 47)
          (.seq
          (.ops [0, 3, 4, 5, 6, 50] [
            ⟨(.some 48), (.fieldAddr 0), [(.t 6)], none, 0, 0⟩,
            ⟨(.some 49), (.load false 1), [(.t 48)], none, 0, 0⟩,
            ⟨(.some 50), (.eq false .int), [(.t 49), (.c (.int .i64 1))], none, 0, 0⟩])
          (.cond (.t 50)
            (.ops [0, 3, 4, 5] [
              ⟨(.some 51), .mv, [(.t 4)], none, 0, 0⟩,
              ⟨(.some 52), (.fieldAddr 1), [(.t 6)], none, 0, 0⟩,
              ⟨(.some 53), (.load false 1), [(.t 52)], none, 0, 0⟩,
              ⟨(.some 54), (.build ([(.int .i64 0)] ++ (List.replicate 32 (.int .u8 0))) []), [], none, 0, 0⟩,
              ⟨(.some 55), (.idxAddr 33), [(.t 51), (.t 53)], none, 0, 0⟩,
              ⟨none, (.store 33), [(.t 55), (.t 54)], none, 0, 0⟩])
            (.seq
            (.ops [0, 3, 4, 5, 6, 59] [
              ⟨(.some 56), (.fieldAddr 2), [(.t 6)], none, 0, 0⟩,
              ⟨(.some 57), (.fieldAddr 0), [(.t 56)], none, 0, 0⟩,
              ⟨(.some 58), (.load false 1), [(.t 57)], none, 0, 0⟩,
              ⟨(.some 59), (.cmp .gtr), [(.t 58), (.c (.int .i64 0))], none, 0, 0⟩])
            (.cond (.t 59)
              (.ops [0, 3, 4, 5] [
                ⟨(.some 60), .mv, [(.t 4)], none, 0, 0⟩,
                ⟨(.some 61), (.fieldAddr 1), [(.t 6)], none, 0, 0⟩,
                ⟨(.some 62), (.load false 1), [(.t 61)], none, 0, 0⟩,
                ⟨(.some 63), (.fieldAddr 2), [(.t 6)], none, 0, 0⟩,
                ⟨(.some 64), (.load true 33), [(.t 63)], none, 0, 0⟩,
                ⟨(.some 65), (.idxAddr 33), [(.t 60), (.t 62)], none, 0, 0⟩,
                ⟨none, (.store 33), [(.t 65), (.t 64)], none, 0, 0⟩])
              .skip))))
          .skip))
        (.seq
        (.ops [0, 3, 4, 5, 7] [
          ⟨(.some 7), .mv, [(.c (.int .i64 0))], none, 0, 0⟩])
        (.seq
        (.seq
        (.ops [0, 3, 4, 5, 7, 8] [
          ⟨(.some 8), .mv, [(.c (.int .i64 0))], none, 0, 0⟩])
        (.block 2
          (.loop [0, 3, 4, 5, 7, 8]
            (.seq
            (.seq
            (.ops [0, 3, 4, 5, 7, 8, 67] [
              ⟨(.some 66), .mv, [(.t 8)], none, 0, 0⟩,
              ⟨(.some 67), (.cmp .lss), [(.t 66), (.c (.int .i64 64))], none, 0, 0⟩])
            (.cond (.t 67)
              .skip
              (.exit 2)))
            (.seq
            (.block 3
              (.seq
              (.ops [0, 3, 4, 5, 7, 8, 9, 10] [
                ⟨(.some 71), .mv, [(.t 3)], none, 0, 0⟩,
                ⟨(.some 72), .mv, [(.t 8)], none, 0, 0⟩,
                ⟨(.some 73), (.call 14), [(.t 71), (.t 72)], none, 0, 0⟩,
                ⟨(.some 70), .mv, [(.t 73)], none, 0, 0⟩,
                ⟨(.some 74), (.extract 0), [(.t 70)], none, 0, 0⟩,
                ⟨(.some 75), (.extract 1), [(.t 70)], none, 0, 0⟩,
                ⟨(.some 9), (.alloc ([(.int .i64 0)] ++ (List.replicate 32 (.int .u8 0)))), [], none, 0, 0⟩,
                ⟨none, (.store 33), [(.t 9), (.t 74)], none, 0, 0⟩,
                ⟨(.some 10), .mv, [(.t 75)], none, 0, 0⟩])
              (.seq
              (.seq
              (.drawn [0, 3, 4, 5, 7, 8, 10, 91] [
                ⟨(.some 76), (.load true 33), [(.t 9)], none, 0, 0⟩,
                ⟨(.some 77), .mv, [(.t 4)], none, 0, 0⟩,
                ⟨(.some 78), .mv, [(.t 8)], none, 0, 0⟩,
                ⟨(.some 79), (.idxAddr 33), [(.t 77), (.t 78)], none, 0, 0⟩,
                ⟨(.some 80), (.load true 33), [(.t 79)], none, 0, 0⟩,
                ⟨(.some 81), (.eqAgg true (List.replicate 33 .i)), [(.t 76), (.t 80)], none, 0, 0⟩,
                ⟨(.some 82), .mv, [(.t 81)], none, 0, 0⟩,
                ⟨(.some 83), .mv, [(.t 10)], (.some (82, false)), 0, 0⟩,
                ⟨(.some 84), .mv, [(.t 4)], (.some (82, false)), 0, 0⟩,
                ⟨(.some 85), .mv, [(.t 8)], (.some (82, false)), 0, 0⟩,
                ⟨(.some 86), (.idxAddr 33), [(.t 84), (.t 85)], (.some (82, false)), 0, 0⟩,
                ⟨(.some 87), (.fieldAddr 0), [(.t 86)], (.some (82, false)), 0, 0⟩,
                ⟨(.some 88), (.load false 1), [(.t 87)], (.some (82, false)), 0, 0⟩,
                ⟨(.some 89), (.cmp .gtr), [(.t 88), (.c (.int .i64 0))], (.some (82, false)), 0, 0⟩,
                ⟨(.some 90), (.eq true .bool), [(.t 83), (.t 89)], (.some (82, false)), 0, 0⟩,
                ⟨(.some 91), .pick, [(.t 82), (.c (.bool true)), (.t 90)], none, 0, 0⟩])
              (.cond (.t 91)
                (.seq
                (.ops [2] [
                  ⟨(.some 2), .mv, [(.c (.bool false))], none, 0, 0⟩])
                .ret)
                .skip))
              (.seq
              (.ops [0, 3, 4, 5, 7, 8, 92] [
                ⟨(.some 92), .mv, [(.t 10)], none, 0, 0⟩])
              (.cond (.t 92)
                (.ops [0, 3, 4, 5, 7, 8] [
                  ⟨(.some 93), .mv, [(.t 7)], none, 0, 0⟩,
                  ⟨(.some 94), (.arith .add), [(.t 93), (.c (.int .i64 1))], none, 0, 0⟩,
                  ⟨(.some 7), .mv, [(.t 94)], none, 0, 0⟩])
                .skip)))))
            (.ops [0, 3, 4, 5, 7, 8] [
              ⟨(.some 68), .mv, [(.t 8)], none, 0, 0⟩,
              ⟨(.some 69), (.arith .add), [(.t 68), (.c (.int .i64 1))], none, 0, 0⟩,
              ⟨(.some 8), .mv, [(.t 69)], none, 0, 0⟩]))))))
        (.seq
        (.ops [0, 3, 4, 5, 98] [
          ⟨(.some 95), .mv, [(.t 3)], none, 0, 0⟩,
          ⟨(.some 96), (.call 15), [(.t 95)], none, 0, 0⟩,
          ⟨(.some 97), .mv, [(.t 7)], none, 0, 0⟩,
          ⟨(.some 98), (.eq true .int), [(.t 96), (.t 97)], none, 0, 0⟩])
        (.cond (.t 98)
          (.seq
          (.ops [2] [
            ⟨(.some 2), .mv, [(.c (.bool false))], none, 0, 0⟩])
          .ret)
          .skip))))))))
      (.ops [0, 3, 4, 5] [
        ⟨(.some 21), .mv, [(.t 5)], none, 0, 0⟩,
        ⟨(.some 22), (.arith .add), [(.t 21), (.c (.int .i64 1))], none, 0, 0⟩,
        ⟨(.some 5), .mv, [(.t 22)], none, 0, 0⟩]))))))
  (.seq
  (.ops [2] [
    ⟨(.some 99), (.call 9), [], none, 0, 0⟩,
    ⟨(.some 2), .mv, [(.t 99)], none, 0, 0⟩])
  .ret))))))
def r4 : List ARes := [(.tmp 2)]
theorem ok4 : FnOk Try.prog 4 c4 r4 :=
  ⟨Try.f4, _, Try.func4, by kernel_rfl, rfl, by kernel_rfl, by kernel_rfl⟩
/-- rill/rilllaw18.TreeEither -/
def c5 : ACode :=
  (.seq
  (.ops [0, 1, 2, 8, 9] [
    ⟨(.some 8), .box, [(.t 3)], none, 0, 0⟩,
    ⟨(.some 9), .box, [(.t 4)], none, 0, 0⟩,
    ⟨(.some 10), .mv, [(.c (.bool false))], none, 0, 0⟩])
  (.seq
  (.seq
  (.ops [0, 1, 2, 8, 9, 28] [
    ⟨(.some 21), .mv, [(.t 0)], none, 0, 0⟩,
    ⟨(.some 22), .len, [(.t 21)], none, 0, 0⟩,
    ⟨(.some 23), (.cmp .gtr), [(.t 22), (.c (.int .i64 200))], none, 0, 0⟩,
    ⟨(.some 24), .mv, [(.t 23)], none, 0, 0⟩,
    ⟨(.some 25), .mv, [(.t 1)], (.some (24, false)), 0, 0⟩,
    ⟨(.some 26), .mv, [(.t 2)], (.some (24, false)), 0, 0⟩,
    ⟨(.some 27), (.eq false .int), [(.t 25), (.t 26)], (.some (24, false)), 0, 0⟩,
    ⟨(.some 28), .pick, [(.t 24), (.c (.bool true)), (.t 27)], none, 0, 0⟩])
  (.cond (.t 28)
    (.seq
    (.ops [10] [
      ⟨(.some 29), (.call 9), [], none, 0, 0⟩,
      ⟨(.some 10), .mv, [(.t 29)], none, 0, 0⟩])
    .ret)
    .skip))
  (.seq
  (.ops [0, 1, 2, 8, 9, 11] [
    ⟨(.some 30), (.call 10), [], none, 0, 0⟩,
    ⟨(.some 11), .mv, [(.t 30)], none, 0, 0⟩])
  (.seq
  (.ops [0, 1, 2, 8, 9, 11, 12] [
    ⟨(.some 31), (.call 10), [], none, 0, 0⟩,
    ⟨(.some 12), .mv, [(.t 31)], none, 0, 0⟩])
  (.seq
  (.seq
  (.ops [0, 1, 2, 8, 9, 11, 12, 13] [
    ⟨(.some 13), .mv, [(.c (.int .i64 0))], none, 0, 0⟩])
  (.block 0
    (.loop [0, 1, 2, 8, 9, 11, 12, 13]
      (.seq
      (.seq
      (.ops [0, 1, 2, 8, 9, 11, 12, 13, 35] [
        ⟨(.some 32), .mv, [(.t 13)], none, 0, 0⟩,
        ⟨(.some 33), .mv, [(.t 0)], none, 0, 0⟩,
        ⟨(.some 34), .len, [(.t 33)], none, 0, 0⟩,
        ⟨(.some 35), (.cmp .lss), [(.t 32), (.t 34)], none, 0, 0⟩])
      (.cond (.t 35)
        .skip
        (.exit 0)))
      (.seq
      (.block 1
        (.seq
        (.ops [0, 1, 2, 8, 9, 11, 12, 13] [
          ⟨(.some 38), .mv, [(.t 11)], none, 0, 0⟩,
          ⟨(.some 39), .mv, [(.t 0)], none, 0, 0⟩,
          ⟨(.some 40), .mv, [(.t 13)], none, 0, 0⟩,
          ⟨(.some 41), (.idxAddr 299), [(.t 39), (.t 40)], none, 0, 0⟩,
          ⟨(.some 42), (.load true 299), [(.t 41)], none, 0, 0⟩,
          ⟨(.some 43), (.call 12), [(.t 38), (.t 42)], none, 0, 0⟩])
        (.ops [0, 1, 2, 8, 9, 11, 12, 13] [
          ⟨(.some 44), .mv, [(.t 12)], none, 0, 0⟩,
          ⟨(.some 45), .mv, [(.t 0)], none, 0, 0⟩,
          ⟨(.some 46), .mv, [(.t 13)], none, 0, 0⟩,
          ⟨(.some 47), (.idxAddr 299), [(.t 45), (.t 46)], none, 0, 0⟩,
          ⟨(.some 48), (.load true 299), [(.t 47)], none, 0, 0⟩,
          ⟨(.some 49), (.call 12), [(.t 44), (.t 48)], none, 0, 0⟩])))
      (.ops [0, 1, 2, 8, 9, 11, 12, 13] [
        ⟨(.some 36), .mv, [(.t 13)], none, 0, 0⟩,
        ⟨(.some 37), (.arith .add), [(.t 36), (.c (.int .i64 1))], none, 0, 0⟩,
        ⟨(.some 13), .mv, [(.t 37)], none, 0, 0⟩]))))))
  (.seq
  (.drawn [1, 2, 8, 9, 11, 12, 14] [
    ⟨(.some 50), .mv, [(.t 11)], none, 0, 0⟩,
    ⟨(.some 51), .mv, [(.t 1)], none, 0, 0⟩,
    ⟨(.some 52), (.load true 33), [(.t 8)], none, 0, 0⟩,
    ⟨(.some 53), (.call 16), [(.t 50), (.t 51), (.t 52)], none, 0, 1⟩,
    ⟨(.some 54), .mv, [(.t 11)], none, 0, 1⟩,
    ⟨(.some 55), .mv, [(.t 2)], none, 0, 1⟩,
    ⟨(.some 56), (.load true 33), [(.t 9)], none, 0, 1⟩,
    ⟨(.some 57), (.call 16), [(.t 54), (.t 55), (.t 56)], none, 1, 2⟩,
    ⟨(.some 58), (.arith .add), [(.t 53), (.t 57)], none, 2, 2⟩,
    ⟨(.some 14), .mv, [(.t 58)], none, 2, 2⟩])
  (.seq
  (.drawn [11, 12, 14, 15] [
    ⟨(.some 59), .mv, [(.t 12)], none, 0, 0⟩,
    ⟨(.some 60), .mv, [(.t 2)], none, 0, 0⟩,
    ⟨(.some 61), (.load true 33), [(.t 9)], none, 0, 0⟩,
    ⟨(.some 62), (.call 16), [(.t 59), (.t 60), (.t 61)], none, 0, 1⟩,
    ⟨(.some 63), .mv, [(.t 12)], none, 0, 1⟩,
    ⟨(.some 64), .mv, [(.t 1)], none, 0, 1⟩,
    ⟨(.some 65), (.load true 33), [(.t 8)], none, 0, 1⟩,
    ⟨(.some 66), (.call 16), [(.t 63), (.t 64), (.t 65)], none, 1, 2⟩,
    ⟨(.some 67), (.arith .add), [(.t 62), (.t 66)], none, 2, 2⟩,
    ⟨(.some 15), .mv, [(.t 67)], none, 2, 2⟩])
  (.seq
  (.seq
  (.ops [11, 12, 14, 15, 16] [
    ⟨(.some 16), .mv, [(.c (.int .i64 0))], none, 0, 0⟩])
  (.block 2
    (.loop [11, 12, 14, 15, 16]
      (.seq
      (.seq
      (.ops [11, 12, 14, 15, 16, 69] [
        ⟨(.some 68), .mv, [(.t 16)], none, 0, 0⟩,
        ⟨(.some 69), (.cmp .lss), [(.t 68), (.c (.int .i64 9))], none, 0, 0⟩])
      (.cond (.t 69)
        .skip
        (.exit 2)))
      (.seq
      (.block 3
        (.seq
        (.ops [11, 12, 14, 15, 16, 17, 18] [
          ⟨(.some 73), .mv, [(.t 11)], none, 0, 0⟩,
          ⟨(.some 74), .mv, [(.t 16)], none, 0, 0⟩,
          ⟨(.some 75), (.call 17), [(.t 73), (.t 74)], none, 0, 0⟩,
          ⟨(.some 72), .mv, [(.t 75)], none, 0, 0⟩,
          ⟨(.some 76), (.extract 0), [(.t 72)], none, 0, 0⟩,
          ⟨(.some 77), (.extract 1), [(.t 72)], none, 0, 0⟩,
          ⟨(.some 17), (.alloc ([(.int .i64 0)] ++ (List.replicate 32 (.int .u8 0)))), [], none, 0, 0⟩,
          ⟨none, (.store 33), [(.t 17), (.t 76)], none, 0, 0⟩,
          ⟨(.some 18), .mv, [(.t 77)], none, 0, 0⟩])
        (.seq
        (.ops [11, 12, 14, 15, 16, 17, 18, 19, 20] [
          ⟨(.some 79), .mv, [(.t 12)], none, 0, 0⟩,
          ⟨(.some 80), .mv, [(.t 16)], none, 0, 0⟩,
          ⟨(.some 81), (.call 17), [(.t 79), (.t 80)], none, 0, 0⟩,
          ⟨(.some 78), .mv, [(.t 81)], none, 0, 0⟩,
          ⟨(.some 82), (.extract 0), [(.t 78)], none, 0, 0⟩,
          ⟨(.some 83), (.extract 1), [(.t 78)], none, 0, 0⟩,
          ⟨(.some 19), (.alloc ([(.int .i64 0)] ++ (List.replicate 32 (.int .u8 0)))), [], none, 0, 0⟩,
          ⟨none, (.store 33), [(.t 19), (.t 82)], none, 0, 0⟩,
          ⟨(.some 20), .mv, [(.t 83)], none, 0, 0⟩])
        (.seq
        (.ops [11, 12, 14, 15, 16, 100] [
          ⟨(.some 84), .mv, [(.t 11)], none, 0, 0⟩,
          ⟨(.some 85), .mv, [(.t 16)], none, 0, 0⟩,
          ⟨(.some 86), (.call 18), [(.t 84), (.t 85)], none, 0, 0⟩,
          ⟨(.some 87), .mv, [(.t 12)], none, 0, 0⟩,
          ⟨(.some 88), .mv, [(.t 16)], none, 0, 0⟩,
          ⟨(.some 89), (.call 18), [(.t 87), (.t 88)], none, 0, 0⟩,
          ⟨(.some 90), (.eqAgg true (List.replicate 264 .i)), [(.t 86), (.t 89)], none, 0, 0⟩,
          ⟨(.some 91), .mv, [(.t 90)], none, 0, 0⟩,
          ⟨(.some 92), (.load true 33), [(.t 17)], (.some (91, false)), 0, 0⟩,
          ⟨(.some 93), (.load true 33), [(.t 19)], (.some (91, false)), 0, 0⟩,
          ⟨(.some 94), (.eqAgg true (List.replicate 33 .i)), [(.t 92), (.t 93)], (.some (91, false)), 0, 0⟩,
          ⟨(.some 95), .pick, [(.t 91), (.c (.bool true)), (.t 94)], none, 0, 0⟩,
          ⟨(.some 96), .mv, [(.t 95)], none, 0, 0⟩,
          ⟨(.some 97), .mv, [(.t 18)], (.some (96, false)), 0, 0⟩,
          ⟨(.some 98), .mv, [(.t 20)], (.some (96, false)), 0, 0⟩,
          ⟨(.some 99), (.eq true .bool), [(.t 97), (.t 98)], (.some (96, false)), 0, 0⟩,
          ⟨(.some 100), .pick, [(.t 96), (.c (.bool true)), (.t 99)], none, 0, 0⟩])
        (.cond (.t 100)
          (.seq
          (.ops [10] [
            ⟨(.some 10), .mv, [(.c (.bool false))], none, 0, 0⟩])
          .ret)
          .skip)))))
      (.ops [11, 12, 14, 15, 16] [
        ⟨(.some 70), .mv, [(.t 16)], none, 0, 0⟩,
        ⟨(.some 71), (.arith .add), [(.t 70), (.c (.int .i64 1))], none, 0, 0⟩,
        ⟨(.some 16), .mv, [(.t 71)], none, 0, 0⟩]))))))
  (.seq
  (.ops [10] [
    ⟨(.some 101), .mv, [(.t 14)], none, 0, 0⟩,
    ⟨(.some 102), .mv, [(.t 15)], none, 0, 0⟩,
    ⟨(.some 103), (.eq false .int), [(.t 101), (.t 102)], none, 0, 0⟩,
    ⟨(.some 104), .mv, [(.t 103)], none, 0, 0⟩,
    ⟨(.some 105), .mv, [(.t 11)], (.some (104, true)), 0, 0⟩,
    ⟨(.some 106), (.call 11), [(.t 105)], (.some (104, true)), 0, 0⟩,
    ⟨(.some 107), .mv, [(.t 12)], (.some (104, true)), 0, 0⟩,
    ⟨(.some 108), (.call 11), [(.t 107)], (.some (104, true)), 0, 0⟩,
    ⟨(.some 109), (.call 19), [(.t 106), (.t 108)], (.some (104, true)), 0, 0⟩,
    ⟨(.some 110), .pick, [(.t 104), (.t 109), (.c (.bool false))], none, 0, 0⟩,
    ⟨(.some 111), .mv, [(.t 110)], none, 0, 0⟩,
    ⟨(.some 112), .mv, [(.t 11)], (.some (111, true)), 0, 0⟩,
    ⟨(.some 113), (.call 21), [(.t 112)], (.some (111, true)), 0, 0⟩,
    ⟨(.some 114), .mv, [(.t 12)], (.some (111, true)), 0, 0⟩,
    ⟨(.some 115), (.call 21), [(.t 114)], (.some (111, true)), 0, 0⟩,
    ⟨(.some 116), (.call 20), [(.t 113), (.t 115)], (.some (111, true)), 0, 0⟩,
    ⟨(.some 117), .pick, [(.t 111), (.t 116), (.c (.bool false))], none, 0, 0⟩,
    ⟨(.some 118), .mv, [(.t 117)], none, 0, 0⟩,
    ⟨(.some 119), (.call 9), [], (.some (118, true)), 0, 0⟩,
    ⟨(.some 120), .pick, [(.t 118), (.t 119), (.c (.bool false))], none, 0, 0⟩,
    ⟨(.some 10), .mv, [(.t 120)], none, 0, 0⟩])
  .ret)))))))))
def r5 : List ARes := [(.tmp 10)]
theorem ok5 : FnOk Try.prog 5 c5 r5 :=
  ⟨Try.f5, _, Try.func5, by kernel_rfl, rfl, by kernel_rfl, by kernel_rfl⟩
/-- rill/rilllaw18.TreeBack -/
def c6 : ACode :=
  (.seq
  (.ops [0, 1] [
    ⟨(.some 4), .mv, [(.c (.bool false))], none, 0, 0⟩])
  (.seq
  (.seq
  (.ops [0, 1, 18] [
    ⟨(.some 16), .mv, [(.t 0)], none, 0, 0⟩,
    ⟨(.some 17), .len, [(.t 16)], none, 0, 0⟩,
    ⟨(.some 18), (.cmp .gtr), [(.t 17), (.c (.int .i64 200))], none, 0, 0⟩])
  (.cond (.t 18)
    (.seq
    (.ops [4] [
      ⟨(.some 19), (.call 9), [], none, 0, 0⟩,
      ⟨(.some 4), .mv, [(.t 19)], none, 0, 0⟩])
    .ret)
    .skip))
  (.seq
  (.ops [0, 1, 5] [
    ⟨(.some 20), (.call 10), [], none, 0, 0⟩,
    ⟨(.some 5), .mv, [(.t 20)], none, 0, 0⟩])
  (.seq
  (.seq
  (.ops [0, 1, 5, 6] [
    ⟨(.some 6), .mv, [(.c (.int .i64 0))], none, 0, 0⟩])
  (.block 0
    (.loop [0, 1, 5, 6]
      (.seq
      (.seq
      (.ops [0, 1, 5, 6, 24] [
        ⟨(.some 21), .mv, [(.t 6)], none, 0, 0⟩,
        ⟨(.some 22), .mv, [(.t 0)], none, 0, 0⟩,
        ⟨(.some 23), .len, [(.t 22)], none, 0, 0⟩,
        ⟨(.some 24), (.cmp .lss), [(.t 21), (.t 23)], none, 0, 0⟩])
      (.cond (.t 24)
        .skip
        (.exit 0)))
      (.seq
      (.block 1
        (.ops [0, 1, 5, 6] [
          ⟨(.some 27), .mv, [(.t 5)], none, 0, 0⟩,
          ⟨(.some 28), .mv, [(.t 0)], none, 0, 0⟩,
          ⟨(.some 29), .mv, [(.t 6)], none, 0, 0⟩,
          ⟨(.some 30), (.idxAddr 299), [(.t 28), (.t 29)], none, 0, 0⟩,
          ⟨(.some 31), (.load true 299), [(.t 30)], none, 0, 0⟩,
          ⟨(.some 32), (.call 12), [(.t 27), (.t 31)], none, 0, 0⟩]))
      (.ops [0, 1, 5, 6] [
        ⟨(.some 25), .mv, [(.t 6)], none, 0, 0⟩,
        ⟨(.some 26), (.arith .add), [(.t 25), (.c (.int .i64 1))], none, 0, 0⟩,
        ⟨(.some 6), .mv, [(.t 26)], none, 0, 0⟩]))))))
  (.seq
  (.ops [1, 5] [
    ⟨(.some 33), .mv, [(.t 1)], none, 0, 0⟩,
    ⟨(.some 34), (.call 22), [(.t 33), (.c (.int .i64 1073741824))], none, 0, 0⟩,
    ⟨(.some 35), (.arith .add), [(.c (.int .i64 1)), (.t 34)], none, 0, 0⟩,
    ⟨(.some 1), .mv, [(.t 35)], none, 0, 0⟩])
  (.seq
  (.ops [1, 5, 7] [
    ⟨(.some 36), .mv, [(.t 5)], none, 0, 0⟩,
    ⟨(.some 37), (.call 21), [(.t 36)], none, 0, 0⟩,
    ⟨(.some 7), .mv, [(.t 37)], none, 0, 0⟩])
  (.seq
  (.seq
  (.ops [1, 5, 7, 8] [
    ⟨(.some 8), .mv, [(.c (.int .i64 0))], none, 0, 0⟩])
  (.block 2
    (.loop [1, 5, 7, 8]
      (.seq
      (.seq
      (.ops [1, 5, 7, 8, 41] [
        ⟨(.some 38), .mv, [(.t 8)], none, 0, 0⟩,
        ⟨(.some 39), .mv, [(.t 7)], none, 0, 0⟩,
        ⟨(.some 40), .len, [(.t 39)], none, 0, 0⟩,
        ⟨(.some 41), (.cmp .lss), [(.t 38), (.t 40)], none, 0, 0⟩])
      (.cond (.t 41)
        .skip
        (.exit 2)))
      (.seq
      (.block 3
        (.seq
        (.ops [1, 5, 7, 8, 9] [
          ⟨(.some 44), .mv, [(.t 1)], none, 0, 0⟩,
          ⟨(.some 45), .mv, [(.t 8)], none, 0, 0⟩,
          ⟨(.some 46), (.arith .add), [(.t 44), (.t 45)], none, 0, 0⟩,
          ⟨(.some 47), (.call 23), [(.t 46)], none, 0, 0⟩,
          ⟨(.some 9), (.alloc ([(.int .i64 0)] ++ (List.replicate 32 (.int .u8 0)))), [], none, 0, 0⟩,
          ⟨none, (.store 33), [(.t 9), (.t 47)], none, 0, 0⟩])
        (.seq
        (.seq
        (.ops [1, 5, 7, 8, 9, 57] [
          ⟨(.some 48), .mv, [(.t 7)], none, 0, 0⟩,
          ⟨(.some 49), .mv, [(.t 8)], none, 0, 0⟩,
          ⟨(.some 50), (.idxAddr 1), [(.t 48), (.t 49)], none, 0, 0⟩,
          ⟨(.some 51), (.load false 1), [(.t 50)], none, 0, 0⟩,
          ⟨(.some 52), (.eq false .int), [(.t 51), (.c (.int .i64 0))], none, 0, 0⟩,
          ⟨(.some 53), .mv, [(.t 52)], none, 0, 0⟩,
          ⟨(.some 54), .mv, [(.t 5)], (.some (53, true)), 0, 0⟩,
          ⟨(.some 55), (.call 15), [(.t 54)], (.some (53, true)), 0, 0⟩,
          ⟨(.some 56), (.eq false .int), [(.t 55), (.c (.int .i64 0))], (.some (53, true)), 0, 0⟩,
          ⟨(.some 57), .pick, [(.t 53), (.t 56), (.c (.bool false))], none, 0, 0⟩])
        (.cond (.t 57)
          (.ops [1, 5, 7, 8, 9] [
            ⟨(.some 58), (.build ([(.int .i64 0)] ++ (List.replicate 32 (.int .u8 0))) []), [], none, 0, 0⟩,
            ⟨none, (.store 33), [(.t 9), (.t 58)], none, 0, 0⟩])
          .skip))
        (.seq
        (.drawn [1, 5, 7, 8, 66] [
          ⟨(.some 59), .mv, [(.t 5)], none, 0, 0⟩,
          ⟨(.some 60), .mv, [(.t 7)], none, 0, 0⟩,
          ⟨(.some 61), .mv, [(.t 8)], none, 0, 0⟩,
          ⟨(.some 62), (.idxAddr 1), [(.t 60), (.t 61)], none, 0, 0⟩,
          ⟨(.some 63), (.load false 1), [(.t 62)], none, 0, 0⟩,
          ⟨(.some 64), (.load true 33), [(.t 9)], none, 0, 0⟩,
          ⟨(.some 65), (.call 24), [(.t 59), (.t 63), (.t 64)], none, 0, 1⟩,
          ⟨(.some 66), (.eq true .int), [(.t 65), (.c (.int .i64 0))], none, 1, 1⟩])
        (.cond (.t 66)
          (.seq
          (.ops [4] [
            ⟨(.some 4), .mv, [(.c (.bool false))], none, 0, 0⟩])
          .ret)
          .skip)))))
      (.ops [1, 5, 7, 8] [
        ⟨(.some 42), .mv, [(.t 8)], none, 0, 0⟩,
        ⟨(.some 43), (.arith .add), [(.t 42), (.c (.int .i64 1))], none, 0, 0⟩,
        ⟨(.some 8), .mv, [(.t 43)], none, 0, 0⟩]))))))
  (.seq
  (.seq
  (.ops [5, 70] [
    ⟨(.some 67), .mv, [(.t 5)], none, 0, 0⟩,
    ⟨(.some 68), (.call 21), [(.t 67)], none, 0, 0⟩,
    ⟨(.some 69), .len, [(.t 68)], none, 0, 0⟩,
    ⟨(.some 70), (.eq true .int), [(.t 69), (.c (.int .i64 0))], none, 0, 0⟩])
  (.cond (.t 70)
    (.seq
    (.ops [4] [
      ⟨(.some 4), .mv, [(.c (.bool false))], none, 0, 0⟩])
    .ret)
    .skip))
  (.seq
  (.ops [5, 10] [
    ⟨(.some 71), (.call 10), [], none, 0, 0⟩,
    ⟨(.some 10), .mv, [(.t 71)], none, 0, 0⟩])
  (.seq
  (.ops [5, 10, 11, 12] [
    ⟨(.some 73), .mv, [(.t 5)], none, 0, 0⟩,
    ⟨(.some 74), (.call 17), [(.t 73), (.c (.int .i64 0))], none, 0, 0⟩,
    ⟨(.some 72), .mv, [(.t 74)], none, 0, 0⟩,
    ⟨(.some 75), (.extract 0), [(.t 72)], none, 0, 0⟩,
    ⟨(.some 76), (.extract 1), [(.t 72)], none, 0, 0⟩,
    ⟨(.some 11), (.alloc ([(.int .i64 0)] ++ (List.replicate 32 (.int .u8 0)))), [], none, 0, 0⟩,
    ⟨none, (.store 33), [(.t 11), (.t 75)], none, 0, 0⟩,
    ⟨(.some 12), .mv, [(.t 76)], none, 0, 0⟩])
  (.seq
  (.seq
  (.drawn [5, 10, 100] [
    ⟨(.some 77), .mv, [(.t 12)], none, 0, 0⟩,
    ⟨(.some 78), .not, [(.t 77)], none, 0, 0⟩,
    ⟨(.some 79), .mv, [(.t 78)], none, 0, 0⟩,
    ⟨(.some 80), (.fieldAddr 0), [(.t 11)], (.some (79, false)), 0, 1⟩,
    ⟨(.some 81), (.load false 1), [(.t 80)], (.some (79, false)), 0, 1⟩,
    ⟨(.some 82), (.eq false .int), [(.t 81), (.c (.int .i64 0))], (.some (79, false)), 0, 1⟩,
    ⟨(.some 83), .mv, [(.t 5)], (.some (79, false)), 0, 0⟩,
    ⟨(.some 84), (.call 15), [(.t 83)], (.some (79, false)), 0, 1⟩,
    ⟨(.some 85), (.eq false .int), [(.t 84), (.c (.int .i64 0))], (.some (79, false)), 1, 1⟩,
    ⟨(.some 86), (.eq true .bool), [(.t 82), (.t 85)], (.some (79, false)), 1, 1⟩,
    ⟨(.some 87), .pick, [(.t 79), (.c (.bool true)), (.t 86)], none, 1, 1⟩,
    ⟨(.some 88), .mv, [(.t 87)], none, 1, 1⟩,
    ⟨(.some 89), (.fieldAddr 0), [(.t 11)], (.some (88, false)), 1, 1⟩,
    ⟨(.some 90), (.load false 1), [(.t 89)], (.some (88, false)), 1, 1⟩,
    ⟨(.some 91), (.cmp .gtr), [(.t 90), (.c (.int .i64 0))], (.some (88, false)), 1, 1⟩,
    ⟨(.some 92), .mv, [(.t 91)], (.some (88, false)), 1, 1⟩,
    ⟨(.some 93), .mv, [(.t 10)], (.some (92, true)), 1, 2⟩,
    ⟨(.some 94), .mv, [(.t 5)], (.some (92, true)), 1, 1⟩,
    ⟨(.some 95), (.call 18), [(.t 94), (.c (.int .i64 0))], (.some (92, true)), 1, 2⟩,
    ⟨(.some 96), (.load true 33), [(.t 11)], (.some (92, true)), 1, 2⟩,
    ⟨(.some 97), (.call 25), [(.t 93), (.c (.int .i64 0)), (.t 95), (.t 96)], (.some (92, true)), 2, 3⟩,
    ⟨(.some 98), (.eq true .int), [(.t 97), (.c (.int .i64 0))], (.some (92, true)), 3, 3⟩,
    ⟨(.some 99), .pick, [(.t 92), (.t 98), (.c (.bool false))], (.some (88, false)), 3, 3⟩,
    ⟨(.some 100), .pick, [(.t 88), (.c (.bool true)), (.t 99)], none, 3, 3⟩])
  (.cond (.t 100)
    (.seq
    (.ops [4] [
      ⟨(.some 4), .mv, [(.c (.bool false))], none, 0, 0⟩])
    .ret)
    .skip))
  (.seq
  (.seq
  (.ops [5, 10, 13] [
    ⟨(.some 13), .mv, [(.c (.int .i64 1))], none, 0, 0⟩])
  (.block 4
    (.loop [5, 10, 13]
      (.seq
      (.seq
      (.ops [5, 10, 13, 102] [
        ⟨(.some 101), .mv, [(.t 13)], none, 0, 0⟩,
        ⟨(.some 102), (.cmp .lss), [(.t 101), (.c (.int .i64 9))], none, 0, 0⟩])
      (.cond (.t 102)
        .skip
        (.exit 4)))
      (.seq
      (.block 5
        (.seq
        (.ops [5, 10, 13, 14, 15] [
          ⟨(.some 106), .mv, [(.t 5)], none, 0, 0⟩,
          ⟨(.some 107), .mv, [(.t 13)], none, 0, 0⟩,
          ⟨(.some 108), (.call 17), [(.t 106), (.t 107)], none, 0, 0⟩,
          ⟨(.some 105), .mv, [(.t 108)], none, 0, 0⟩,
          ⟨(.some 109), (.extract 0), [(.t 105)], none, 0, 0⟩,
          ⟨(.some 110), (.extract 1), [(.t 105)], none, 0, 0⟩,
          ⟨(.some 14), (.alloc ([(.int .i64 0)] ++ (List.replicate 32 (.int .u8 0)))), [], none, 0, 0⟩,
          ⟨none, (.store 33), [(.t 14), (.t 109)], none, 0, 0⟩,
          ⟨(.some 15), .mv, [(.t 110)], none, 0, 0⟩])
        (.seq
        (.drawn [5, 10, 13, 138] [
          ⟨(.some 111), .mv, [(.t 5)], none, 0, 0⟩,
          ⟨(.some 112), (.call 18), [(.t 111), (.c (.int .i64 0))], none, 0, 1⟩,
          ⟨(.some 113), (.part 0 264 true), [(.t 112)], none, 1, 1⟩,
          ⟨(.some 114), .mv, [(.t 13)], none, 0, 1⟩,
          ⟨(.some 115), (.arith .sub), [(.t 114), (.c (.int .i64 1))], none, 0, 1⟩,
          ⟨(.some 116), (.idxArr 8 33 true), [(.t 113), (.t 115)], none, 1, 1⟩,
          ⟨(.some 117), (.load true 33), [(.t 14)], none, 0, 1⟩,
          ⟨(.some 118), (.eqAgg true (List.replicate 33 .i)), [(.t 116), (.t 117)], none, 1, 1⟩,
          ⟨(.some 119), .mv, [(.t 118)], none, 1, 1⟩,
          ⟨(.some 120), .mv, [(.t 15)], (.some (119, false)), 1, 1⟩,
          ⟨(.some 121), (.fieldAddr 0), [(.t 14)], (.some (119, false)), 1, 1⟩,
          ⟨(.some 122), (.load false 1), [(.t 121)], (.some (119, false)), 1, 1⟩,
          ⟨(.some 123), (.cmp .gtr), [(.t 122), (.c (.int .i64 0))], (.some (119, false)), 1, 1⟩,
          ⟨(.some 124), (.eq true .bool), [(.t 120), (.t 123)], (.some (119, false)), 1, 1⟩,
          ⟨(.some 125), .pick, [(.t 119), (.c (.bool true)), (.t 124)], none, 1, 1⟩,
          ⟨(.some 126), .mv, [(.t 125)], none, 1, 1⟩,
          ⟨(.some 127), .mv, [(.t 15)], (.some (126, false)), 1, 1⟩,
          ⟨(.some 128), .mv, [(.t 127)], (.some (126, false)), 1, 1⟩,
          ⟨(.some 129), .mv, [(.t 10)], (.some (128, true)), 1, 2⟩,
          ⟨(.some 130), .mv, [(.t 13)], (.some (128, true)), 1, 2⟩,
          ⟨(.some 131), .mv, [(.t 5)], (.some (128, true)), 1, 1⟩,
          ⟨(.some 132), .mv, [(.t 13)], (.some (128, true)), 1, 1⟩,
          ⟨(.some 133), (.call 18), [(.t 131), (.t 132)], (.some (128, true)), 1, 2⟩,
          ⟨(.some 134), (.load true 33), [(.t 14)], (.some (128, true)), 1, 2⟩,
          ⟨(.some 135), (.call 25), [(.t 129), (.t 130), (.t 133), (.t 134)], (.some (128, true)), 2, 3⟩,
          ⟨(.some 136), (.eq true .int), [(.t 135), (.c (.int .i64 0))], (.some (128, true)), 3, 3⟩,
          ⟨(.some 137), .pick, [(.t 128), (.t 136), (.c (.bool false))], (.some (126, false)), 3, 3⟩,
          ⟨(.some 138), .pick, [(.t 126), (.c (.bool true)), (.t 137)], none, 3, 3⟩])
        (.cond (.t 138)
          (.seq
          (.ops [4] [
            ⟨(.some 4), .mv, [(.c (.bool false))], none, 0, 0⟩])
          .ret)
          .skip))))
      (.ops [5, 10, 13] [
        ⟨(.some 103), .mv, [(.t 13)], none, 0, 0⟩,
        ⟨(.some 104), (.arith .add), [(.t 103), (.c (.int .i64 1))], none, 0, 0⟩,
        ⟨(.some 13), .mv, [(.t 104)], none, 0, 0⟩]))))))
  (.seq
  (.ops [4] [
    ⟨(.some 139), .mv, [(.t 10)], none, 0, 0⟩,
    ⟨(.some 140), (.call 11), [(.t 139)], none, 0, 0⟩,
    ⟨(.some 141), .mv, [(.t 5)], none, 0, 0⟩,
    ⟨(.some 142), (.call 11), [(.t 141)], none, 0, 0⟩,
    ⟨(.some 143), (.call 19), [(.t 140), (.t 142)], none, 0, 0⟩,
    ⟨(.some 144), .mv, [(.t 143)], none, 0, 0⟩,
    ⟨(.some 145), .mv, [(.t 10)], (.some (144, true)), 0, 0⟩,
    ⟨(.some 146), (.call 15), [(.t 145)], (.some (144, true)), 0, 0⟩,
    ⟨(.some 147), .mv, [(.t 5)], (.some (144, true)), 0, 0⟩,
    ⟨(.some 148), (.call 15), [(.t 147)], (.some (144, true)), 0, 0⟩,
    ⟨(.some 149), (.eq false .int), [(.t 146), (.t 148)], (.some (144, true)), 0, 0⟩,
    ⟨(.some 150), .pick, [(.t 144), (.t 149), (.c (.bool false))], none, 0, 0⟩,
    ⟨(.some 151), .mv, [(.t 150)], none, 0, 0⟩,
    ⟨(.some 152), .mv, [(.t 10)], (.some (151, true)), 0, 0⟩,
    ⟨(.some 153), (.call 21), [(.t 152)], (.some (151, true)), 0, 0⟩,
    ⟨(.some 154), .len, [(.t 153)], (.some (151, true)), 0, 0⟩,
    ⟨(.some 155), (.eq false .int), [(.t 154), (.c (.int .i64 0))], (.some (151, true)), 0, 0⟩,
    ⟨(.some 156), .pick, [(.t 151), (.t 155), (.c (.bool false))], none, 0, 0⟩,
    ⟨(.some 157), .mv, [(.t 156)], none, 0, 0⟩,
    ⟨(.some 158), (.call 9), [], (.some (157, true)), 0, 0⟩,
    ⟨(.some 159), .pick, [(.t 157), (.t 158), (.c (.bool false))], none, 0, 0⟩,
    ⟨(.some 4), .mv, [(.t 159)], none, 0, 0⟩])
  .ret)))))))))))))
def r6 : List ARes := [(.tmp 4)]
theorem ok6 : FnOk Try.prog 6 c6 r6 :=
  ⟨Try.f6, _, Try.func6, by kernel_rfl, rfl, by kernel_rfl, by kernel_rfl⟩
/-- rill/rilllaw18.TreeRuns -/
def c7 : ACode :=
  (.seq
  (.ops [0] [
    ⟨(.some 2), .mv, [(.c (.bool false))], none, 0, 0⟩])
  (.seq
  (.seq
  (.ops [0, 8] [
    ⟨(.some 6), .mv, [(.t 0)], none, 0, 0⟩,
    ⟨(.some 7), .len, [(.t 6)], none, 0, 0⟩,
    ⟨(.some 8), (.cmp .gtr), [(.t 7), (.c (.int .i64 200))], none, 0, 0⟩])
  (.cond (.t 8)
    (.seq
    (.ops [2] [
      ⟨(.some 9), (.call 9), [], none, 0, 0⟩,
      ⟨(.some 2), .mv, [(.t 9)], none, 0, 0⟩])
    .ret)
    .skip))
  (.seq
  (.ops [0, 3] [
    ⟨(.some 10), (.call 10), [], none, 0, 0⟩,
    ⟨(.some 3), .mv, [(.t 10)], none, 0, 0⟩])
  (.seq
  (.ops [0, 3, 4] [
    ⟨(.some 11), (.call 26), [], none, 0, 0⟩,
    ⟨(.some 4), .mv, [(.t 11)], none, 0, 0⟩])
  (.seq
  (.seq
  (.ops [0, 3, 4, 19] [
    ⟨(.some 12), .mv, [(.t 3)], none, 0, 0⟩,
    ⟨(.some 13), (.eq false .ptr), [(.t 12), (.c .nilp)], none, 0, 0⟩,
    ⟨(.some 14), .mv, [(.t 13)], none, 0, 0⟩,
    ⟨(.some 15), .mv, [(.t 3)], (.some (14, false)), 0, 0⟩,
    ⟨(.some 16), .mv, [(.t 4)], (.some (14, false)), 0, 0⟩,
    ⟨(.some 17), (.call 27), [(.t 15), (.t 16)], (.some (14, false)), 0, 0⟩,
    ⟨(.some 18), .not, [(.t 17)], (.some (14, false)), 0, 0⟩,
    ⟨(.some 19), .pick, [(.t 14), (.c (.bool true)), (.t 18)], none, 0, 0⟩])
  (.cond (.t 19)
    (.seq
    (.ops [2] [
      ⟨(.some 2), .mv, [(.c (.bool false))], none, 0, 0⟩])
    .ret)
    .skip))
  (.seq
  (.seq
  (.ops [0, 3, 4, 5] [
    ⟨(.some 5), .mv, [(.c (.int .i64 0))], none, 0, 0⟩])
  (.block 0
    (.loop [0, 3, 4, 5]
      (.seq
      (.seq
      (.ops [0, 3, 4, 5, 23] [
        ⟨(.some 20), .mv, [(.t 5)], none, 0, 0⟩,
        ⟨(.some 21), .mv, [(.t 0)], none, 0, 0⟩,
        ⟨(.some 22), .len, [(.t 21)], none, 0, 0⟩,
        ⟨(.some 23), (.cmp .lss), [(.t 20), (.t 22)], none, 0, 0⟩])
      (.cond (.t 23)
        .skip
        (.exit 0)))
      (.seq
      (.block 1
        (.seq
        (.ops [0, 3, 4, 5, 39] [
          ⟨(.some 26), .mv, [(.t 3)], none, 0, 0⟩,
          ⟨(.some 27), .mv, [(.t 4)], none, 0, 0⟩,
          ⟨(.some 28), .mv, [(.t 0)], none, 0, 0⟩,
          ⟨(.some 29), .mv, [(.t 5)], none, 0, 0⟩,
          ⟨(.some 30), (.idxAddr 299), [(.t 28), (.t 29)], none, 0, 0⟩,
          ⟨(.some 31), (.load true 299), [(.t 30)], none, 0, 0⟩,
          ⟨(.some 32), (.call 28), [(.t 26), (.t 27), (.t 31)], none, 0, 0⟩,
          ⟨(.some 33), .not, [(.t 32)], none, 0, 0⟩,
          ⟨(.some 34), .mv, [(.t 33)], none, 0, 0⟩,
          ⟨(.some 35), .mv, [(.t 3)], (.some (34, false)), 0, 0⟩,
          ⟨(.some 36), .mv, [(.t 4)], (.some (34, false)), 0, 0⟩,
          ⟨(.some 37), (.call 27), [(.t 35), (.t 36)], (.some (34, false)), 0, 0⟩,
          ⟨(.some 38), .not, [(.t 37)], (.some (34, false)), 0, 0⟩,
          ⟨(.some 39), .pick, [(.t 34), (.c (.bool true)), (.t 38)], none, 0, 0⟩])
        (.cond (.t 39)
          (.seq
          (.ops [2] [
            ⟨(.some 2), .mv, [(.c (.bool false))], none, 0, 0⟩])
          .ret)
          .skip)))
      (.ops [0, 3, 4, 5] [
        ⟨(.some 24), .mv, [(.t 5)], none, 0, 0⟩,
        ⟨(.some 25), (.arith .add), [(.t 24), (.c (.int .i64 1))], none, 0, 0⟩,
        ⟨(.some 5), .mv, [(.t 25)], none, 0, 0⟩]))))))
  (.seq
  (.ops [2] [
    ⟨(.some 40), (.call 9), [], none, 0, 0⟩,
    ⟨(.some 2), .mv, [(.t 40)], none, 0, 0⟩])
  .ret)))))))
def r7 : List ARes := [(.tmp 2)]
theorem ok7 : FnOk Try.prog 7 c7 r7 :=
  ⟨Try.f7, _, Try.func7, by kernel_rfl, rfl, by kernel_rfl, by kernel_rfl⟩
/-- rill/rilllaw18.TreeKnown -/
def c8 : ACode :=
  (.seq
  (.ops [] [
    ⟨(.some 0), .mv, [(.c (.bool false))], none, 0, 0⟩])
  (.seq
  (.ops [1] [
    ⟨(.some 6), (.mkSl 12 (List.replicate 12 (.int .i64 0)) [(0, 1), (1, 1), (2, 1), (3, 1), (4, 1), (5, 1), (6, 1), (7, 1), (8, 1), (9, 1), (10, 1), (11, 1)]), [(.c (.int .i64 (-9223372036854775808))), (.c (.int .i64 (-1))), (.c (.int .i64 0)), (.c (.int .i64 1)), (.c (.int .i64 2)), (.c (.int .i64 7)), (.c (.int .i64 8)), (.c (.int .i64 9)), (.c (.int .i64 10)), (.c (.int .i64 63)), (.c (.int .i64 64)), (.c (.int .i64 9223372036854775807))], none, 0, 0⟩,
    ⟨(.some 1), .mv, [(.t 6)], none, 0, 0⟩])
  (.seq
  (.seq
  (.ops [1, 2] [
    ⟨(.some 2), .mv, [(.c (.int .i64 0))], none, 0, 0⟩])
  (.block 0
    (.loop [1, 2]
      (.seq
      (.seq
      (.ops [1, 2, 10] [
        ⟨(.some 7), .mv, [(.t 2)], none, 0, 0⟩,
        ⟨(.some 8), .mv, [(.t 1)], none, 0, 0⟩,
        ⟨(.some 9), .len, [(.t 8)], none, 0, 0⟩,
        ⟨(.some 10), (.cmp .lss), [(.t 7), (.t 9)], none, 0, 0⟩])
      (.cond (.t 10)
        .skip
        (.exit 0)))
      (.seq
      (.block 1
        (.seq
        (.ops [1, 2, 3] [
          ⟨(.some 3), .mv, [(.c (.int .i64 0))], none, 0, 0⟩])
        (.block 2
          (.loop [1, 2, 3]
            (.seq
            (.seq
            (.ops [1, 2, 3, 16] [
              ⟨(.some 13), .mv, [(.t 3)], none, 0, 0⟩,
              ⟨(.some 14), .mv, [(.t 1)], none, 0, 0⟩,
              ⟨(.some 15), .len, [(.t 14)], none, 0, 0⟩,
              ⟨(.some 16), (.cmp .lss), [(.t 13), (.t 15)], none, 0, 0⟩])
            (.cond (.t 16)
              .skip
              (.exit 2)))
            (.seq
            (.block 3
              (.seq
              (.ops [1, 2, 3, 4] [
                ⟨(.some 19), (.build (rep 8 ([(.int .i64 0)] ++ (List.replicate 32 (.int .u8 0)))) []), [], none, 0, 0⟩,
                ⟨(.some 4), (.alloc (rep 8 ([(.int .i64 0)] ++ (List.replicate 32 (.int .u8 0))))), [], none, 0, 0⟩,
                ⟨none, (.store 264), [(.t 4), (.t 19)], none, 0, 0⟩])
              (.seq
              (.drawn [1, 2, 3, 4] [
                ⟨(.some 20), .mv, [(.t 3)], none, 0, 0⟩,
                ⟨(.some 21), (.call 22), [(.t 20), (.c (.int .i64 8))], none, 0, 1⟩,
                ⟨(.some 22), .mv, [(.t 1)], none, 0, 1⟩,
                ⟨(.some 23), .mv, [(.t 2)], none, 0, 1⟩,
                ⟨(.some 24), (.idxAddr 1), [(.t 22), (.t 23)], none, 0, 1⟩,
                ⟨(.some 25), (.load false 1), [(.t 24)], none, 0, 1⟩,
                ⟨(.some 26), (.call 23), [(.t 25)], none, 1, 2⟩,
                ⟨(.some 27), (.fieldAddr 0), [(.t 4)], none, 0, 2⟩,
                ⟨(.some 28), (.idxAddrArr 8 33), [(.t 27), (.t 21)], none, 2, 2⟩,
                ⟨none, (.store 33), [(.t 28), (.t 26)], none, 2, 3⟩])
              (.seq
              (.drawn [1, 2, 3, 5] [
                ⟨(.some 29), (.call 23), [(.c (.int .i64 7))], none, 0, 1⟩,
                ⟨(.some 30), (.build ([(.int .i64 0), (.int .i64 0)] ++ (rep 9 ([(.int .i64 0)] ++ (List.replicate 32 (.int .u8 0))))) [(1, 1), (2, 33)]), [(.c (.int .i64 9)), (.t 29)], none, 1, 11⟩,
                ⟨(.some 31), .mv, [(.t 1)], none, 0, 11⟩,
                ⟨(.some 32), .mv, [(.t 2)], none, 0, 11⟩,
                ⟨(.some 33), (.idxAddr 1), [(.t 31), (.t 32)], none, 0, 11⟩,
                ⟨(.some 34), (.load false 1), [(.t 33)], none, 0, 11⟩,
                ⟨(.some 35), .mv, [(.t 1)], none, 0, 1⟩,
                ⟨(.some 36), .mv, [(.t 3)], none, 0, 1⟩,
                ⟨(.some 37), (.idxAddr 1), [(.t 35), (.t 36)], none, 0, 1⟩,
                ⟨(.some 38), (.load false 1), [(.t 37)], none, 0, 1⟩,
                ⟨(.some 39), (.call 23), [(.t 38)], none, 1, 2⟩,
                ⟨(.some 40), (.build ([(.int .i64 0), (.int .i64 0)] ++ (rep 9 ([(.int .i64 0)] ++ (List.replicate 32 (.int .u8 0))))) [(0, 1), (1, 1), (2, 33)]), [(.c (.int .i64 3)), (.t 34), (.t 39)], none, 2, 11⟩,
                ⟨(.some 41), (.call 23), [(.c (.int .i64 8))], none, 2, 3⟩,
                ⟨(.some 42), (.build ([(.int .i64 0), (.int .i64 0)] ++ (rep 9 ([(.int .i64 0)] ++ (List.replicate 32 (.int .u8 0))))) [(0, 1), (1, 1), (2, 33)]), [(.c (.int .i64 3)), (.c (.int .i64 2)), (.t 41)], none, 3, 11⟩,
                ⟨(.some 43), .mv, [(.t 1)], none, 0, 3⟩,
                ⟨(.some 44), .mv, [(.t 3)], none, 0, 3⟩,
                ⟨(.some 45), (.idxAddr 1), [(.t 43), (.t 44)], none, 0, 3⟩,
                ⟨(.some 46), (.load false 1), [(.t 45)], none, 0, 3⟩,
                ⟨(.some 47), (.call 23), [(.t 46)], none, 3, 4⟩,
                ⟨(.some 48), (.build ([(.int .i64 0), (.int .i64 0)] ++ (rep 9 ([(.int .i64 0)] ++ (List.replicate 32 (.int .u8 0))))) [(0, 1), (1, 1), (2, 33)]), [(.c (.int .i64 3)), (.c (.int .i64 0)), (.t 47)], none, 4, 11⟩,
                ⟨(.some 49), (.call 23), [(.c (.int .i64 9))], none, 4, 5⟩,
                ⟨(.some 50), (.build ([(.int .i64 0), (.int .i64 0)] ++ (rep 9 ([(.int .i64 0)] ++ (List.replicate 32 (.int .u8 0))))) [(0, 1), (1, 1), (2, 33)]), [(.c (.int .i64 3)), (.c (.int .i64 0)), (.t 49)], none, 5, 11⟩,
                ⟨(.some 51), .mv, [(.t 1)], none, 0, 11⟩,
                ⟨(.some 52), .mv, [(.t 2)], none, 0, 11⟩,
                ⟨(.some 53), (.idxAddr 1), [(.t 51), (.t 52)], none, 0, 11⟩,
                ⟨(.some 54), (.load false 1), [(.t 53)], none, 0, 11⟩,
                ⟨(.some 55), .mv, [(.t 1)], none, 0, 5⟩,
                ⟨(.some 56), .mv, [(.t 3)], none, 0, 5⟩,
                ⟨(.some 57), (.idxAddr 1), [(.t 55), (.t 56)], none, 0, 5⟩,
                ⟨(.some 58), (.load false 1), [(.t 57)], none, 0, 5⟩,
                ⟨(.some 59), (.call 23), [(.t 58)], none, 5, 6⟩,
                ⟨(.some 60), (.build ([(.int .i64 0), (.int .i64 0)] ++ (rep 9 ([(.int .i64 0)] ++ (List.replicate 32 (.int .u8 0))))) [(1, 1), (2, 33)]), [(.t 54), (.t 59)], none, 6, 11⟩,
                ⟨(.some 61), .mv, [(.t 1)], none, 0, 11⟩,
                ⟨(.some 62), .mv, [(.t 3)], none, 0, 11⟩,
                ⟨(.some 63), (.idxAddr 1), [(.t 61), (.t 62)], none, 0, 11⟩,
                ⟨(.some 64), (.load false 1), [(.t 63)], none, 0, 11⟩,
                ⟨(.some 65), (.build ([(.int .i64 0), (.int .i64 0)] ++ (rep 9 ([(.int .i64 0)] ++ (List.replicate 32 (.int .u8 0))))) [(0, 1), (1, 1)]), [(.c (.int .i64 2)), (.t 64)], none, 0, 11⟩,
                ⟨(.some 66), .mv, [(.t 1)], none, 0, 11⟩,
                ⟨(.some 67), .mv, [(.t 2)], none, 0, 11⟩,
                ⟨(.some 68), (.idxAddr 1), [(.t 66), (.t 67)], none, 0, 11⟩,
                ⟨(.some 69), (.load false 1), [(.t 68)], none, 0, 11⟩,
                ⟨(.some 70), (.build ([(.int .i64 0), (.int .i64 0)] ++ (rep 9 ([(.int .i64 0)] ++ (List.replicate 32 (.int .u8 0))))) [(0, 1), (1, 1)]), [(.c (.int .i64 1)), (.t 69)], none, 0, 11⟩,
                ⟨(.some 71), .mv, [(.t 1)], none, 0, 11⟩,
                ⟨(.some 72), .mv, [(.t 2)], none, 0, 11⟩,
                ⟨(.some 73), (.idxAddr 1), [(.t 71), (.t 72)], none, 0, 11⟩,
                ⟨(.some 74), (.load false 1), [(.t 73)], none, 0, 11⟩,
                ⟨(.some 75), (.load true 264), [(.t 4)], none, 0, 11⟩,
                ⟨(.some 76), .mv, [(.t 1)], none, 0, 6⟩,
                ⟨(.some 77), .mv, [(.t 3)], none, 0, 6⟩,
                ⟨(.some 78), (.idxAddr 1), [(.t 76), (.t 77)], none, 0, 6⟩,
                ⟨(.some 79), (.load false 1), [(.t 78)], none, 0, 6⟩,
                ⟨(.some 80), (.call 23), [(.t 79)], none, 6, 7⟩,
                ⟨(.some 81), (.build ([(.int .i64 0), (.int .i64 0)] ++ (rep 9 ([(.int .i64 0)] ++ (List.replicate 32 (.int .u8 0))))) [(0, 1), (1, 1), (35, 264), (2, 33)]), [(.c (.int .i64 4)), (.t 74), (.t 75), (.t 80)], none, 7, 11⟩,
                ⟨(.some 82), (.call 23), [(.c (.int .i64 11))], none, 7, 8⟩,
                ⟨(.some 83), (.build ([(.int .i64 0), (.int .i64 0)] ++ (rep 9 ([(.int .i64 0)] ++ (List.replicate 32 (.int .u8 0))))) [(1, 1), (2, 33)]), [(.c (.int .i64 10)), (.t 82)], none, 8, 11⟩,
                ⟨(.some 84), (.build ([(.int .i64 0), (.int .i64 0)] ++ (rep 9 ([(.int .i64 0)] ++ (List.replicate 32 (.int .u8 0))))) [(0, 1), (1, 1)]), [(.c (.int .i64 1)), (.c (.int .i64 9))], none, 0, 11⟩,
                ⟨(.some 85), (.build ([(.int .i64 0), (.int .i64 0)] ++ (rep 9 ([(.int .i64 0)] ++ (List.replicate 32 (.int .u8 0))))) [(0, 1), (1, 1)]), [(.c (.int .i64 1)), (.c (.int .i64 10))], none, 0, 11⟩,
                ⟨(.some 86), (.call 23), [(.c (.int .i64 5))], none, 8, 9⟩,
                ⟨(.some 87), (.build ([(.int .i64 0), (.int .i64 0)] ++ (rep 9 ([(.int .i64 0)] ++ (List.replicate 32 (.int .u8 0))))) [(0, 1), (1, 1), (2, 33)]), [(.c (.int .i64 3)), (.c (.int .i64 0)), (.t 86)], none, 9, 11⟩,
                ⟨(.some 88), (.build ([(.int .i64 0), (.int .i64 0)] ++ (rep 9 ([(.int .i64 0)] ++ (List.replicate 32 (.int .u8 0))))) [(0, 1), (1, 1)]), [(.c (.int .i64 3)), (.c (.int .i64 0))], none, 0, 11⟩,
                ⟨(.some 89), (.build ([(.int .i64 0), (.int .i64 0)] ++ (rep 9 ([(.int .i64 0)] ++ (List.replicate 32 (.int .u8 0))))) [(0, 1)]), [(.c (.int .i64 9))], none, 0, 11⟩,
                ⟨(.some 90), .mv, [(.t 1)], none, 0, 11⟩,
                ⟨(.some 91), .mv, [(.t 3)], none, 0, 11⟩,
                ⟨(.some 92), (.idxAddr 1), [(.t 90), (.t 91)], none, 0, 11⟩,
                ⟨(.some 93), (.load false 1), [(.t 92)], none, 0, 11⟩,
                ⟨(.some 94), (.load true 264), [(.t 4)], none, 0, 11⟩,
                ⟨(.some 95), (.call 23), [(.c (.int .i64 3))], none, 9, 10⟩,
                ⟨(.some 96), (.build ([(.int .i64 0), (.int .i64 0)] ++ (rep 9 ([(.int .i64 0)] ++ (List.replicate 32 (.int .u8 0))))) [(0, 1), (1, 1), (35, 264), (2, 33)]), [(.c (.int .i64 4)), (.t 93), (.t 94), (.t 95)], none, 10, 11⟩,
                ⟨(.some 97), (.call 23), [(.c (.int .i64 4))], none, 10, 11⟩,
                ⟨(.some 98), (.build ([(.int .i64 0), (.int .i64 0)] ++ (rep 9 ([(.int .i64 0)] ++ (List.replicate 32 (.int .u8 0))))) [(0, 1), (1, 1), (2, 33)]), [(.c (.int .i64 4)), (.c (.int .i64 0)), (.t 97)], none, 11, 11⟩,
                ⟨(.some 99), (.mkSl 17 (rep 17 ([(.int .i64 0), (.int .i64 0)] ++ (rep 9 ([(.int .i64 0)] ++ (List.replicate 32 (.int .u8 0)))))) [(0, 299), (299, 299), (598, 299), (897, 299), (1196, 299), (1495, 299), (1794, 299), (2093, 299), (2392, 299), (2691, 299), (2990, 299), (3289, 299), (3588, 299), (3887, 299), (4186, 299), (4485, 299), (4784, 299)]), [(.t 30), (.t 40), (.t 42), (.t 48), (.t 50), (.t 60), (.t 65), (.t 70), (.t 81), (.t 83), (.t 84), (.t 85), (.t 87), (.t 88), (.t 89), (.t 96), (.t 98)], none, 11, 11⟩,
                ⟨(.some 5), .mv, [(.t 99)], none, 11, 11⟩])
              (.seq
              (.ops [1, 2, 3, 131] [
                ⟨(.some 100), .mv, [(.t 5)], none, 0, 0⟩,
                ⟨(.some 101), (.call 7), [(.t 100)], none, 0, 0⟩,
                ⟨(.some 102), .not, [(.t 101)], none, 0, 0⟩,
                ⟨(.some 103), .mv, [(.t 102)], none, 0, 0⟩,
                ⟨(.some 104), .mv, [(.t 5)], (.some (103, false)), 0, 0⟩,
                ⟨(.some 105), (.call 3), [(.t 104)], (.some (103, false)), 0, 0⟩,
                ⟨(.some 106), .not, [(.t 105)], (.some (103, false)), 0, 0⟩,
                ⟨(.some 107), .pick, [(.t 103), (.c (.bool true)), (.t 106)], none, 0, 0⟩,
                ⟨(.some 108), .mv, [(.t 107)], none, 0, 0⟩,
                ⟨(.some 109), .mv, [(.t 5)], (.some (108, false)), 0, 0⟩,
                ⟨(.some 110), (.call 4), [(.t 109)], (.some (108, false)), 0, 0⟩,
                ⟨(.some 111), .not, [(.t 110)], (.some (108, false)), 0, 0⟩,
                ⟨(.some 112), .pick, [(.t 108), (.c (.bool true)), (.t 111)], none, 0, 0⟩,
                ⟨(.some 113), .mv, [(.t 112)], none, 0, 0⟩,
                ⟨(.some 114), .mv, [(.t 5)], (.some (113, false)), 0, 0⟩,
                ⟨(.some 115), .mv, [(.t 1)], (.some (113, false)), 0, 0⟩,
                ⟨(.some 116), .mv, [(.t 3)], (.some (113, false)), 0, 0⟩,
                ⟨(.some 117), (.idxAddr 1), [(.t 115), (.t 116)], (.some (113, false)), 0, 0⟩,
                ⟨(.some 118), (.load false 1), [(.t 117)], (.some (113, false)), 0, 0⟩,
                ⟨(.some 119), (.call 6), [(.t 114), (.t 118)], (.some (113, false)), 0, 0⟩,
                ⟨(.some 120), .not, [(.t 119)], (.some (113, false)), 0, 0⟩,
                ⟨(.some 121), .pick, [(.t 113), (.c (.bool true)), (.t 120)], none, 0, 0⟩,
                ⟨(.some 122), .mv, [(.t 121)], none, 0, 0⟩,
                ⟨(.some 123), .mv, [(.t 5)], (.some (122, false)), 0, 0⟩,
                ⟨(.some 124), .mv, [(.t 2)], (.some (122, false)), 0, 0⟩,
                ⟨(.some 125), .mv, [(.t 5)], (.some (122, false)), 0, 0⟩,
                ⟨(.some 126), .len, [(.t 125)], (.some (122, false)), 0, 0⟩,
                ⟨(.some 127), (.call 22), [(.t 124), (.t 126)], (.some (122, false)), 0, 0⟩,
                ⟨(.some 128), (.slice 299 false true false), [(.t 123), (.t 127)], (.some (122, false)), 0, 0⟩,
                ⟨(.some 129), (.call 6), [(.t 128), (.c (.int .i64 3))], (.some (122, false)), 0, 0⟩,
                ⟨(.some 130), .not, [(.t 129)], (.some (122, false)), 0, 0⟩,
                ⟨(.some 131), .pick, [(.t 122), (.c (.bool true)), (.t 130)], none, 0, 0⟩])
              (.cond (.t 131)
                (.seq
                (.ops [0] [
                  ⟨(.some 0), .mv, [(.c (.bool false))], none, 0, 0⟩])
                .ret)
                .skip))))))
            (.ops [1, 2, 3] [
              ⟨(.some 17), .mv, [(.t 3)], none, 0, 0⟩,
              ⟨(.some 18), (.arith .add), [(.t 17), (.c (.int .i64 1))], none, 0, 0⟩,
              ⟨(.some 3), .mv, [(.t 18)], none, 0, 0⟩])))))))
      (.ops [1, 2] [
        ⟨(.some 11), .mv, [(.t 2)], none, 0, 0⟩,
        ⟨(.some 12), (.arith .add), [(.t 11), (.c (.int .i64 1))], none, 0, 0⟩,
        ⟨(.some 2), .mv, [(.t 12)], none, 0, 0⟩]))))))
  (.seq
  (.ops [0] [
    ⟨(.some 132), (.call 9), [], none, 0, 0⟩,
    ⟨(.some 0), .mv, [(.t 132)], none, 0, 0⟩])
  .ret))))
def r8 : List ARes := [(.tmp 0)]
theorem ok8 : FnOk Try.prog 8 c8 r8 :=
  ⟨Try.f8, _, Try.func8, by kernel_rfl, rfl, by kernel_rfl, by kernel_rfl⟩
/-- rill/rilllaw18.works -/
def c9 : ACode :=
  (.seq
  (.ops [] [
    ⟨(.some 0), .mv, [(.c (.bool false))], none, 0, 0⟩])
  (.seq
  (.ops [1] [
    ⟨(.some 6), (.call 10), [], none, 0, 0⟩,
    ⟨(.some 1), .mv, [(.t 6)], none, 0, 0⟩])
  (.seq
  (.ops [1] [
    ⟨(.some 7), .mv, [(.t 1)], none, 0, 0⟩,
    ⟨(.some 8), (.call 23), [(.c (.int .i64 7))], none, 0, 0⟩,
    ⟨(.some 9), (.call 29), [(.t 7), (.c (.int .i64 9)), (.t 8)], none, 0, 0⟩])
  (.seq
  (.ops [1, 2] [
    ⟨(.some 10), .mv, [(.t 1)], none, 0, 0⟩,
    ⟨(.some 11), (.call 23), [(.c (.int .i64 8))], none, 0, 0⟩,
    ⟨(.some 12), (.call 24), [(.t 10), (.c (.int .i64 0)), (.t 11)], none, 0, 0⟩,
    ⟨(.some 2), .mv, [(.t 12)], none, 0, 0⟩])
  (.seq
  (.ops [1, 2, 3] [
    ⟨(.some 13), .mv, [(.t 1)], none, 0, 0⟩,
    ⟨(.some 14), (.call 23), [(.c (.int .i64 8))], none, 0, 0⟩,
    ⟨(.some 15), (.call 24), [(.t 13), (.c (.int .i64 2)), (.t 14)], none, 0, 0⟩,
    ⟨(.some 3), .mv, [(.t 15)], none, 0, 0⟩])
  (.seq
  (.ops [1, 2, 3, 4] [
    ⟨(.some 16), .mv, [(.t 1)], none, 0, 0⟩,
    ⟨(.some 17), (.call 23), [(.c (.int .i64 9))], none, 0, 0⟩,
    ⟨(.some 18), (.call 24), [(.t 16), (.c (.int .i64 0)), (.t 17)], none, 0, 0⟩,
    ⟨(.some 4), .mv, [(.t 18)], none, 0, 0⟩])
  (.seq
  (.ops [1, 2, 3, 4, 5] [
    ⟨(.some 19), .mv, [(.t 1)], none, 0, 0⟩,
    ⟨(.some 20), (.call 23), [(.c (.int .i64 11))], none, 0, 0⟩,
    ⟨(.some 21), (.call 29), [(.t 19), (.c (.int .i64 10)), (.t 20)], none, 0, 0⟩,
    ⟨(.some 5), .mv, [(.t 21)], none, 0, 0⟩])
  (.seq
  (.ops [0] [
    ⟨(.some 22), .mv, [(.t 2)], none, 0, 0⟩,
    ⟨(.some 23), (.eq false .int), [(.t 22), (.c (.int .i64 16))], none, 0, 0⟩,
    ⟨(.some 24), .mv, [(.t 23)], none, 0, 0⟩,
    ⟨(.some 25), .mv, [(.t 3)], (.some (24, true)), 0, 0⟩,
    ⟨(.some 26), (.eq false .int), [(.t 25), (.c (.int .i64 0))], (.some (24, true)), 0, 0⟩,
    ⟨(.some 27), .pick, [(.t 24), (.t 26), (.c (.bool false))], none, 0, 0⟩,
    ⟨(.some 28), .mv, [(.t 27)], none, 0, 0⟩,
    ⟨(.some 29), .mv, [(.t 4)], (.some (28, true)), 0, 0⟩,
    ⟨(.some 30), (.eq false .int), [(.t 29), (.c (.int .i64 0))], (.some (28, true)), 0, 0⟩,
    ⟨(.some 31), .pick, [(.t 28), (.t 30), (.c (.bool false))], none, 0, 0⟩,
    ⟨(.some 32), .mv, [(.t 31)], none, 0, 0⟩,
    ⟨(.some 33), .mv, [(.t 5)], (.some (32, true)), 0, 0⟩,
    ⟨(.some 34), (.call 23), [(.c (.int .i64 8))], (.some (32, true)), 0, 0⟩,
    ⟨(.some 35), (.call 23), [(.c (.int .i64 9))], (.some (32, true)), 0, 0⟩,
    ⟨(.some 36), (.mkSl 2 (rep 2 ([(.int .i64 0)] ++ (List.replicate 32 (.int .u8 0)))) [(0, 33), (33, 33)]), [(.t 34), (.t 35)], (.some (32, true)), 0, 0⟩,
    ⟨(.some 37), (.call 19), [(.t 33), (.t 36)], (.some (32, true)), 0, 0⟩,
    ⟨(.some 38), .pick, [(.t 32), (.t 37), (.c (.bool false))], none, 0, 0⟩,
    ⟨(.some 39), .mv, [(.t 38)], none, 0, 0⟩,
    ⟨(.some 40), .mv, [(.t 1)], (.some (39, true)), 0, 0⟩,
    ⟨(.some 41), (.call 11), [(.t 40)], (.some (39, true)), 0, 0⟩,
    ⟨(.some 42), (.call 23), [(.c (.int .i64 7))], (.some (39, true)), 0, 0⟩,
    ⟨(.some 43), (.call 23), [(.c (.int .i64 11))], (.some (39, true)), 0, 0⟩,
    ⟨(.some 44), (.mkSl 2 (rep 2 ([(.int .i64 0)] ++ (List.replicate 32 (.int .u8 0)))) [(0, 33), (33, 33)]), [(.t 42), (.t 43)], (.some (39, true)), 0, 0⟩,
    ⟨(.some 45), (.call 19), [(.t 41), (.t 44)], (.some (39, true)), 0, 0⟩,
    ⟨(.some 46), .pick, [(.t 39), (.t 45), (.c (.bool false))], none, 0, 0⟩,
    ⟨(.some 47), .mv, [(.t 46)], none, 0, 0⟩,
    ⟨(.some 48), .mv, [(.t 1)], (.some (47, true)), 0, 0⟩,
    ⟨(.some 49), (.call 15), [(.t 48)], (.some (47, true)), 0, 0⟩,
    ⟨(.some 50), (.eq false .int), [(.t 49), (.c (.int .i64 2))], (.some (47, true)), 0, 0⟩,
    ⟨(.some 51), .pick, [(.t 47), (.t 50), (.c (.bool false))], none, 0, 0⟩,
    ⟨(.some 0), .mv, [(.t 51)], none, 0, 0⟩])
  .ret))))))))
def r9 : List ARes := [(.tmp 0)]
theorem ok9 : FnOk Try.prog 9 c9 r9 :=
  ⟨Try.f9, _, Try.func9, by kernel_rfl, rfl, by kernel_rfl, by kernel_rfl⟩
/-- rill/tree.New -/
def c10 : ACode :=
  (.seq
  (.ops [] [
    ⟨(.some 0), .mv, [(.c .nilp)], none, 0, 0⟩])
  (.seq
  (.ops [1] [
    ⟨(.some 2), (.build (rep 64 ([(.int .i64 0)] ++ (List.replicate 32 (.int .u8 0))) ++ (rep 9 ([(.int .i64 0), (.int .i64 0)] ++ (List.replicate 32 (.int .u8 0))))) []), [], none, 0, 0⟩,
    ⟨(.some 3), .box, [(.t 2)], none, 0, 0⟩,
    ⟨(.some 1), .mv, [(.t 3)], none, 0, 0⟩])
  (.seq
  (.ops [1] [
    ⟨(.some 4), .mv, [(.t 1)], none, 0, 0⟩,
    ⟨(.some 5), .nilCheck, [(.t 4)], none, 0, 0⟩,
    ⟨(.some 6), (.fieldAddr 2112), [(.t 5)], none, 0, 0⟩,
    ⟨(.some 7), (.idxAddrArr 9 34), [(.t 6), (.c (.int .i64 0))], none, 0, 0⟩,
    ⟨(.some 8), (.fieldAddr 0), [(.t 7)], none, 0, 0⟩,
    ⟨none, (.store 1), [(.t 8), (.c (.int .i64 1))], none, 0, 0⟩])
  (.seq
  (.ops [0] [
    ⟨(.some 9), .mv, [(.t 1)], none, 0, 0⟩,
    ⟨(.some 0), .mv, [(.t 9)], none, 0, 0⟩])
  .ret))))
def r10 : List ARes := [(.tmp 0)]
theorem ok10 : FnOk Try.prog 10 c10 r10 :=
  ⟨Try.f10, _, Try.func10, by kernel_rfl, rfl, by kernel_rfl, by kernel_rfl⟩
/-- (*rill/tree.Tree).Refs -/
def c11 : ACode :=
  (.seq
  (.ops [0] [
    ⟨(.some 2), .mv, [(.c .nils)], none, 0, 0⟩])
  (.seq
  (.ops [0, 3] [
    ⟨(.some 3), .mv, [(.c .nils)], none, 0, 0⟩])
  (.seq
  (.seq
  (.ops [0, 3, 11, 12] [
    ⟨(.some 8), .mv, [(.t 0)], none, 0, 0⟩,
    ⟨(.some 9), .nilCheck, [(.t 8)], none, 0, 0⟩,
    ⟨(.some 10), (.fieldAddr 0), [(.t 9)], none, 0, 0⟩,
    ⟨(.some 11), (.load true 2112), [(.t 10)], none, 0, 0⟩,
    ⟨(.some 12), .mv, [(.c (.int .i64 0))], none, 0, 0⟩])
  (.block 0
    (.loop [0, 3, 11, 12]
      (.seq
      (.ops [0, 3, 11, 12, 13] [
        ⟨(.some 13), (.cmp .lss), [(.t 12), (.c (.int .i64 64))], none, 0, 0⟩])
      (.seq
      (.cond (.t 13)
        .skip
        (.exit 0))
      (.seq
      (.block 1
        (.seq
        (.ops [0, 3, 5, 11, 12] [
          ⟨(.some 14), (.idxArr 64 33 true), [(.t 11), (.t 12)], none, 0, 0⟩,
          ⟨(.some 5), (.alloc ([(.int .i64 0)] ++ (List.replicate 32 (.int .u8 0)))), [], none, 0, 0⟩,
          ⟨none, (.store 33), [(.t 5), (.t 14)], none, 0, 0⟩])
        (.seq
        (.ops [0, 3, 5, 11, 12, 17] [
          ⟨(.some 15), (.load true 33), [(.t 5)], none, 0, 0⟩,
          ⟨(.some 16), (.build ([(.int .i64 0)] ++ (List.replicate 32 (.int .u8 0))) []), [], none, 0, 0⟩,
          ⟨(.some 17), (.eqAgg true (List.replicate 33 .i)), [(.t 15), (.t 16)], none, 0, 0⟩])
        (.cond (.t 17)
          (.ops [0, 3, 11, 12] [
            ⟨(.some 18), .mv, [(.t 3)], none, 0, 0⟩,
            ⟨(.some 19), (.load true 33), [(.t 5)], none, 0, 0⟩,
            ⟨(.some 20), (.mkSl 1 ([(.int .i64 0)] ++ (List.replicate 32 (.int .u8 0))) [(0, 33)]), [(.t 19)], none, 0, 0⟩,
            ⟨(.some 21), (.append 33 40), [(.t 18), (.t 20)], none, 0, 0⟩,
            ⟨(.some 3), .mv, [(.t 21)], none, 0, 0⟩])
          .skip))))
      (.ops [0, 3, 11, 12] [
        ⟨(.some 22), (.arith .add), [(.t 12), (.c (.int .i64 1))], none, 0, 0⟩,
        ⟨(.some 12), .mv, [(.t 22)], none, 0, 0⟩])))))))
  (.seq
  (.seq
  (.ops [3, 26, 27] [
    ⟨(.some 23), .mv, [(.t 0)], none, 0, 0⟩,
    ⟨(.some 24), .nilCheck, [(.t 23)], none, 0, 0⟩,
    ⟨(.some 25), (.fieldAddr 2112), [(.t 24)], none, 0, 0⟩,
    ⟨(.some 26), (.load true 306), [(.t 25)], none, 0, 0⟩,
    ⟨(.some 27), .mv, [(.c (.int .i64 0))], none, 0, 0⟩])
  (.block 2
    (.loop [3, 26, 27]
      (.seq
      (.ops [3, 26, 27, 28] [
        ⟨(.some 28), (.cmp .lss), [(.t 27), (.c (.int .i64 9))], none, 0, 0⟩])
      (.seq
      (.cond (.t 28)
        .skip
        (.exit 2))
      (.seq
      (.block 3
        (.seq
        (.ops [3, 7, 26, 27] [
          ⟨(.some 29), (.idxArr 9 34 true), [(.t 26), (.t 27)], none, 0, 0⟩,
          ⟨(.some 7), (.alloc ([(.int .i64 0), (.int .i64 0)] ++ (List.replicate 32 (.int .u8 0)))), [], none, 0, 0⟩,
          ⟨none, (.store 34), [(.t 7), (.t 29)], none, 0, 0⟩])
        (.seq
        (.ops [3, 7, 26, 27, 38] [
          ⟨(.some 30), (.fieldAddr 0), [(.t 7)], none, 0, 0⟩,
          ⟨(.some 31), (.load false 1), [(.t 30)], none, 0, 0⟩,
          ⟨(.some 32), (.eq false .int), [(.t 31), (.c (.int .i64 1))], none, 0, 0⟩,
          ⟨(.some 33), .mv, [(.t 32)], none, 0, 0⟩,
          ⟨(.some 34), (.fieldAddr 1), [(.t 7)], (.some (33, true)), 0, 0⟩,
          ⟨(.some 35), (.fieldAddr 0), [(.t 34)], (.some (33, true)), 0, 0⟩,
          ⟨(.some 36), (.load false 1), [(.t 35)], (.some (33, true)), 0, 0⟩,
          ⟨(.some 37), (.cmp .gtr), [(.t 36), (.c (.int .i64 0))], (.some (33, true)), 0, 0⟩,
          ⟨(.some 38), .pick, [(.t 33), (.t 37), (.c (.bool false))], none, 0, 0⟩])
        (.cond (.t 38)
          (.ops [3, 26, 27] [
            ⟨(.some 39), .mv, [(.t 3)], none, 0, 0⟩,
            ⟨(.some 40), (.fieldAddr 1), [(.t 7)], none, 0, 0⟩,
            ⟨(.some 41), (.load true 33), [(.t 40)], none, 0, 0⟩,
            ⟨(.some 42), (.mkSl 1 ([(.int .i64 0)] ++ (List.replicate 32 (.int .u8 0))) [(0, 33)]), [(.t 41)], none, 0, 0⟩,
            ⟨(.some 43), (.append 33 40), [(.t 39), (.t 42)], none, 0, 0⟩,
            ⟨(.some 3), .mv, [(.t 43)], none, 0, 0⟩])
          .skip))))
      (.ops [3, 26, 27] [
        ⟨(.some 44), (.arith .add), [(.t 27), (.c (.int .i64 1))], none, 0, 0⟩,
        ⟨(.some 27), .mv, [(.t 44)], none, 0, 0⟩])))))))
  (.seq
  (.ops [2] [
    ⟨(.some 45), .mv, [(.t 3)], none, 0, 0⟩,
    ⟨(.some 2), .mv, [(.t 45)], none, 0, 0⟩])
  .ret)))))
def r11 : List ARes := [(.tmp 2)]
theorem ok11 : FnOk Try.prog 11 c11 r11 :=
  ⟨Try.f11, _, Try.func11, by kernel_rfl, rfl, by kernel_rfl, by kernel_rfl⟩
/-- rill/rilllaw18.run -/
def c12 : ACode :=
  (.seq
  (.ops [0, 3] [
    ⟨(.some 3), .box, [(.t 1)], none, 0, 0⟩,
    ⟨(.some 4), .mv, [(.c .nils)], none, 0, 0⟩,
    ⟨(.some 5), .mv, [(.c .nils)], none, 0, 0⟩])
  (.seq
  (.seq
  (.ops [0, 3, 9] [
    ⟨(.some 8), (.fieldAddr 0), [(.t 3)], none, 0, 0⟩,
    ⟨(.some 9), (.load false 1), [(.t 8)], none, 0, 0⟩])
  (.block 0
    (.seq
    (.ops [0, 3, 9, 10] [
      ⟨(.some 11), (.eq false .int), [(.t 9), (.c (.int .i64 0))], none, 0, 0⟩,
      ⟨(.some 10), .mv, [(.t 11)], none, 0, 0⟩])
    (.cond (.t 10)
      (.seq
      (.ops [0, 3, 6] [
        ⟨(.some 12), (.fieldAddr 1), [(.t 3)], none, 0, 0⟩,
        ⟨(.some 13), (.load false 1), [(.t 12)], none, 0, 0⟩,
        ⟨(.some 14), (.cmp .geq), [(.t 13), (.c (.int .i64 0))], none, 0, 0⟩,
        ⟨(.some 15), .mv, [(.t 14)], none, 0, 0⟩,
        ⟨(.some 16), (.fieldAddr 1), [(.t 3)], (.some (15, true)), 0, 0⟩,
        ⟨(.some 17), (.load false 1), [(.t 16)], (.some (15, true)), 0, 0⟩,
        ⟨(.some 18), (.cmp .lss), [(.t 17), (.c (.int .i64 64))], (.some (15, true)), 0, 0⟩,
        ⟨(.some 19), .pick, [(.t 15), (.t 18), (.c (.bool false))], none, 0, 0⟩,
        ⟨(.some 20), .mv, [(.t 19)], none, 0, 0⟩,
        ⟨(.some 21), (.fieldAddr 2), [(.t 3)], (.some (20, true)), 0, 0⟩,
        ⟨(.some 22), (.fieldAddr 0), [(.t 21)], (.some (20, true)), 0, 0⟩,
        ⟨(.some 23), (.load false 1), [(.t 22)], (.some (20, true)), 0, 0⟩,
        ⟨(.some 24), (.cmp .gtr), [(.t 23), (.c (.int .i64 0))], (.some (20, true)), 0, 0⟩,
        ⟨(.some 25), .pick, [(.t 20), (.t 24), (.c (.bool false))], none, 0, 0⟩,
        ⟨(.some 6), .mv, [(.t 25)], none, 0, 0⟩])
      (.seq
      (.ops [3, 6, 7] [
        ⟨(.some 26), .mv, [(.t 0)], none, 0, 0⟩,
        ⟨(.some 27), (.fieldAddr 1), [(.t 3)], none, 0, 0⟩,
        ⟨(.some 28), (.load false 1), [(.t 27)], none, 0, 0⟩,
        ⟨(.some 29), (.fieldAddr 2), [(.t 3)], none, 0, 0⟩,
        ⟨(.some 30), (.load true 33), [(.t 29)], none, 0, 0⟩,
        ⟨(.some 31), (.call 29), [(.t 26), (.t 28), (.t 30)], none, 0, 0⟩,
        ⟨(.some 7), .mv, [(.t 31)], none, 0, 0⟩])
      (.seq
      (.seq
      (.ops [3, 7, 32] [
        ⟨(.some 32), .mv, [(.t 6)], none, 0, 0⟩])
      (.cond (.t 32)
        (.seq
        (.drawn [4, 5] [
          ⟨(.some 33), .mv, [(.t 7)], none, 0, 0⟩,
          ⟨(.some 34), (.fieldAddr 2), [(.t 3)], none, 0, 0⟩,
          ⟨(.some 35), (.load true 33), [(.t 34)], none, 0, 0⟩,
          ⟨(.some 36), (.mkSl 1 ([(.int .i64 0)] ++ (List.replicate 32 (.int .u8 0))) [(0, 33)]), [(.t 35)], none, 0, 0⟩,
          ⟨(.some 4), .mv, [(.t 33)], none, 0, 0⟩,
          ⟨(.some 5), .mv, [(.t 36)], none, 0, 0⟩])
        .ret)
        .skip))
      (.seq
      (.ops [4, 5] [
        ⟨(.some 37), .mv, [(.t 7)], none, 0, 0⟩,
        ⟨(.some 4), .mv, [(.t 37)], none, 0, 0⟩,
        ⟨(.some 5), .mv, [(.c .nils)], none, 0, 0⟩])
      .ret))))
      (.seq
      (.ops [0, 3, 9, 38] [
        ⟨(.some 39), (.eq false .int), [(.t 9), (.c (.int .i64 1))], none, 0, 0⟩,
        ⟨(.some 38), .mv, [(.t 39)], none, 0, 0⟩])
      (.cond (.t 38)
        (.seq
        (.ops [4, 5] [
          ⟨(.some 40), .mv, [(.t 0)], none, 0, 0⟩,
          ⟨(.some 41), (.fieldAddr 1), [(.t 3)], none, 0, 0⟩,
          ⟨(.some 42), (.load false 1), [(.t 41)], none, 0, 0⟩,
          ⟨(.some 43), (.call 30), [(.t 40), (.t 42)], none, 0, 0⟩,
          ⟨(.some 4), .mv, [(.t 43)], none, 0, 0⟩,
          ⟨(.some 5), .mv, [(.c .nils)], none, 0, 0⟩])
        .ret)
        (.seq
        (.ops [0, 3, 9, 44] [
          ⟨(.some 45), (.eq false .int), [(.t 9), (.c (.int .i64 2))], none, 0, 0⟩,
          ⟨(.some 44), .mv, [(.t 45)], none, 0, 0⟩])
        (.cond (.t 44)
          (.seq
          (.ops [4, 5] [
            ⟨(.some 46), .mv, [(.t 0)], none, 0, 0⟩,
            ⟨(.some 47), (.fieldAddr 1), [(.t 3)], none, 0, 0⟩,
            ⟨(.some 48), (.load false 1), [(.t 47)], none, 0, 0⟩,
            ⟨(.some 49), (.call 31), [(.t 46), (.t 48)], none, 0, 0⟩,
            ⟨(.some 4), .mv, [(.t 49)], none, 0, 0⟩,
            ⟨(.some 5), .mv, [(.c .nils)], none, 0, 0⟩])
          .ret)
          (.seq
          (.ops [0, 3, 50] [
            ⟨(.some 51), (.eq false .int), [(.t 9), (.c (.int .i64 3))], none, 0, 0⟩,
            ⟨(.some 50), .mv, [(.t 51)], none, 0, 0⟩])
          (.cond (.t 50)
            (.seq
            (.ops [3, 64] [
              ⟨(.some 52), .mv, [(.t 0)], none, 0, 0⟩,
              ⟨(.some 53), (.fieldAddr 1), [(.t 3)], none, 0, 0⟩,
              ⟨(.some 54), (.load false 1), [(.t 53)], none, 0, 0⟩,
              ⟨(.some 55), (.fieldAddr 2), [(.t 3)], none, 0, 0⟩,
              ⟨(.some 56), (.load true 33), [(.t 55)], none, 0, 0⟩,
              ⟨(.some 57), (.call 24), [(.t 52), (.t 54), (.t 56)], none, 0, 0⟩,
              ⟨(.some 58), (.eq false .int), [(.t 57), (.c (.int .i64 0))], none, 0, 0⟩,
              ⟨(.some 59), .mv, [(.t 58)], none, 0, 0⟩,
              ⟨(.some 60), (.fieldAddr 2), [(.t 3)], (.some (59, true)), 0, 0⟩,
              ⟨(.some 61), (.fieldAddr 0), [(.t 60)], (.some (59, true)), 0, 0⟩,
              ⟨(.some 62), (.load false 1), [(.t 61)], (.some (59, true)), 0, 0⟩,
              ⟨(.some 63), (.cmp .gtr), [(.t 62), (.c (.int .i64 0))], (.some (59, true)), 0, 0⟩,
              ⟨(.some 64), .pick, [(.t 59), (.t 63), (.c (.bool false))], none, 0, 0⟩])
            (.cond (.t 64)
              (.seq
              (.drawn [4, 5] [
                ⟨(.some 65), (.fieldAddr 2), [(.t 3)], none, 0, 0⟩,
                ⟨(.some 66), (.load true 33), [(.t 65)], none, 0, 0⟩,
                ⟨(.some 67), (.mkSl 1 ([(.int .i64 0)] ++ (List.replicate 32 (.int .u8 0))) [(0, 33)]), [(.t 66)], none, 0, 0⟩,
                ⟨(.some 4), .mv, [(.c .nils)], none, 0, 0⟩,
                ⟨(.some 5), .mv, [(.t 67)], none, 0, 0⟩])
              .ret)
              .skip))
            .skip))))))))))
  (.seq
  (.ops [4, 5] [
    ⟨(.some 4), .mv, [(.c .nils)], none, 0, 0⟩,
    ⟨(.some 5), .mv, [(.c .nils)], none, 0, 0⟩])
  .ret)))
def r12 : List ARes := [(.tmp 4), (.tmp 5)]
theorem ok12 : FnOk Try.prog 12 c12 r12 :=
  ⟨Try.f12, _, Try.func12, by kernel_rfl, rfl, by kernel_rfl, by kernel_rfl⟩
/-- rill/rilllaw18.many -/
def c13 : ACode :=
  (.seq
  (.ops [0, 3] [
    ⟨(.some 3), .box, [(.t 1)], none, 0, 0⟩,
    ⟨(.some 4), .mv, [(.c (.int .i64 0))], none, 0, 0⟩])
  (.seq
  (.ops [0, 3, 5] [
    ⟨(.some 5), .mv, [(.c (.int .i64 0))], none, 0, 0⟩])
  (.seq
  (.seq
  (.ops [0, 3, 5, 6] [
    ⟨(.some 6), .mv, [(.c (.int .i64 0))], none, 0, 0⟩])
  (.block 0
    (.loop [0, 3, 5, 6]
      (.seq
      (.seq
      (.ops [0, 3, 5, 6, 10] [
        ⟨(.some 7), .mv, [(.t 6)], none, 0, 0⟩,
        ⟨(.some 8), .mv, [(.t 0)], none, 0, 0⟩,
        ⟨(.some 9), .len, [(.t 8)], none, 0, 0⟩,
        ⟨(.some 10), (.cmp .lss), [(.t 7), (.t 9)], none, 0, 0⟩])
      (.cond (.t 10)
        .skip
        (.exit 0)))
      (.seq
      (.block 1
        (.seq
        (.drawn [0, 3, 5, 6, 18] [
          ⟨(.some 13), .mv, [(.t 0)], none, 0, 0⟩,
          ⟨(.some 14), .mv, [(.t 6)], none, 0, 0⟩,
          ⟨(.some 15), (.idxAddr 33), [(.t 13), (.t 14)], none, 0, 0⟩,
          ⟨(.some 16), (.load true 33), [(.t 15)], none, 0, 0⟩,
          ⟨(.some 17), (.load true 33), [(.t 3)], none, 0, 0⟩,
          ⟨(.some 18), (.eqAgg false (List.replicate 33 .i)), [(.t 16), (.t 17)], none, 0, 0⟩])
        (.cond (.t 18)
          (.ops [0, 3, 5, 6] [
            ⟨(.some 19), .mv, [(.t 5)], none, 0, 0⟩,
            ⟨(.some 20), (.arith .add), [(.t 19), (.c (.int .i64 1))], none, 0, 0⟩,
            ⟨(.some 5), .mv, [(.t 20)], none, 0, 0⟩])
          .skip)))
      (.ops [0, 3, 5, 6] [
        ⟨(.some 11), .mv, [(.t 6)], none, 0, 0⟩,
        ⟨(.some 12), (.arith .add), [(.t 11), (.c (.int .i64 1))], none, 0, 0⟩,
        ⟨(.some 6), .mv, [(.t 12)], none, 0, 0⟩]))))))
  (.seq
  (.ops [4] [
    ⟨(.some 21), .mv, [(.t 5)], none, 0, 0⟩,
    ⟨(.some 4), .mv, [(.t 21)], none, 0, 0⟩])
  .ret))))
def r13 : List ARes := [(.tmp 4)]
theorem ok13 : FnOk Try.prog 13 c13 r13 :=
  ⟨Try.f13, _, Try.func13, by kernel_rfl, rfl, by kernel_rfl, by kernel_rfl⟩
/-- (*rill/tree.Tree).Get -/
def c14 : ACode :=
  (.seq
  (.ops [0, 1, 4] [
    ⟨(.some 4), (.alloc ([(.int .i64 0)] ++ (List.replicate 32 (.int .u8 0)))), [], none, 0, 0⟩,
    ⟨(.some 5), .mv, [(.c (.bool false))], none, 0, 0⟩])
  (.seq
  (.seq
  (.ops [0, 1, 4, 9] [
    ⟨(.some 6), .mv, [(.t 0)], none, 0, 0⟩,
    ⟨(.some 7), .mv, [(.t 1)], none, 0, 0⟩,
    ⟨(.some 8), (.call 32), [(.t 6), (.t 7)], none, 0, 0⟩,
    ⟨(.some 9), .not, [(.t 8)], none, 0, 0⟩])
  (.cond (.t 9)
    (.seq
    (.ops [4, 5] [
      ⟨(.some 10), (.build ([(.int .i64 0)] ++ (List.replicate 32 (.int .u8 0))) []), [], none, 0, 0⟩,
      ⟨none, (.store 33), [(.t 4), (.t 10)], none, 0, 0⟩,
      ⟨(.some 5), .mv, [(.c (.bool false))], none, 0, 0⟩])
    .ret)
    .skip))
  (.seq
  (.ops [4, 5] [
    ⟨(.some 11), .mv, [(.t 0)], none, 0, 0⟩,
    ⟨(.some 12), .mv, [(.t 1)], none, 0, 0⟩,
    ⟨(.some 13), .nilCheck, [(.t 11)], none, 0, 0⟩,
    ⟨(.some 14), (.fieldAddr 0), [(.t 13)], none, 0, 0⟩,
    ⟨(.some 15), (.idxAddrArr 64 33), [(.t 14), (.t 12)], none, 0, 0⟩,
    ⟨(.some 16), (.load true 33), [(.t 15)], none, 0, 0⟩,
    ⟨none, (.store 33), [(.t 4), (.t 16)], none, 0, 0⟩,
    ⟨(.some 5), .mv, [(.c (.bool true))], none, 0, 0⟩])
  .ret)))
def r14 : List ARes := [(.cell 4 true 33), (.tmp 5)]
theorem ok14 : FnOk Try.prog 14 c14 r14 :=
  ⟨Try.f14, _, Try.func14, by kernel_rfl, rfl, by kernel_rfl, by kernel_rfl⟩
/-- (*rill/tree.Tree).Mapped -/
def c15 : ACode :=
  (.seq
  (.ops [0] [
    ⟨(.some 2), .mv, [(.c (.int .i64 0))], none, 0, 0⟩])
  (.seq
  (.ops [0, 3] [
    ⟨(.some 3), .mv, [(.c (.int .i64 0))], none, 0, 0⟩])
  (.seq
  (.seq
  (.ops [3, 9, 10] [
    ⟨(.some 6), .mv, [(.t 0)], none, 0, 0⟩,
    ⟨(.some 7), .nilCheck, [(.t 6)], none, 0, 0⟩,
    ⟨(.some 8), (.fieldAddr 0), [(.t 7)], none, 0, 0⟩,
    ⟨(.some 9), (.load true 2112), [(.t 8)], none, 0, 0⟩,
    ⟨(.some 10), .mv, [(.c (.int .i64 0))], none, 0, 0⟩])
  (.block 0
    (.loop [3, 9, 10]
      (.seq
      (.ops [3, 9, 10, 11] [
        ⟨(.some 11), (.cmp .lss), [(.t 10), (.c (.int .i64 64))], none, 0, 0⟩])
      (.seq
      (.cond (.t 11)
        .skip
        (.exit 0))
      (.seq
      (.block 1
        (.seq
        (.ops [3, 5, 9, 10] [
          ⟨(.some 12), (.idxArr 64 33 true), [(.t 9), (.t 10)], none, 0, 0⟩,
          ⟨(.some 5), (.alloc ([(.int .i64 0)] ++ (List.replicate 32 (.int .u8 0)))), [], none, 0, 0⟩,
          ⟨none, (.store 33), [(.t 5), (.t 12)], none, 0, 0⟩])
        (.seq
        (.ops [3, 9, 10, 15] [
          ⟨(.some 13), (.load true 33), [(.t 5)], none, 0, 0⟩,
          ⟨(.some 14), (.build ([(.int .i64 0)] ++ (List.replicate 32 (.int .u8 0))) []), [], none, 0, 0⟩,
          ⟨(.some 15), (.eqAgg true (List.replicate 33 .i)), [(.t 13), (.t 14)], none, 0, 0⟩])
        (.cond (.t 15)
          (.ops [3, 9, 10] [
            ⟨(.some 16), .mv, [(.t 3)], none, 0, 0⟩,
            ⟨(.some 17), (.arith .add), [(.t 16), (.c (.int .i64 1))], none, 0, 0⟩,
            ⟨(.some 3), .mv, [(.t 17)], none, 0, 0⟩])
          .skip))))
      (.ops [3, 9, 10] [
        ⟨(.some 18), (.arith .add), [(.t 10), (.c (.int .i64 1))], none, 0, 0⟩,
        ⟨(.some 10), .mv, [(.t 18)], none, 0, 0⟩])))))))
  (.seq
  (.ops [2] [
    ⟨(.some 19), .mv, [(.t 3)], none, 0, 0⟩,
    ⟨(.some 2), .mv, [(.t 19)], none, 0, 0⟩])
  .ret))))
def r15 : List ARes := [(.tmp 2)]
theorem ok15 : FnOk Try.prog 15 c15 r15 :=
  ⟨Try.f15, _, Try.func15, by kernel_rfl, rfl, by kernel_rfl, by kernel_rfl⟩
/-- rill/rilllaw18.put -/
def c16 : ACode :=
  (.seq
  (.ops [0, 1, 5] [
    ⟨(.some 5), .box, [(.t 2)], none, 0, 0⟩,
    ⟨(.some 6), .mv, [(.c (.int .i64 0))], none, 0, 0⟩])
  (.seq
  (.seq
  (.ops [0, 1, 5, 9] [
    ⟨(.some 7), (.fieldAddr 0), [(.t 5)], none, 0, 0⟩,
    ⟨(.some 8), (.load false 1), [(.t 7)], none, 0, 0⟩,
    ⟨(.some 9), (.cmp .gtr), [(.t 8), (.c (.int .i64 0))], none, 0, 0⟩])
  (.cond (.t 9)
    (.seq
    (.ops [6] [
      ⟨(.some 10), .mv, [(.t 0)], none, 0, 0⟩,
      ⟨(.some 11), .mv, [(.t 1)], none, 0, 0⟩,
      ⟨(.some 12), (.load true 33), [(.t 5)], none, 0, 0⟩,
      ⟨(.some 13), (.call 29), [(.t 10), (.t 11), (.t 12)], none, 0, 0⟩,
      ⟨(.some 14), .len, [(.t 13)], none, 0, 0⟩,
      ⟨(.some 6), .mv, [(.t 14)], none, 0, 0⟩])
    .ret)
    .skip))
  (.seq
  (.ops [6] [
    ⟨(.some 15), .mv, [(.t 0)], none, 0, 0⟩,
    ⟨(.some 16), .mv, [(.t 1)], none, 0, 0⟩,
    ⟨(.some 17), (.call 30), [(.t 15), (.t 16)], none, 0, 0⟩,
    ⟨(.some 18), .len, [(.t 17)], none, 0, 0⟩,
    ⟨(.some 6), .mv, [(.t 18)], none, 0, 0⟩])
  .ret)))
def r16 : List ARes := [(.tmp 6)]
theorem ok16 : FnOk Try.prog 16 c16 r16 :=
  ⟨Try.f16, _, Try.func16, by kernel_rfl, rfl, by kernel_rfl, by kernel_rfl⟩
/-- (*rill/tree.Tree).Node -/
def c17 : ACode :=
  (.seq
  (.ops [0, 1, 4] [
    ⟨(.some 4), (.alloc ([(.int .i64 0)] ++ (List.replicate 32 (.int .u8 0)))), [], none, 0, 0⟩,
    ⟨(.some 5), .mv, [(.c (.bool false))], none, 0, 0⟩])
  (.seq
  (.seq
  (.ops [0, 1, 4, 18] [
    ⟨(.some 6), .mv, [(.t 1)], none, 0, 0⟩,
    ⟨(.some 7), (.call 33), [(.t 6), (.c (.int .i64 0)), (.c (.int .i64 8))], none, 0, 0⟩,
    ⟨(.some 8), .not, [(.t 7)], none, 0, 0⟩,
    ⟨(.some 9), .mv, [(.t 8)], none, 0, 0⟩,
    ⟨(.some 10), .mv, [(.t 0)], (.some (9, false)), 0, 0⟩,
    ⟨(.some 11), .mv, [(.t 1)], (.some (9, false)), 0, 0⟩,
    ⟨(.some 12), .nilCheck, [(.t 10)], (.some (9, false)), 0, 0⟩,
    ⟨(.some 13), (.fieldAddr 2112), [(.t 12)], (.some (9, false)), 0, 0⟩,
    ⟨(.some 14), (.idxAddrArr 9 34), [(.t 13), (.t 11)], (.some (9, false)), 0, 0⟩,
    ⟨(.some 15), (.fieldAddr 0), [(.t 14)], (.some (9, false)), 0, 0⟩,
    ⟨(.some 16), (.load false 1), [(.t 15)], (.some (9, false)), 0, 0⟩,
    ⟨(.some 17), (.eq true .int), [(.t 16), (.c (.int .i64 1))], (.some (9, false)), 0, 0⟩,
    ⟨(.some 18), .pick, [(.t 9), (.c (.bool true)), (.t 17)], none, 0, 0⟩])
  (.cond (.t 18)
    (.seq
    (.ops [4, 5] [
      ⟨(.some 19), (.build ([(.int .i64 0)] ++ (List.replicate 32 (.int .u8 0))) []), [], none, 0, 0⟩,
      ⟨none, (.store 33), [(.t 4), (.t 19)], none, 0, 0⟩,
      ⟨(.some 5), .mv, [(.c (.bool false))], none, 0, 0⟩])
    .ret)
    .skip))
  (.seq
  (.ops [4, 5] [
    ⟨(.some 20), .mv, [(.t 0)], none, 0, 0⟩,
    ⟨(.some 21), .mv, [(.t 1)], none, 0, 0⟩,
    ⟨(.some 22), .nilCheck, [(.t 20)], none, 0, 0⟩,
    ⟨(.some 23), (.fieldAddr 2112), [(.t 22)], none, 0, 0⟩,
    ⟨(.some 24), (.idxAddrArr 9 34), [(.t 23), (.t 21)], none, 0, 0⟩,
    ⟨(.some 25), (.fieldAddr 1), [(.t 24)], none, 0, 0⟩,
    ⟨(.some 26), (.load true 33), [(.t 25)], none, 0, 0⟩,
    ⟨none, (.store 33), [(.t 4), (.t 26)], none, 0, 0⟩,
    ⟨(.some 5), .mv, [(.c (.bool true))], none, 0, 0⟩])
  .ret)))
def r17 : List ARes := [(.cell 4 true 33), (.tmp 5)]
theorem ok17 : FnOk Try.prog 17 c17 r17 :=
  ⟨Try.f17, _, Try.func17, by kernel_rfl, rfl, by kernel_rfl, by kernel_rfl⟩
/-- (*rill/tree.Tree).Page -/
def c18 : ACode :=
  (.seq
  (.ops [0, 1, 4] [
    ⟨(.some 4), (.alloc (rep 8 ([(.int .i64 0)] ++ (List.replicate 32 (.int .u8 0))))), [], none, 0, 0⟩])
  (.seq
  (.ops [0, 1, 4, 5] [
    ⟨(.some 5), (.alloc (rep 8 ([(.int .i64 0)] ++ (List.replicate 32 (.int .u8 0))))), [], none, 0, 0⟩])
  (.seq
  (.block 0
    (.seq
    (.ops [0, 1, 4, 5, 8] [
      ⟨(.some 9), .mv, [(.t 1)], none, 0, 0⟩,
      ⟨(.some 10), (.eq false .int), [(.t 9), (.c (.int .i64 0))], none, 0, 0⟩,
      ⟨(.some 8), .mv, [(.t 10)], none, 0, 0⟩])
    (.cond (.t 8)
      (.seq
      (.ops [0, 4, 5, 11] [
        ⟨(.some 11), .mv, [(.c (.int .i64 0))], none, 0, 0⟩])
      (.block 1
        (.loop [0, 4, 5, 11]
          (.seq
          (.ops [0, 4, 5, 11, 12] [
            ⟨(.some 12), (.cmp .lss), [(.t 11), (.c (.int .i64 8))], none, 0, 0⟩])
          (.seq
          (.cond (.t 12)
            .skip
            (.exit 1))
          (.seq
          (.block 2
            (.seq
            (.ops [0, 4, 5, 6, 11] [
              ⟨(.some 13), .mv, [(.t 11)], none, 0, 0⟩,
              ⟨(.some 6), .mv, [(.t 13)], none, 0, 0⟩])
            (.seq
            (.ops [0, 4, 5, 6, 7, 11] [
              ⟨(.some 14), .mv, [(.t 0)], none, 0, 0⟩,
              ⟨(.some 15), .mv, [(.t 6)], none, 0, 0⟩,
              ⟨(.some 16), (.arith .add), [(.t 15), (.c (.int .i64 1))], none, 0, 0⟩,
              ⟨(.some 17), .nilCheck, [(.t 14)], none, 0, 0⟩,
              ⟨(.some 18), (.fieldAddr 2112), [(.t 17)], none, 0, 0⟩,
              ⟨(.some 19), (.idxAddrArr 9 34), [(.t 18), (.t 16)], none, 0, 0⟩,
              ⟨(.some 20), (.load true 34), [(.t 19)], none, 0, 0⟩,
              ⟨(.some 7), (.alloc ([(.int .i64 0), (.int .i64 0)] ++ (List.replicate 32 (.int .u8 0)))), [], none, 0, 0⟩,
              ⟨none, (.store 34), [(.t 7), (.t 20)], none, 0, 0⟩])
            (.seq
            (.ops [0, 4, 5, 6, 7, 11, 23] [
              ⟨(.some 21), (.fieldAddr 0), [(.t 7)], none, 0, 0⟩,
              ⟨(.some 22), (.load false 1), [(.t 21)], none, 0, 0⟩,
              ⟨(.some 23), (.eq false .int), [(.t 22), (.c (.int .i64 1))], none, 0, 0⟩])
            (.cond (.t 23)
              (.ops [0, 4, 5, 11] [
                ⟨(.some 24), .mv, [(.t 6)], none, 0, 0⟩,
                ⟨(.some 25), (.fieldAddr 1), [(.t 7)], none, 0, 0⟩,
                ⟨(.some 26), (.load true 33), [(.t 25)], none, 0, 0⟩,
                ⟨(.some 27), (.fieldAddr 0), [(.t 5)], none, 0, 0⟩,
                ⟨(.some 28), (.idxAddrArr 8 33), [(.t 27), (.t 24)], none, 0, 0⟩,
                ⟨none, (.store 33), [(.t 28), (.t 26)], none, 0, 0⟩])
              .skip)))))
          (.ops [0, 4, 5, 11] [
            ⟨(.some 29), (.arith .add), [(.t 11), (.c (.int .i64 1))], none, 0, 0⟩,
            ⟨(.some 11), .mv, [(.t 29)], none, 0, 0⟩])))))))
      (.seq
      (.ops [0, 1, 4, 5, 30] [
        ⟨(.some 31), .mv, [(.t 1)], none, 0, 0⟩,
        ⟨(.some 32), (.call 33), [(.t 31), (.c (.int .i64 1)), (.c (.int .i64 8))], none, 0, 0⟩,
        ⟨(.some 30), .mv, [(.t 32)], none, 0, 0⟩])
      (.cond (.t 30)
        (.drawn [4, 5] [
          ⟨(.some 33), (.fieldAddr 0), [(.t 5)], none, 0, 1⟩,
          ⟨(.some 34), (.sliceArr 8 33 false false false), [(.t 33)], none, 0, 1⟩,
          ⟨(.some 35), .mv, [(.t 0)], none, 0, 0⟩,
          ⟨(.some 36), .mv, [(.t 1)], none, 0, 0⟩,
          ⟨(.some 37), (.call 34), [(.t 35), (.t 36)], none, 0, 1⟩,
          ⟨(.some 38), (.copy 33), [(.t 34), (.t 37)], none, 1, 2⟩])
        .skip)))))
  (.seq
  (.ops [4] [
    ⟨(.some 39), (.load true 264), [(.t 5)], none, 0, 0⟩,
    ⟨none, (.store 264), [(.t 4), (.t 39)], none, 0, 0⟩])
  .ret))))
def r18 : List ARes := [(.cell 4 true 264)]
theorem ok18 : FnOk Try.prog 18 c18 r18 :=
  ⟨Try.f18, _, Try.func18, by kernel_rfl, rfl, by kernel_rfl, by kernel_rfl⟩
/-- rill/rillkit.SameRefs -/
def c19 : ACode :=
  (.seq
  (.ops [0, 1] [
    ⟨(.some 4), .mv, [(.c (.bool false))], none, 0, 0⟩])
  (.seq
  (.seq
  (.ops [0, 1, 10] [
    ⟨(.some 6), .mv, [(.t 0)], none, 0, 0⟩,
    ⟨(.some 7), .len, [(.t 6)], none, 0, 0⟩,
    ⟨(.some 8), .mv, [(.t 1)], none, 0, 0⟩,
    ⟨(.some 9), .len, [(.t 8)], none, 0, 0⟩,
    ⟨(.some 10), (.eq true .int), [(.t 7), (.t 9)], none, 0, 0⟩])
  (.cond (.t 10)
    (.seq
    (.ops [4] [
      ⟨(.some 4), .mv, [(.c (.bool false))], none, 0, 0⟩])
    .ret)
    .skip))
  (.seq
  (.seq
  (.ops [0, 1, 5] [
    ⟨(.some 5), .mv, [(.c (.int .i64 0))], none, 0, 0⟩])
  (.block 0
    (.loop [0, 1, 5]
      (.seq
      (.seq
      (.ops [0, 1, 5, 14] [
        ⟨(.some 11), .mv, [(.t 5)], none, 0, 0⟩,
        ⟨(.some 12), .mv, [(.t 0)], none, 0, 0⟩,
        ⟨(.some 13), .len, [(.t 12)], none, 0, 0⟩,
        ⟨(.some 14), (.cmp .lss), [(.t 11), (.t 13)], none, 0, 0⟩])
      (.cond (.t 14)
        .skip
        (.exit 0)))
      (.seq
      (.block 1
        (.seq
        (.drawn [0, 1, 5, 25] [
          ⟨(.some 17), .mv, [(.t 0)], none, 0, 0⟩,
          ⟨(.some 18), .mv, [(.t 5)], none, 0, 0⟩,
          ⟨(.some 19), (.idxAddr 33), [(.t 17), (.t 18)], none, 0, 0⟩,
          ⟨(.some 20), (.load true 33), [(.t 19)], none, 0, 0⟩,
          ⟨(.some 21), .mv, [(.t 1)], none, 0, 0⟩,
          ⟨(.some 22), .mv, [(.t 5)], none, 0, 0⟩,
          ⟨(.some 23), (.idxAddr 33), [(.t 21), (.t 22)], none, 0, 0⟩,
          ⟨(.some 24), (.load true 33), [(.t 23)], none, 0, 0⟩,
          ⟨(.some 25), (.eqAgg true (List.replicate 33 .i)), [(.t 20), (.t 24)], none, 0, 0⟩])
        (.cond (.t 25)
          (.seq
          (.ops [4] [
            ⟨(.some 4), .mv, [(.c (.bool false))], none, 0, 0⟩])
          .ret)
          .skip)))
      (.ops [0, 1, 5] [
        ⟨(.some 15), .mv, [(.t 5)], none, 0, 0⟩,
        ⟨(.some 16), (.arith .add), [(.t 15), (.c (.int .i64 1))], none, 0, 0⟩,
        ⟨(.some 5), .mv, [(.t 16)], none, 0, 0⟩]))))))
  (.seq
  (.ops [4] [
    ⟨(.some 4), .mv, [(.c (.bool true))], none, 0, 0⟩])
  .ret))))
def r19 : List ARes := [(.tmp 4)]
theorem ok19 : FnOk Try.prog 19 c19 r19 :=
  ⟨Try.f19, _, Try.func19, by kernel_rfl, rfl, by kernel_rfl, by kernel_rfl⟩
/-- rill/rillkit.SameInts -/
def c20 : ACode :=
  (.seq
  (.ops [0, 1] [
    ⟨(.some 4), .mv, [(.c (.bool false))], none, 0, 0⟩])
  (.seq
  (.seq
  (.ops [0, 1, 10] [
    ⟨(.some 6), .mv, [(.t 0)], none, 0, 0⟩,
    ⟨(.some 7), .len, [(.t 6)], none, 0, 0⟩,
    ⟨(.some 8), .mv, [(.t 1)], none, 0, 0⟩,
    ⟨(.some 9), .len, [(.t 8)], none, 0, 0⟩,
    ⟨(.some 10), (.eq true .int), [(.t 7), (.t 9)], none, 0, 0⟩])
  (.cond (.t 10)
    (.seq
    (.ops [4] [
      ⟨(.some 4), .mv, [(.c (.bool false))], none, 0, 0⟩])
    .ret)
    .skip))
  (.seq
  (.seq
  (.ops [0, 1, 5] [
    ⟨(.some 5), .mv, [(.c (.int .i64 0))], none, 0, 0⟩])
  (.block 0
    (.loop [0, 1, 5]
      (.seq
      (.seq
      (.ops [0, 1, 5, 14] [
        ⟨(.some 11), .mv, [(.t 5)], none, 0, 0⟩,
        ⟨(.some 12), .mv, [(.t 0)], none, 0, 0⟩,
        ⟨(.some 13), .len, [(.t 12)], none, 0, 0⟩,
        ⟨(.some 14), (.cmp .lss), [(.t 11), (.t 13)], none, 0, 0⟩])
      (.cond (.t 14)
        .skip
        (.exit 0)))
      (.seq
      (.block 1
        (.seq
        (.drawn [0, 1, 5, 25] [
          ⟨(.some 17), .mv, [(.t 0)], none, 0, 0⟩,
          ⟨(.some 18), .mv, [(.t 5)], none, 0, 0⟩,
          ⟨(.some 19), (.idxAddr 1), [(.t 17), (.t 18)], none, 0, 0⟩,
          ⟨(.some 20), (.load false 1), [(.t 19)], none, 0, 0⟩,
          ⟨(.some 21), .mv, [(.t 1)], none, 0, 0⟩,
          ⟨(.some 22), .mv, [(.t 5)], none, 0, 0⟩,
          ⟨(.some 23), (.idxAddr 1), [(.t 21), (.t 22)], none, 0, 0⟩,
          ⟨(.some 24), (.load false 1), [(.t 23)], none, 0, 0⟩,
          ⟨(.some 25), (.eq true .int), [(.t 20), (.t 24)], none, 0, 0⟩])
        (.cond (.t 25)
          (.seq
          (.ops [4] [
            ⟨(.some 4), .mv, [(.c (.bool false))], none, 0, 0⟩])
          .ret)
          .skip)))
      (.ops [0, 1, 5] [
        ⟨(.some 15), .mv, [(.t 5)], none, 0, 0⟩,
        ⟨(.some 16), (.arith .add), [(.t 15), (.c (.int .i64 1))], none, 0, 0⟩,
        ⟨(.some 5), .mv, [(.t 16)], none, 0, 0⟩]))))))
  (.seq
  (.ops [4] [
    ⟨(.some 4), .mv, [(.c (.bool true))], none, 0, 0⟩])
  .ret))))
def r20 : List ARes := [(.tmp 4)]
theorem ok20 : FnOk Try.prog 20 c20 r20 :=
  ⟨Try.f20, _, Try.func20, by kernel_rfl, rfl, by kernel_rfl, by kernel_rfl⟩
/-- (*rill/tree.Tree).Dirty -/
def c21 : ACode :=
  (.seq
  (.ops [0] [
    ⟨(.some 2), .mv, [(.c .nils)], none, 0, 0⟩])
  (.seq
  (.ops [0, 3] [
    ⟨(.some 3), .mv, [(.c .nils)], none, 0, 0⟩])
  (.seq
  (.seq
  (.ops [0, 3, 4] [
    ⟨(.some 4), .mv, [(.c (.int .i64 1))], none, 0, 0⟩])
  (.block 0
    (.loop [0, 3, 4]
      (.seq
      (.seq
      (.ops [0, 3, 4, 7] [
        ⟨(.some 6), .mv, [(.t 4)], none, 0, 0⟩,
        ⟨(.some 7), (.cmp .leq), [(.t 6), (.c (.int .i64 9))], none, 0, 0⟩])
      (.cond (.t 7)
        .skip
        (.exit 0)))
      (.seq
      (.block 1
        (.seq
        (.ops [0, 3, 4, 5] [
          ⟨(.some 10), .mv, [(.t 4)], none, 0, 0⟩,
          ⟨(.some 11), (.arith .rem), [(.t 10), (.c (.int .i64 9))], none, 0, 0⟩,
          ⟨(.some 5), .mv, [(.t 11)], none, 0, 0⟩])
        (.seq
        (.ops [0, 3, 4, 5, 19] [
          ⟨(.some 12), .mv, [(.t 0)], none, 0, 0⟩,
          ⟨(.some 13), .mv, [(.t 5)], none, 0, 0⟩,
          ⟨(.some 14), .nilCheck, [(.t 12)], none, 0, 0⟩,
          ⟨(.some 15), (.fieldAddr 2112), [(.t 14)], none, 0, 0⟩,
          ⟨(.some 16), (.idxAddrArr 9 34), [(.t 15), (.t 13)], none, 0, 0⟩,
          ⟨(.some 17), (.fieldAddr 0), [(.t 16)], none, 0, 0⟩,
          ⟨(.some 18), (.load false 1), [(.t 17)], none, 0, 0⟩,
          ⟨(.some 19), (.eq false .int), [(.t 18), (.c (.int .i64 2))], none, 0, 0⟩])
        (.cond (.t 19)
          (.ops [0, 3, 4] [
            ⟨(.some 20), .mv, [(.t 3)], none, 0, 0⟩,
            ⟨(.some 21), .mv, [(.t 5)], none, 0, 0⟩,
            ⟨(.some 22), (.mkSl 1 [(.int .i64 0)] [(0, 1)]), [(.t 21)], none, 0, 0⟩,
            ⟨(.some 23), (.append 1 8), [(.t 20), (.t 22)], none, 0, 0⟩,
            ⟨(.some 3), .mv, [(.t 23)], none, 0, 0⟩])
          .skip))))
      (.ops [0, 3, 4] [
        ⟨(.some 8), .mv, [(.t 4)], none, 0, 0⟩,
        ⟨(.some 9), (.arith .add), [(.t 8), (.c (.int .i64 1))], none, 0, 0⟩,
        ⟨(.some 4), .mv, [(.t 9)], none, 0, 0⟩]))))))
  (.seq
  (.ops [2] [
    ⟨(.some 24), .mv, [(.t 3)], none, 0, 0⟩,
    ⟨(.some 2), .mv, [(.t 24)], none, 0, 0⟩])
  .ret))))
def r21 : List ARes := [(.tmp 2)]
theorem ok21 : FnOk Try.prog 21 c21 r21 :=
  ⟨Try.f21, _, Try.func21, by kernel_rfl, rfl, by kernel_rfl, by kernel_rfl⟩
/-- rill/rillkit.Pick -/
def c22 : ACode :=
  (.seq
  (.ops [0, 1] [
    ⟨(.some 4), .mv, [(.c (.int .i64 0))], none, 0, 0⟩])
  (.seq
  (.seq
  (.ops [0, 1, 6] [
    ⟨(.some 5), .mv, [(.t 1)], none, 0, 0⟩,
    ⟨(.some 6), (.cmp .lss), [(.t 5), (.c (.int .i64 1))], none, 0, 0⟩])
  (.cond (.t 6)
    (.seq
    (.ops [4] [
      ⟨(.some 4), .mv, [(.c (.int .i64 0))], none, 0, 0⟩])
    .ret)
    .skip))
  (.seq
  (.ops [0, 1] [
    ⟨(.some 7), .mv, [(.t 0)], none, 0, 0⟩,
    ⟨(.some 8), .mv, [(.t 1)], none, 0, 0⟩,
    ⟨(.some 9), (.arith .rem), [(.t 7), (.t 8)], none, 0, 0⟩,
    ⟨(.some 0), .mv, [(.t 9)], none, 0, 0⟩])
  (.seq
  (.seq
  (.ops [0, 1, 11] [
    ⟨(.some 10), .mv, [(.t 0)], none, 0, 0⟩,
    ⟨(.some 11), (.cmp .lss), [(.t 10), (.c (.int .i64 0))], none, 0, 0⟩])
  (.cond (.t 11)
    (.ops [0] [
      ⟨(.some 12), .mv, [(.t 0)], none, 0, 0⟩,
      ⟨(.some 13), .mv, [(.t 1)], none, 0, 0⟩,
      ⟨(.some 14), (.arith .add), [(.t 12), (.t 13)], none, 0, 0⟩,
      ⟨(.some 0), .mv, [(.t 14)], none, 0, 0⟩])
    .skip))
  (.seq
  (.ops [4] [
    ⟨(.some 15), .mv, [(.t 0)], none, 0, 0⟩,
    ⟨(.some 4), .mv, [(.t 15)], none, 0, 0⟩])
  .ret)))))
def r22 : List ARes := [(.tmp 4)]
theorem ok22 : FnOk Try.prog 22 c22 r22 :=
  ⟨Try.f22, _, Try.func22, by kernel_rfl, rfl, by kernel_rfl, by kernel_rfl⟩
/-- rill/rilllaw18.ref -/
def c23 : ACode :=
  (.seq
  (.ops [0, 2] [
    ⟨(.some 2), (.alloc ([(.int .i64 0)] ++ (List.replicate 32 (.int .u8 0)))), [], none, 0, 0⟩])
  (.seq
  (.ops [2] [
    ⟨(.some 3), .mv, [(.t 0)], none, 0, 0⟩,
    ⟨(.some 4), (.build ([(.int .i64 0)] ++ (List.replicate 32 (.int .u8 0))) [(0, 1)]), [(.t 3)], none, 0, 0⟩,
    ⟨none, (.store 33), [(.t 2), (.t 4)], none, 0, 0⟩])
  .ret))
def r23 : List ARes := [(.cell 2 true 33)]
theorem ok23 : FnOk Try.prog 23 c23 r23 :=
  ⟨Try.f23, _, Try.func23, by kernel_rfl, rfl, by kernel_rfl, by kernel_rfl⟩
/-- (*rill/tree.Tree).Saved -/
def c24 : ACode :=
  (.seq
  (.ops [0, 1, 5] [
    ⟨(.some 5), .box, [(.t 2)], none, 0, 0⟩,
    ⟨(.some 6), .mv, [(.c (.int .i64 0))], none, 0, 0⟩])
  (.seq
  (.ops [0, 1, 5, 7] [
    ⟨(.some 8), .mv, [(.t 0)], none, 0, 0⟩,
    ⟨(.some 9), (.call 21), [(.t 8)], none, 0, 0⟩,
    ⟨(.some 7), .mv, [(.t 9)], none, 0, 0⟩])
  (.seq
  (.block 0
    (.seq
    (.ops [0, 1, 5, 10] [
      ⟨(.some 11), .mv, [(.t 7)], none, 0, 0⟩,
      ⟨(.some 12), .mv, [(.t 1)], none, 0, 0⟩,
      ⟨(.some 13), (.call 35), [(.t 11), (.t 12)], none, 0, 0⟩,
      ⟨(.some 14), .not, [(.t 13)], none, 0, 0⟩,
      ⟨(.some 15), .mv, [(.t 14)], none, 0, 0⟩,
      ⟨(.some 16), .mv, [(.t 1)], (.some (15, false)), 0, 0⟩,
      ⟨(.some 17), (.eq false .int), [(.t 16), (.c (.int .i64 0))], (.some (15, false)), 0, 0⟩,
      ⟨(.some 18), .mv, [(.t 17)], (.some (15, false)), 0, 0⟩,
      ⟨(.some 19), .mv, [(.t 7)], (.some (18, true)), 0, 0⟩,
      ⟨(.some 20), .len, [(.t 19)], (.some (18, true)), 0, 0⟩,
      ⟨(.some 21), (.cmp .gtr), [(.t 20), (.c (.int .i64 1))], (.some (18, true)), 0, 0⟩,
      ⟨(.some 22), .pick, [(.t 18), (.t 21), (.c (.bool false))], (.some (15, false)), 0, 0⟩,
      ⟨(.some 23), .pick, [(.t 15), (.c (.bool true)), (.t 22)], none, 0, 0⟩,
      ⟨(.some 10), .mv, [(.t 23)], none, 0, 0⟩])
    (.cond (.t 10)
      (.seq
      (.ops [6] [
        ⟨(.some 6), .mv, [(.c (.int .i64 16))], none, 0, 0⟩])
      .ret)
      (.seq
      (.ops [0, 1, 5, 24] [
        ⟨(.some 25), .mv, [(.t 1)], none, 0, 0⟩,
        ⟨(.some 26), (.eq false .int), [(.t 25), (.c (.int .i64 0))], none, 0, 0⟩,
        ⟨(.some 27), .mv, [(.t 26)], none, 0, 0⟩,
        ⟨(.some 28), .mv, [(.t 0)], (.some (27, true)), 0, 0⟩,
        ⟨(.some 29), (.call 36), [(.t 28)], (.some (27, true)), 0, 0⟩,
        ⟨(.some 30), .pick, [(.t 27), (.t 29), (.c (.bool false))], none, 0, 0⟩,
        ⟨(.some 24), .mv, [(.t 30)], none, 0, 0⟩])
      (.cond (.t 24)
        (.seq
        (.ops [0, 1, 5, 33] [
          ⟨(.some 31), (.load true 33), [(.t 5)], none, 0, 0⟩,
          ⟨(.some 32), (.build ([(.int .i64 0)] ++ (List.replicate 32 (.int .u8 0))) []), [], none, 0, 0⟩,
          ⟨(.some 33), (.eqAgg true (List.replicate 33 .i)), [(.t 31), (.t 32)], none, 0, 0⟩])
        (.cond (.t 33)
          (.seq
          (.ops [6] [
            ⟨(.some 6), .mv, [(.c (.int .i64 7))], none, 0, 0⟩])
          .ret)
          .skip))
        (.seq
        (.ops [0, 1, 5, 34] [
          ⟨(.some 35), (.fieldAddr 0), [(.t 5)], none, 0, 0⟩,
          ⟨(.some 36), (.load false 1), [(.t 35)], none, 0, 0⟩,
          ⟨(.some 37), (.cmp .lss), [(.t 36), (.c (.int .i64 1))], none, 0, 0⟩,
          ⟨(.some 34), .mv, [(.t 37)], none, 0, 0⟩])
        (.cond (.t 34)
          (.seq
          (.ops [6] [
            ⟨(.some 6), .mv, [(.c (.int .i64 7))], none, 0, 0⟩])
          .ret)
          .skip)))))))
  (.seq
  (.drawn [] [
    ⟨(.some 38), .mv, [(.t 0)], none, 0, 0⟩,
    ⟨(.some 39), .mv, [(.t 1)], none, 0, 0⟩,
    ⟨(.some 40), (.load true 33), [(.t 5)], none, 0, 0⟩,
    ⟨(.some 41), (.build ([(.int .i64 0), (.int .i64 0)] ++ (List.replicate 32 (.int .u8 0))) [(0, 1), (1, 33)]), [(.c (.int .i64 1)), (.t 40)], none, 0, 0⟩,
    ⟨(.some 42), .nilCheck, [(.t 38)], none, 0, 0⟩,
    ⟨(.some 43), (.fieldAddr 2112), [(.t 42)], none, 0, 0⟩,
    ⟨(.some 44), (.idxAddrArr 9 34), [(.t 43), (.t 39)], none, 0, 0⟩,
    ⟨none, (.store 34), [(.t 44), (.t 41)], none, 0, 1⟩])
  (.seq
  (.ops [6] [
    ⟨(.some 6), .mv, [(.c (.int .i64 0))], none, 0, 0⟩])
  .ret)))))
def r24 : List ARes := [(.tmp 6)]
theorem ok24 : FnOk Try.prog 24 c24 r24 :=
  ⟨Try.f24, _, Try.func24, by kernel_rfl, rfl, by kernel_rfl, by kernel_rfl⟩
/-- (*rill/tree.Tree).Load -/
def c25 : ACode :=
  (.seq
  (.ops [0, 1, 6, 7] [
    ⟨(.some 6), .box, [(.t 2)], none, 0, 0⟩,
    ⟨(.some 7), .box, [(.t 3)], none, 0, 0⟩,
    ⟨(.some 8), .mv, [(.c (.int .i64 0))], none, 0, 0⟩])
  (.seq
  (.block 0
    (.seq
    (.ops [0, 1, 6, 7, 12] [
      ⟨(.some 13), .mv, [(.t 1)], none, 0, 0⟩,
      ⟨(.some 14), (.call 33), [(.t 13), (.c (.int .i64 0)), (.c (.int .i64 8))], none, 0, 0⟩,
      ⟨(.some 15), .not, [(.t 14)], none, 0, 0⟩,
      ⟨(.some 16), .mv, [(.t 15)], none, 0, 0⟩,
      ⟨(.some 17), (.fieldAddr 0), [(.t 7)], (.some (16, false)), 0, 0⟩,
      ⟨(.some 18), (.load false 1), [(.t 17)], (.some (16, false)), 0, 0⟩,
      ⟨(.some 19), (.cmp .lss), [(.t 18), (.c (.int .i64 1))], (.some (16, false)), 0, 0⟩,
      ⟨(.some 20), .pick, [(.t 16), (.c (.bool true)), (.t 19)], none, 0, 0⟩,
      ⟨(.some 12), .mv, [(.t 20)], none, 0, 0⟩])
    (.cond (.t 12)
      (.seq
      (.ops [8] [
        ⟨(.some 8), .mv, [(.c (.int .i64 7))], none, 0, 0⟩])
      .ret)
      (.seq
      (.ops [0, 1, 6, 7, 21] [
        ⟨(.some 22), .mv, [(.t 0)], none, 0, 0⟩,
        ⟨(.some 23), .mv, [(.t 1)], none, 0, 0⟩,
        ⟨(.some 24), .nilCheck, [(.t 22)], none, 0, 0⟩,
        ⟨(.some 25), (.fieldAddr 2112), [(.t 24)], none, 0, 0⟩,
        ⟨(.some 26), (.idxAddrArr 9 34), [(.t 25), (.t 23)], none, 0, 0⟩,
        ⟨(.some 27), (.load true 34), [(.t 26)], none, 0, 0⟩,
        ⟨(.some 28), (.build ([(.int .i64 0), (.int .i64 0)] ++ (List.replicate 32 (.int .u8 0))) []), [], none, 0, 0⟩,
        ⟨(.some 29), (.eqAgg true (List.replicate 34 .i)), [(.t 27), (.t 28)], none, 0, 0⟩,
        ⟨(.some 30), .mv, [(.t 29)], none, 0, 0⟩,
        ⟨(.some 31), .mv, [(.t 0)], (.some (30, true)), 0, 0⟩,
        ⟨(.some 32), .mv, [(.t 1)], (.some (30, true)), 0, 0⟩,
        ⟨(.some 33), .nilCheck, [(.t 31)], (.some (30, true)), 0, 0⟩,
        ⟨(.some 34), (.fieldAddr 2112), [(.t 33)], (.some (30, true)), 0, 0⟩,
        ⟨(.some 35), (.idxAddrArr 9 34), [(.t 34), (.t 32)], (.some (30, true)), 0, 0⟩,
        ⟨(.some 36), (.load true 34), [(.t 35)], (.some (30, true)), 0, 0⟩,
        ⟨(.some 37), (.build ([(.int .i64 0), (.int .i64 0)] ++ (List.replicate 32 (.int .u8 0))) [(0, 1)]), [(.c (.int .i64 1))], (.some (30, true)), 0, 0⟩,
        ⟨(.some 38), (.eqAgg true (List.replicate 34 .i)), [(.t 36), (.t 37)], (.some (30, true)), 0, 0⟩,
        ⟨(.some 39), .pick, [(.t 30), (.t 38), (.c (.bool false))], none, 0, 0⟩,
        ⟨(.some 21), .mv, [(.t 39)], none, 0, 0⟩])
      (.cond (.t 21)
        (.seq
        (.ops [8] [
          ⟨(.some 8), .mv, [(.c (.int .i64 16))], none, 0, 0⟩])
        .ret)
        .skip)))))
  (.seq
  (.seq
  (.ops [0, 1, 6, 7, 41] [
    ⟨(.some 40), .mv, [(.t 1)], none, 0, 0⟩,
    ⟨(.some 41), (.cmp .gtr), [(.t 40), (.c (.int .i64 0))], none, 0, 0⟩])
  (.cond (.t 41)
    (.seq
    (.ops [0, 1, 6, 7, 9] [
      ⟨(.some 9), .mv, [(.c (.bool false))], none, 0, 0⟩])
    (.seq
    (.seq
    (.ops [0, 1, 6, 7, 9, 43, 44] [
      ⟨(.some 42), (.fieldAddr 0), [(.t 6)], none, 0, 0⟩,
      ⟨(.some 43), (.load true 264), [(.t 42)], none, 0, 0⟩,
      ⟨(.some 44), .mv, [(.c (.int .i64 0))], none, 0, 0⟩])
    (.block 1
      (.loop [0, 1, 6, 7, 9, 43, 44]
        (.seq
        (.ops [0, 1, 6, 7, 9, 43, 44, 45] [
          ⟨(.some 45), (.cmp .lss), [(.t 44), (.c (.int .i64 8))], none, 0, 0⟩])
        (.seq
        (.cond (.t 45)
          .skip
          (.exit 1))
        (.seq
        (.block 2
          (.seq
          (.ops [0, 1, 6, 7, 9, 10, 11, 43, 44] [
            ⟨(.some 46), .mv, [(.t 44)], none, 0, 0⟩,
            ⟨(.some 47), (.idxArr 8 33 true), [(.t 43), (.t 44)], none, 0, 0⟩,
            ⟨(.some 11), (.alloc ([(.int .i64 0)] ++ (List.replicate 32 (.int .u8 0)))), [], none, 0, 0⟩,
            ⟨(.some 10), .mv, [(.t 46)], none, 0, 0⟩,
            ⟨none, (.store 33), [(.t 11), (.t 47)], none, 0, 0⟩])
          (.seq
          (.seq
          (.ops [0, 1, 6, 7, 9, 10, 11, 43, 44, 50] [
            ⟨(.some 48), (.fieldAddr 0), [(.t 11)], none, 0, 0⟩,
            ⟨(.some 49), (.load false 1), [(.t 48)], none, 0, 0⟩,
            ⟨(.some 50), (.cmp .lss), [(.t 49), (.c (.int .i64 1))], none, 0, 0⟩])
          (.cond (.t 50)
            (.ops [0, 1, 6, 7, 9, 10, 11, 43, 44] [
              ⟨(.some 51), (.build ([(.int .i64 0)] ++ (List.replicate 32 (.int .u8 0))) []), [], none, 0, 0⟩,
              ⟨none, (.store 33), [(.t 11), (.t 51)], none, 0, 0⟩])
            .skip))
          (.seq
          (.ops [0, 1, 6, 7, 9, 10, 11, 43, 44] [
            ⟨(.some 52), .mv, [(.t 9)], none, 0, 0⟩,
            ⟨(.some 53), .mv, [(.t 52)], none, 0, 0⟩,
            ⟨(.some 54), (.fieldAddr 0), [(.t 11)], (.some (53, false)), 0, 0⟩,
            ⟨(.some 55), (.load false 1), [(.t 54)], (.some (53, false)), 0, 0⟩,
            ⟨(.some 56), (.cmp .gtr), [(.t 55), (.c (.int .i64 0))], (.some (53, false)), 0, 0⟩,
            ⟨(.some 57), .pick, [(.t 53), (.c (.bool true)), (.t 56)], none, 0, 0⟩,
            ⟨(.some 9), .mv, [(.t 57)], none, 0, 0⟩])
          (.ops [0, 1, 6, 7, 9, 43, 44] [
            ⟨(.some 58), .mv, [(.t 10)], none, 0, 0⟩,
            ⟨(.some 59), (.load true 33), [(.t 11)], none, 0, 0⟩,
            ⟨(.some 60), (.fieldAddr 0), [(.t 6)], none, 0, 0⟩,
            ⟨(.some 61), (.idxAddrArr 8 33), [(.t 60), (.t 58)], none, 0, 0⟩,
            ⟨none, (.store 33), [(.t 61), (.t 59)], none, 0, 0⟩])))))
        (.ops [0, 1, 6, 7, 9, 43, 44] [
          ⟨(.some 62), (.arith .add), [(.t 44), (.c (.int .i64 1))], none, 0, 0⟩,
          ⟨(.some 44), .mv, [(.t 62)], none, 0, 0⟩])))))))
    (.seq
    (.seq
    (.ops [0, 1, 6, 7, 64] [
      ⟨(.some 63), .mv, [(.t 9)], none, 0, 0⟩,
      ⟨(.some 64), .not, [(.t 63)], none, 0, 0⟩])
    (.cond (.t 64)
      (.seq
      (.ops [8] [
        ⟨(.some 8), .mv, [(.c (.int .i64 7))], none, 0, 0⟩])
      .ret)
      .skip))
    (.drawn [0, 1, 7] [
      ⟨(.some 65), .mv, [(.t 0)], none, 0, 0⟩,
      ⟨(.some 66), .mv, [(.t 1)], none, 0, 0⟩,
      ⟨(.some 67), (.call 34), [(.t 65), (.t 66)], none, 0, 1⟩,
      ⟨(.some 68), (.fieldAddr 0), [(.t 6)], none, 0, 1⟩,
      ⟨(.some 69), (.sliceArr 8 33 false false false), [(.t 68)], none, 0, 1⟩,
      ⟨(.some 70), (.copy 33), [(.t 67), (.t 69)], none, 1, 2⟩]))))
    .skip))
  (.seq
  (.drawn [] [
    ⟨(.some 71), .mv, [(.t 0)], none, 0, 0⟩,
    ⟨(.some 72), .mv, [(.t 1)], none, 0, 0⟩,
    ⟨(.some 73), (.load true 33), [(.t 7)], none, 0, 0⟩,
    ⟨(.some 74), (.build ([(.int .i64 0), (.int .i64 0)] ++ (List.replicate 32 (.int .u8 0))) [(0, 1), (1, 33)]), [(.c (.int .i64 1)), (.t 73)], none, 0, 0⟩,
    ⟨(.some 75), .nilCheck, [(.t 71)], none, 0, 0⟩,
    ⟨(.some 76), (.fieldAddr 2112), [(.t 75)], none, 0, 0⟩,
    ⟨(.some 77), (.idxAddrArr 9 34), [(.t 76), (.t 72)], none, 0, 0⟩,
    ⟨none, (.store 34), [(.t 77), (.t 74)], none, 0, 1⟩])
  (.seq
  (.ops [8] [
    ⟨(.some 8), .mv, [(.c (.int .i64 0))], none, 0, 0⟩])
  .ret)))))
def r25 : List ARes := [(.tmp 8)]
theorem ok25 : FnOk Try.prog 25 c25 r25 :=
  ⟨Try.f25, _, Try.func25, by kernel_rfl, rfl, by kernel_rfl, by kernel_rfl⟩
/-- rill/rillref18.New -/
def c26 : ACode :=
  (.seq
  (.ops [] [
    ⟨(.some 0), .mv, [(.c .nilp)], none, 0, 0⟩])
  (.seq
  (.ops [0] [
    ⟨(.some 1), (.build ([(.int .i64 0), (.bool false), (.int .i64 0)] ++ (List.replicate 32 (.int .u8 0))) [(0, 1)]), [(.c (.int .i64 0))], none, 0, 0⟩,
    ⟨(.some 2), (.mkSl 1 ([(.int .i64 0), (.bool false), (.int .i64 0)] ++ (List.replicate 32 (.int .u8 0))) [(0, 35)]), [(.t 1)], none, 0, 0⟩,
    ⟨(.some 3), (.build [.nils, .nils] [(1, 1)]), [(.t 2)], none, 0, 0⟩,
    ⟨(.some 4), .box, [(.t 3)], none, 0, 0⟩,
    ⟨(.some 0), .mv, [(.t 4)], none, 0, 0⟩])
  .ret))
def r26 : List ARes := [(.tmp 0)]
theorem ok26 : FnOk Try.prog 26 c26 r26 :=
  ⟨Try.f26, _, Try.func26, by kernel_rfl, rfl, by kernel_rfl, by kernel_rfl⟩
/-- rill/rilllaw18.alike -/
def c27 : ACode :=
  (.seq
  (.ops [0, 1] [
    ⟨(.some 4), .mv, [(.c (.bool false))], none, 0, 0⟩])
  (.seq
  (.ops [0, 1, 5] [
    ⟨(.some 17), .mv, [(.t 0)], none, 0, 0⟩,
    ⟨(.some 18), (.call 11), [(.t 17)], none, 0, 0⟩,
    ⟨(.some 5), .mv, [(.t 18)], none, 0, 0⟩])
  (.seq
  (.ops [0, 1, 5, 6] [
    ⟨(.some 19), .mv, [(.t 0)], none, 0, 0⟩,
    ⟨(.some 20), (.call 21), [(.t 19)], none, 0, 0⟩,
    ⟨(.some 6), .mv, [(.t 20)], none, 0, 0⟩])
  (.seq
  (.seq
  (.ops [0, 1, 5, 6, 39] [
    ⟨(.some 21), .mv, [(.t 5)], none, 0, 0⟩,
    ⟨(.some 22), .mv, [(.t 1)], none, 0, 0⟩,
    ⟨(.some 23), (.call 37), [(.t 22)], none, 0, 0⟩,
    ⟨(.some 24), (.call 19), [(.t 21), (.t 23)], none, 0, 0⟩,
    ⟨(.some 25), .not, [(.t 24)], none, 0, 0⟩,
    ⟨(.some 26), .mv, [(.t 25)], none, 0, 0⟩,
    ⟨(.some 27), .mv, [(.t 6)], (.some (26, false)), 0, 0⟩,
    ⟨(.some 28), .mv, [(.t 1)], (.some (26, false)), 0, 0⟩,
    ⟨(.some 29), (.call 38), [(.t 28)], (.some (26, false)), 0, 0⟩,
    ⟨(.some 30), (.call 20), [(.t 27), (.t 29)], (.some (26, false)), 0, 0⟩,
    ⟨(.some 31), .not, [(.t 30)], (.some (26, false)), 0, 0⟩,
    ⟨(.some 32), .pick, [(.t 26), (.c (.bool true)), (.t 31)], none, 0, 0⟩,
    ⟨(.some 33), .mv, [(.t 32)], none, 0, 0⟩,
    ⟨(.some 34), .mv, [(.t 0)], (.some (33, false)), 0, 0⟩,
    ⟨(.some 35), (.call 15), [(.t 34)], (.some (33, false)), 0, 0⟩,
    ⟨(.some 36), .mv, [(.t 1)], (.some (33, false)), 0, 0⟩,
    ⟨(.some 37), (.call 39), [(.t 36)], (.some (33, false)), 0, 0⟩,
    ⟨(.some 38), (.eq true .int), [(.t 35), (.t 37)], (.some (33, false)), 0, 0⟩,
    ⟨(.some 39), .pick, [(.t 33), (.c (.bool true)), (.t 38)], none, 0, 0⟩])
  (.cond (.t 39)
    (.seq
    (.ops [4] [
      ⟨(.some 4), .mv, [(.c (.bool false))], none, 0, 0⟩])
    .ret)
    .skip))
  (.seq
  (.ops [0, 1, 6] [
    ⟨(.some 40), .mv, [(.t 5)], none, 0, 0⟩,
    ⟨(.some 41), (.call 40), [(.t 40)], none, 0, 0⟩])
  (.seq
  (.ops [0, 1] [
    ⟨(.some 42), .mv, [(.t 6)], none, 0, 0⟩,
    ⟨(.some 43), (.call 41), [(.t 42)], none, 0, 0⟩])
  (.seq
  (.seq
  (.ops [0, 1, 7] [
    ⟨(.some 7), .mv, [(.c (.int .i64 (-1)))], none, 0, 0⟩])
  (.block 0
    (.loop [0, 1, 7]
      (.seq
      (.seq
      (.ops [0, 1, 7, 45] [
        ⟨(.some 44), .mv, [(.t 7)], none, 0, 0⟩,
        ⟨(.some 45), (.cmp .leq), [(.t 44), (.c (.int .i64 9))], none, 0, 0⟩])
      (.cond (.t 45)
        .skip
        (.exit 0)))
      (.seq
      (.block 1
        (.seq
        (.ops [0, 1, 7, 8, 9] [
          ⟨(.some 49), .mv, [(.t 0)], none, 0, 0⟩,
          ⟨(.some 50), .mv, [(.t 7)], none, 0, 0⟩,
          ⟨(.some 51), (.call 17), [(.t 49), (.t 50)], none, 0, 0⟩,
          ⟨(.some 48), .mv, [(.t 51)], none, 0, 0⟩,
          ⟨(.some 52), (.extract 0), [(.t 48)], none, 0, 0⟩,
          ⟨(.some 53), (.extract 1), [(.t 48)], none, 0, 0⟩,
          ⟨(.some 8), (.alloc ([(.int .i64 0)] ++ (List.replicate 32 (.int .u8 0)))), [], none, 0, 0⟩,
          ⟨none, (.store 33), [(.t 8), (.t 52)], none, 0, 0⟩,
          ⟨(.some 9), .mv, [(.t 53)], none, 0, 0⟩])
        (.seq
        (.ops [0, 1, 7, 8, 9, 10, 11] [
          ⟨(.some 55), .mv, [(.t 1)], none, 0, 0⟩,
          ⟨(.some 56), .mv, [(.t 7)], none, 0, 0⟩,
          ⟨(.some 57), (.call 42), [(.t 55), (.t 56)], none, 0, 0⟩,
          ⟨(.some 54), .mv, [(.t 57)], none, 0, 0⟩,
          ⟨(.some 58), (.extract 0), [(.t 54)], none, 0, 0⟩,
          ⟨(.some 59), (.extract 1), [(.t 54)], none, 0, 0⟩,
          ⟨(.some 10), (.alloc ([(.int .i64 0)] ++ (List.replicate 32 (.int .u8 0)))), [], none, 0, 0⟩,
          ⟨none, (.store 33), [(.t 10), (.t 58)], none, 0, 0⟩,
          ⟨(.some 11), .mv, [(.t 59)], none, 0, 0⟩])
        (.seq
        (.ops [0, 1, 7, 76] [
          ⟨(.some 60), (.load true 33), [(.t 8)], none, 0, 0⟩,
          ⟨(.some 61), (.load true 33), [(.t 10)], none, 0, 0⟩,
          ⟨(.some 62), (.eqAgg true (List.replicate 33 .i)), [(.t 60), (.t 61)], none, 0, 0⟩,
          ⟨(.some 63), .mv, [(.t 62)], none, 0, 0⟩,
          ⟨(.some 64), .mv, [(.t 9)], (.some (63, false)), 0, 0⟩,
          ⟨(.some 65), .mv, [(.t 11)], (.some (63, false)), 0, 0⟩,
          ⟨(.some 66), (.eq true .bool), [(.t 64), (.t 65)], (.some (63, false)), 0, 0⟩,
          ⟨(.some 67), .pick, [(.t 63), (.c (.bool true)), (.t 66)], none, 0, 0⟩,
          ⟨(.some 68), .mv, [(.t 67)], none, 0, 0⟩,
          ⟨(.some 69), .mv, [(.t 0)], (.some (68, false)), 0, 0⟩,
          ⟨(.some 70), .mv, [(.t 7)], (.some (68, false)), 0, 0⟩,
          ⟨(.some 71), (.call 18), [(.t 69), (.t 70)], (.some (68, false)), 0, 0⟩,
          ⟨(.some 72), .mv, [(.t 1)], (.some (68, false)), 0, 0⟩,
          ⟨(.some 73), .mv, [(.t 7)], (.some (68, false)), 0, 0⟩,
          ⟨(.some 74), (.call 43), [(.t 72), (.t 73)], (.some (68, false)), 0, 0⟩,
          ⟨(.some 75), (.eqAgg true (List.replicate 264 .i)), [(.t 71), (.t 74)], (.some (68, false)), 0, 0⟩,
          ⟨(.some 76), .pick, [(.t 68), (.c (.bool true)), (.t 75)], none, 0, 0⟩])
        (.cond (.t 76)
          (.seq
          (.ops [4] [
            ⟨(.some 4), .mv, [(.c (.bool false))], none, 0, 0⟩])
          .ret)
          .skip)))))
      (.ops [0, 1, 7] [
        ⟨(.some 46), .mv, [(.t 7)], none, 0, 0⟩,
        ⟨(.some 47), (.arith .add), [(.t 46), (.c (.int .i64 1))], none, 0, 0⟩,
        ⟨(.some 7), .mv, [(.t 47)], none, 0, 0⟩]))))))
  (.seq
  (.seq
  (.ops [0, 1, 12] [
    ⟨(.some 12), .mv, [(.c (.int .i64 (-1)))], none, 0, 0⟩])
  (.block 2
    (.loop [0, 1, 12]
      (.seq
      (.seq
      (.ops [0, 1, 12, 78] [
        ⟨(.some 77), .mv, [(.t 12)], none, 0, 0⟩,
        ⟨(.some 78), (.cmp .leq), [(.t 77), (.c (.int .i64 64))], none, 0, 0⟩])
      (.cond (.t 78)
        .skip
        (.exit 2)))
      (.seq
      (.block 3
        (.seq
        (.ops [0, 1, 12, 13, 14] [
          ⟨(.some 82), .mv, [(.t 0)], none, 0, 0⟩,
          ⟨(.some 83), .mv, [(.t 12)], none, 0, 0⟩,
          ⟨(.some 84), (.call 14), [(.t 82), (.t 83)], none, 0, 0⟩,
          ⟨(.some 81), .mv, [(.t 84)], none, 0, 0⟩,
          ⟨(.some 85), (.extract 0), [(.t 81)], none, 0, 0⟩,
          ⟨(.some 86), (.extract 1), [(.t 81)], none, 0, 0⟩,
          ⟨(.some 13), (.alloc ([(.int .i64 0)] ++ (List.replicate 32 (.int .u8 0)))), [], none, 0, 0⟩,
          ⟨none, (.store 33), [(.t 13), (.t 85)], none, 0, 0⟩,
          ⟨(.some 14), .mv, [(.t 86)], none, 0, 0⟩])
        (.seq
        (.ops [0, 1, 12, 13, 14, 15, 16] [
          ⟨(.some 88), .mv, [(.t 1)], none, 0, 0⟩,
          ⟨(.some 89), .mv, [(.t 12)], none, 0, 0⟩,
          ⟨(.some 90), (.call 44), [(.t 88), (.t 89)], none, 0, 0⟩,
          ⟨(.some 87), .mv, [(.t 90)], none, 0, 0⟩,
          ⟨(.some 91), (.extract 0), [(.t 87)], none, 0, 0⟩,
          ⟨(.some 92), (.extract 1), [(.t 87)], none, 0, 0⟩,
          ⟨(.some 15), (.alloc ([(.int .i64 0)] ++ (List.replicate 32 (.int .u8 0)))), [], none, 0, 0⟩,
          ⟨none, (.store 33), [(.t 15), (.t 91)], none, 0, 0⟩,
          ⟨(.some 16), .mv, [(.t 92)], none, 0, 0⟩])
        (.seq
        (.ops [0, 1, 12, 100] [
          ⟨(.some 93), (.load true 33), [(.t 13)], none, 0, 0⟩,
          ⟨(.some 94), (.load true 33), [(.t 15)], none, 0, 0⟩,
          ⟨(.some 95), (.eqAgg true (List.replicate 33 .i)), [(.t 93), (.t 94)], none, 0, 0⟩,
          ⟨(.some 96), .mv, [(.t 95)], none, 0, 0⟩,
          ⟨(.some 97), .mv, [(.t 14)], (.some (96, false)), 0, 0⟩,
          ⟨(.some 98), .mv, [(.t 16)], (.some (96, false)), 0, 0⟩,
          ⟨(.some 99), (.eq true .bool), [(.t 97), (.t 98)], (.some (96, false)), 0, 0⟩,
          ⟨(.some 100), .pick, [(.t 96), (.c (.bool true)), (.t 99)], none, 0, 0⟩])
        (.cond (.t 100)
          (.seq
          (.ops [4] [
            ⟨(.some 4), .mv, [(.c (.bool false))], none, 0, 0⟩])
          .ret)
          .skip)))))
      (.ops [0, 1, 12] [
        ⟨(.some 79), .mv, [(.t 12)], none, 0, 0⟩,
        ⟨(.some 80), (.arith .add), [(.t 79), (.c (.int .i64 1))], none, 0, 0⟩,
        ⟨(.some 12), .mv, [(.t 80)], none, 0, 0⟩]))))))
  (.seq
  (.ops [4] [
    ⟨(.some 101), .mv, [(.t 0)], none, 0, 0⟩,
    ⟨(.some 102), (.call 11), [(.t 101)], none, 0, 0⟩,
    ⟨(.some 103), .mv, [(.t 1)], none, 0, 0⟩,
    ⟨(.some 104), (.call 37), [(.t 103)], none, 0, 0⟩,
    ⟨(.some 105), (.call 19), [(.t 102), (.t 104)], none, 0, 0⟩,
    ⟨(.some 4), .mv, [(.t 105)], none, 0, 0⟩])
  .ret)))))))))
def r27 : List ARes := [(.tmp 4)]
theorem ok27 : FnOk Try.prog 27 c27 r27 :=
  ⟨Try.f27, _, Try.func27, by kernel_rfl, rfl, by kernel_rfl, by kernel_rfl⟩
/-- rill/rilllaw18.both -/
def c28 : ACode :=
  (.seq
  (.ops [0, 1, 5] [
    ⟨(.some 5), .box, [(.t 2)], none, 0, 0⟩,
    ⟨(.some 6), .mv, [(.c (.bool false))], none, 0, 0⟩])
  (.seq
  (.ops [0, 1, 5, 7, 8] [
    ⟨(.some 7), .mv, [(.c .nils)], none, 0, 0⟩,
    ⟨(.some 8), .mv, [(.c .nils)], none, 0, 0⟩])
  (.seq
  (.seq
  (.ops [0, 1, 5, 7, 8, 11] [
    ⟨(.some 10), (.fieldAddr 0), [(.t 5)], none, 0, 0⟩,
    ⟨(.some 11), (.load false 1), [(.t 10)], none, 0, 0⟩])
  (.block 0
    (.seq
    (.ops [0, 1, 5, 7, 8, 11, 12] [
      ⟨(.some 13), (.eq false .int), [(.t 11), (.c (.int .i64 0))], none, 0, 0⟩,
      ⟨(.some 12), .mv, [(.t 13)], none, 0, 0⟩])
    (.cond (.t 12)
      (.seq
      (.ops [1, 5, 7] [
        ⟨(.some 14), .mv, [(.t 0)], none, 0, 0⟩,
        ⟨(.some 15), (.fieldAddr 1), [(.t 5)], none, 0, 0⟩,
        ⟨(.some 16), (.load false 1), [(.t 15)], none, 0, 0⟩,
        ⟨(.some 17), (.fieldAddr 2), [(.t 5)], none, 0, 0⟩,
        ⟨(.some 18), (.load true 33), [(.t 17)], none, 0, 0⟩,
        ⟨(.some 19), (.call 29), [(.t 14), (.t 16), (.t 18)], none, 0, 0⟩,
        ⟨(.some 7), .mv, [(.t 19)], none, 0, 0⟩])
      (.ops [7, 8] [
        ⟨(.some 20), .mv, [(.t 1)], none, 0, 0⟩,
        ⟨(.some 21), (.fieldAddr 1), [(.t 5)], none, 0, 0⟩,
        ⟨(.some 22), (.load false 1), [(.t 21)], none, 0, 0⟩,
        ⟨(.some 23), (.fieldAddr 2), [(.t 5)], none, 0, 0⟩,
        ⟨(.some 24), (.load true 33), [(.t 23)], none, 0, 0⟩,
        ⟨(.some 25), (.call 45), [(.t 20), (.t 22), (.t 24)], none, 0, 0⟩,
        ⟨(.some 8), .mv, [(.t 25)], none, 0, 0⟩]))
      (.seq
      (.ops [0, 1, 5, 7, 8, 11, 26] [
        ⟨(.some 27), (.eq false .int), [(.t 11), (.c (.int .i64 1))], none, 0, 0⟩,
        ⟨(.some 26), .mv, [(.t 27)], none, 0, 0⟩])
      (.cond (.t 26)
        (.seq
        (.ops [1, 5, 7] [
          ⟨(.some 28), .mv, [(.t 0)], none, 0, 0⟩,
          ⟨(.some 29), (.fieldAddr 1), [(.t 5)], none, 0, 0⟩,
          ⟨(.some 30), (.load false 1), [(.t 29)], none, 0, 0⟩,
          ⟨(.some 31), (.call 30), [(.t 28), (.t 30)], none, 0, 0⟩,
          ⟨(.some 7), .mv, [(.t 31)], none, 0, 0⟩])
        (.ops [7, 8] [
          ⟨(.some 32), .mv, [(.t 1)], none, 0, 0⟩,
          ⟨(.some 33), (.fieldAddr 1), [(.t 5)], none, 0, 0⟩,
          ⟨(.some 34), (.load false 1), [(.t 33)], none, 0, 0⟩,
          ⟨(.some 35), (.call 46), [(.t 32), (.t 34)], none, 0, 0⟩,
          ⟨(.some 8), .mv, [(.t 35)], none, 0, 0⟩]))
        (.seq
        (.ops [0, 1, 5, 7, 8, 11, 36] [
          ⟨(.some 37), (.eq false .int), [(.t 11), (.c (.int .i64 2))], none, 0, 0⟩,
          ⟨(.some 36), .mv, [(.t 37)], none, 0, 0⟩])
        (.cond (.t 36)
          (.seq
          (.ops [1, 5, 7] [
            ⟨(.some 38), .mv, [(.t 0)], none, 0, 0⟩,
            ⟨(.some 39), (.fieldAddr 1), [(.t 5)], none, 0, 0⟩,
            ⟨(.some 40), (.load false 1), [(.t 39)], none, 0, 0⟩,
            ⟨(.some 41), (.call 31), [(.t 38), (.t 40)], none, 0, 0⟩,
            ⟨(.some 7), .mv, [(.t 41)], none, 0, 0⟩])
          (.ops [7, 8] [
            ⟨(.some 42), .mv, [(.t 1)], none, 0, 0⟩,
            ⟨(.some 43), (.fieldAddr 1), [(.t 5)], none, 0, 0⟩,
            ⟨(.some 44), (.load false 1), [(.t 43)], none, 0, 0⟩,
            ⟨(.some 45), (.call 47), [(.t 42), (.t 44)], none, 0, 0⟩,
            ⟨(.some 8), .mv, [(.t 45)], none, 0, 0⟩]))
          (.seq
          (.ops [0, 1, 5, 7, 8, 11, 46] [
            ⟨(.some 47), (.eq false .int), [(.t 11), (.c (.int .i64 3))], none, 0, 0⟩,
            ⟨(.some 46), .mv, [(.t 47)], none, 0, 0⟩])
          (.cond (.t 46)
            (.seq
            (.drawn [6] [
              ⟨(.some 48), .mv, [(.t 0)], none, 0, 0⟩,
              ⟨(.some 49), (.fieldAddr 1), [(.t 5)], none, 0, 0⟩,
              ⟨(.some 50), (.load false 1), [(.t 49)], none, 0, 0⟩,
              ⟨(.some 51), (.fieldAddr 2), [(.t 5)], none, 0, 0⟩,
              ⟨(.some 52), (.load true 33), [(.t 51)], none, 0, 0⟩,
              ⟨(.some 53), (.call 24), [(.t 48), (.t 50), (.t 52)], none, 0, 1⟩,
              ⟨(.some 54), .mv, [(.t 1)], none, 0, 1⟩,
              ⟨(.some 55), (.fieldAddr 1), [(.t 5)], none, 0, 1⟩,
              ⟨(.some 56), (.load false 1), [(.t 55)], none, 0, 1⟩,
              ⟨(.some 57), (.fieldAddr 2), [(.t 5)], none, 0, 1⟩,
              ⟨(.some 58), (.load true 33), [(.t 57)], none, 0, 1⟩,
              ⟨(.some 59), (.call 48), [(.t 54), (.t 56), (.t 58)], none, 1, 2⟩,
              ⟨(.some 60), (.eq false .int), [(.t 53), (.t 59)], none, 2, 2⟩,
              ⟨(.some 6), .mv, [(.t 60)], none, 2, 2⟩])
            .ret)
            (.seq
            (.ops [0, 1, 5, 7, 8, 61] [
              ⟨(.some 62), (.eq false .int), [(.t 11), (.c (.int .i64 4))], none, 0, 0⟩,
              ⟨(.some 61), .mv, [(.t 62)], none, 0, 0⟩])
            (.cond (.t 61)
              (.seq
              (.drawn [6] [
                ⟨(.some 63), .mv, [(.t 0)], none, 0, 0⟩,
                ⟨(.some 64), (.fieldAddr 1), [(.t 5)], none, 0, 0⟩,
                ⟨(.some 65), (.load false 1), [(.t 64)], none, 0, 0⟩,
                ⟨(.some 66), (.fieldAddr 35), [(.t 5)], none, 0, 0⟩,
                ⟨(.some 67), (.load true 264), [(.t 66)], none, 0, 0⟩,
                ⟨(.some 68), (.fieldAddr 2), [(.t 5)], none, 0, 0⟩,
                ⟨(.some 69), (.load true 33), [(.t 68)], none, 0, 0⟩,
                ⟨(.some 70), (.call 25), [(.t 63), (.t 65), (.t 67), (.t 69)], none, 0, 1⟩,
                ⟨(.some 71), .mv, [(.t 1)], none, 0, 1⟩,
                ⟨(.some 72), (.fieldAddr 1), [(.t 5)], none, 0, 1⟩,
                ⟨(.some 73), (.load false 1), [(.t 72)], none, 0, 1⟩,
                ⟨(.some 74), (.fieldAddr 35), [(.t 5)], none, 0, 1⟩,
                ⟨(.some 75), (.load true 264), [(.t 74)], none, 0, 1⟩,
                ⟨(.some 76), (.fieldAddr 2), [(.t 5)], none, 0, 1⟩,
                ⟨(.some 77), (.load true 33), [(.t 76)], none, 0, 1⟩,
                ⟨(.some 78), (.call 49), [(.t 71), (.t 73), (.t 75), (.t 77)], none, 1, 2⟩,
                ⟨(.some 79), (.eq false .int), [(.t 70), (.t 78)], none, 2, 2⟩,
                ⟨(.some 6), .mv, [(.t 79)], none, 2, 2⟩])
              .ret)
              .skip))))))))))))
  (.seq
  (.ops [7, 9] [
    ⟨(.some 80), .mv, [(.t 7)], none, 0, 0⟩,
    ⟨(.some 81), .mv, [(.t 8)], none, 0, 0⟩,
    ⟨(.some 82), (.call 19), [(.t 80), (.t 81)], none, 0, 0⟩,
    ⟨(.some 9), .mv, [(.t 82)], none, 0, 0⟩])
  (.seq
  (.ops [9] [
    ⟨(.some 83), .mv, [(.t 7)], none, 0, 0⟩,
    ⟨(.some 84), (.call 40), [(.t 83)], none, 0, 0⟩])
  (.seq
  (.ops [6] [
    ⟨(.some 85), .mv, [(.t 9)], none, 0, 0⟩,
    ⟨(.some 6), .mv, [(.t 85)], none, 0, 0⟩])
  .ret))))))
def r28 : List ARes := [(.tmp 6)]
theorem ok28 : FnOk Try.prog 28 c28 r28 :=
  ⟨Try.f28, _, Try.func28, by kernel_rfl, rfl, by kernel_rfl, by kernel_rfl⟩
/-- (*rill/tree.Tree).Set -/
def c29 : ACode :=
  (.seq
  (.ops [0, 1, 5] [
    ⟨(.some 5), .box, [(.t 2)], none, 0, 0⟩,
    ⟨(.some 6), .mv, [(.c .nils)], none, 0, 0⟩])
  (.seq
  (.seq
  (.ops [0, 1, 5, 17] [
    ⟨(.some 10), .mv, [(.t 1)], none, 0, 0⟩,
    ⟨(.some 11), (.call 33), [(.t 10), (.c (.int .i64 0)), (.c (.int .i64 63))], none, 0, 0⟩,
    ⟨(.some 12), .not, [(.t 11)], none, 0, 0⟩,
    ⟨(.some 13), .mv, [(.t 12)], none, 0, 0⟩,
    ⟨(.some 14), (.fieldAddr 0), [(.t 5)], (.some (13, false)), 0, 0⟩,
    ⟨(.some 15), (.load false 1), [(.t 14)], (.some (13, false)), 0, 0⟩,
    ⟨(.some 16), (.cmp .lss), [(.t 15), (.c (.int .i64 1))], (.some (13, false)), 0, 0⟩,
    ⟨(.some 17), .pick, [(.t 13), (.c (.bool true)), (.t 16)], none, 0, 0⟩])
  (.cond (.t 17)
    (.seq
    (.ops [6] [
      ⟨(.some 6), .mv, [(.c .nils)], none, 0, 0⟩])
    .ret)
    .skip))
  (.seq
  (.ops [0, 1, 5, 7] [
    ⟨(.some 7), .mv, [(.c .nils)], none, 0, 0⟩])
  (.seq
  (.seq
  (.ops [0, 1, 5, 7, 20] [
    ⟨(.some 18), .mv, [(.t 0)], none, 0, 0⟩,
    ⟨(.some 19), .mv, [(.t 1)], none, 0, 0⟩,
    ⟨(.some 20), (.call 32), [(.t 18), (.t 19)], none, 0, 0⟩])
  (.cond (.t 20)
    (.ops [0, 1, 5, 7] [
      ⟨(.some 21), .mv, [(.t 7)], none, 0, 0⟩,
      ⟨(.some 22), .mv, [(.t 0)], none, 0, 0⟩,
      ⟨(.some 23), .mv, [(.t 1)], none, 0, 0⟩,
      ⟨(.some 24), .nilCheck, [(.t 22)], none, 0, 0⟩,
      ⟨(.some 25), (.fieldAddr 0), [(.t 24)], none, 0, 0⟩,
      ⟨(.some 26), (.idxAddrArr 64 33), [(.t 25), (.t 23)], none, 0, 0⟩,
      ⟨(.some 27), (.load true 33), [(.t 26)], none, 0, 0⟩,
      ⟨(.some 28), (.mkSl 1 ([(.int .i64 0)] ++ (List.replicate 32 (.int .u8 0))) [(0, 33)]), [(.t 27)], none, 0, 0⟩,
      ⟨(.some 29), (.append 33 40), [(.t 21), (.t 28)], none, 0, 0⟩,
      ⟨(.some 7), .mv, [(.t 29)], none, 0, 0⟩])
    .skip))
  (.seq
  (.drawn [0, 1, 7] [
    ⟨(.some 30), .mv, [(.t 0)], none, 0, 0⟩,
    ⟨(.some 31), .mv, [(.t 1)], none, 0, 0⟩,
    ⟨(.some 32), (.load true 33), [(.t 5)], none, 0, 0⟩,
    ⟨(.some 33), .nilCheck, [(.t 30)], none, 0, 0⟩,
    ⟨(.some 34), (.fieldAddr 0), [(.t 33)], none, 0, 0⟩,
    ⟨(.some 35), (.idxAddrArr 64 33), [(.t 34), (.t 31)], none, 0, 0⟩,
    ⟨none, (.store 33), [(.t 35), (.t 32)], none, 0, 1⟩])
  (.seq
  (.ops [0, 7, 8] [
    ⟨(.some 37), .mv, [(.t 1)], none, 0, 0⟩,
    ⟨(.some 38), (.call 50), [(.t 37)], none, 0, 0⟩,
    ⟨(.some 36), .mv, [(.t 38)], none, 0, 0⟩,
    ⟨(.some 39), (.extract 0), [(.t 36)], none, 0, 0⟩,
    ⟨(.some 40), (.extract 1), [(.t 36)], none, 0, 0⟩,
    ⟨(.some 8), .mv, [(.t 39)], none, 0, 0⟩,
    ⟨(.some 9), .mv, [(.t 40)], none, 0, 0⟩])
  (.seq
  (.ops [6] [
    ⟨(.some 41), .mv, [(.t 7)], none, 0, 0⟩,
    ⟨(.some 42), .mv, [(.t 0)], none, 0, 0⟩,
    ⟨(.some 43), .mv, [(.t 8)], none, 0, 0⟩,
    ⟨(.some 44), (.mkSl 2 [(.int .i64 0), (.int .i64 0)] [(0, 1), (1, 1)]), [(.t 43), (.c (.int .i64 0))], none, 0, 0⟩,
    ⟨(.some 45), (.call 51), [(.t 42), (.t 44)], none, 0, 0⟩,
    ⟨(.some 46), (.append 33 40), [(.t 41), (.t 45)], none, 0, 0⟩,
    ⟨(.some 6), .mv, [(.t 46)], none, 0, 0⟩])
  .ret)))))))
def r29 : List ARes := [(.tmp 6)]
theorem ok29 : FnOk Try.prog 29 c29 r29 :=
  ⟨Try.f29, _, Try.func29, by kernel_rfl, rfl, by kernel_rfl, by kernel_rfl⟩
/-- (*rill/tree.Tree).Del -/
def c30 : ACode :=
  (.seq
  (.ops [0, 1] [
    ⟨(.some 4), .mv, [(.c .nils)], none, 0, 0⟩])
  (.seq
  (.seq
  (.ops [0, 1, 11] [
    ⟨(.some 8), .mv, [(.t 0)], none, 0, 0⟩,
    ⟨(.some 9), .mv, [(.t 1)], none, 0, 0⟩,
    ⟨(.some 10), (.call 32), [(.t 8), (.t 9)], none, 0, 0⟩,
    ⟨(.some 11), .not, [(.t 10)], none, 0, 0⟩])
  (.cond (.t 11)
    (.seq
    (.ops [4] [
      ⟨(.some 4), .mv, [(.c .nils)], none, 0, 0⟩])
    .ret)
    .skip))
  (.seq
  (.ops [0, 1, 5] [
    ⟨(.some 12), .mv, [(.t 0)], none, 0, 0⟩,
    ⟨(.some 13), .mv, [(.t 1)], none, 0, 0⟩,
    ⟨(.some 14), .nilCheck, [(.t 12)], none, 0, 0⟩,
    ⟨(.some 15), (.fieldAddr 0), [(.t 14)], none, 0, 0⟩,
    ⟨(.some 16), (.idxAddrArr 64 33), [(.t 15), (.t 13)], none, 0, 0⟩,
    ⟨(.some 17), (.load true 33), [(.t 16)], none, 0, 0⟩,
    ⟨(.some 18), (.mkSl 1 ([(.int .i64 0)] ++ (List.replicate 32 (.int .u8 0))) [(0, 33)]), [(.t 17)], none, 0, 0⟩,
    ⟨(.some 5), .mv, [(.t 18)], none, 0, 0⟩])
  (.seq
  (.ops [0, 1, 5] [
    ⟨(.some 19), .mv, [(.t 0)], none, 0, 0⟩,
    ⟨(.some 20), .mv, [(.t 1)], none, 0, 0⟩,
    ⟨(.some 21), (.build ([(.int .i64 0)] ++ (List.replicate 32 (.int .u8 0))) []), [], none, 0, 0⟩,
    ⟨(.some 22), .nilCheck, [(.t 19)], none, 0, 0⟩,
    ⟨(.some 23), (.fieldAddr 0), [(.t 22)], none, 0, 0⟩,
    ⟨(.some 24), (.idxAddrArr 64 33), [(.t 23), (.t 20)], none, 0, 0⟩,
    ⟨none, (.store 33), [(.t 24), (.t 21)], none, 0, 0⟩])
  (.seq
  (.ops [0, 5, 6] [
    ⟨(.some 26), .mv, [(.t 1)], none, 0, 0⟩,
    ⟨(.some 27), (.call 50), [(.t 26)], none, 0, 0⟩,
    ⟨(.some 25), .mv, [(.t 27)], none, 0, 0⟩,
    ⟨(.some 28), (.extract 0), [(.t 25)], none, 0, 0⟩,
    ⟨(.some 29), (.extract 1), [(.t 25)], none, 0, 0⟩,
    ⟨(.some 6), .mv, [(.t 28)], none, 0, 0⟩,
    ⟨(.some 7), .mv, [(.t 29)], none, 0, 0⟩])
  (.seq
  (.ops [0, 5, 6] [
    ⟨(.some 30), .mv, [(.t 5)], none, 0, 0⟩,
    ⟨(.some 31), .mv, [(.t 0)], none, 0, 0⟩,
    ⟨(.some 32), .mv, [(.t 6)], none, 0, 0⟩,
    ⟨(.some 33), (.mkSl 2 [(.int .i64 0), (.int .i64 0)] [(0, 1), (1, 1)]), [(.t 32), (.c (.int .i64 0))], none, 0, 0⟩,
    ⟨(.some 34), (.call 51), [(.t 31), (.t 33)], none, 0, 0⟩,
    ⟨(.some 35), (.append 33 40), [(.t 30), (.t 34)], none, 0, 0⟩,
    ⟨(.some 5), .mv, [(.t 35)], none, 0, 0⟩])
  (.seq
  (.seq
  (.ops [0, 5, 6, 38] [
    ⟨(.some 36), .mv, [(.t 0)], none, 0, 0⟩,
    ⟨(.some 37), .mv, [(.t 6)], none, 0, 0⟩,
    ⟨(.some 38), (.call 52), [(.t 36), (.t 37)], none, 0, 0⟩])
  (.cond (.t 38)
    (.ops [5] [
      ⟨(.some 39), .mv, [(.t 0)], none, 0, 0⟩,
      ⟨(.some 40), .mv, [(.t 6)], none, 0, 0⟩,
      ⟨(.some 41), (.build ([(.int .i64 0), (.int .i64 0)] ++ (List.replicate 32 (.int .u8 0))) []), [], none, 0, 0⟩,
      ⟨(.some 42), .nilCheck, [(.t 39)], none, 0, 0⟩,
      ⟨(.some 43), (.fieldAddr 2112), [(.t 42)], none, 0, 0⟩,
      ⟨(.some 44), (.idxAddrArr 9 34), [(.t 43), (.t 40)], none, 0, 0⟩,
      ⟨none, (.store 34), [(.t 44), (.t 41)], none, 0, 0⟩])
    .skip))
  (.seq
  (.ops [4] [
    ⟨(.some 45), .mv, [(.t 5)], none, 0, 0⟩,
    ⟨(.some 4), .mv, [(.t 45)], none, 0, 0⟩])
  .ret))))))))
def r30 : List ARes := [(.tmp 4)]
theorem ok30 : FnOk Try.prog 30 c30 r30 :=
  ⟨Try.f30, _, Try.func30, by kernel_rfl, rfl, by kernel_rfl, by kernel_rfl⟩
/-- (*rill/tree.Tree).Touch -/
def c31 : ACode :=
  (.seq
  (.ops [0, 1] [
    ⟨(.some 4), .mv, [(.c .nils)], none, 0, 0⟩])
  (.seq
  (.seq
  (.ops [0, 1, 5, 6] [
    ⟨(.some 8), .mv, [(.t 0)], none, 0, 0⟩,
    ⟨(.some 9), .mv, [(.t 1)], none, 0, 0⟩,
    ⟨(.some 10), (.call 17), [(.t 8), (.t 9)], none, 0, 0⟩,
    ⟨(.some 7), .mv, [(.t 10)], none, 0, 0⟩,
    ⟨(.some 11), (.extract 0), [(.t 7)], none, 0, 0⟩,
    ⟨(.some 12), (.extract 1), [(.t 7)], none, 0, 0⟩,
    ⟨(.some 5), (.alloc ([(.int .i64 0)] ++ (List.replicate 32 (.int .u8 0)))), [], none, 0, 0⟩,
    ⟨none, (.store 33), [(.t 5), (.t 11)], none, 0, 0⟩,
    ⟨(.some 6), .mv, [(.t 12)], none, 0, 0⟩])
  (.seq
  (.ops [0, 1, 19] [
    ⟨(.some 13), .mv, [(.t 6)], none, 0, 0⟩,
    ⟨(.some 14), .not, [(.t 13)], none, 0, 0⟩,
    ⟨(.some 15), .mv, [(.t 14)], none, 0, 0⟩,
    ⟨(.some 16), (.fieldAddr 0), [(.t 5)], (.some (15, false)), 0, 0⟩,
    ⟨(.some 17), (.load false 1), [(.t 16)], (.some (15, false)), 0, 0⟩,
    ⟨(.some 18), (.cmp .lss), [(.t 17), (.c (.int .i64 1))], (.some (15, false)), 0, 0⟩,
    ⟨(.some 19), .pick, [(.t 15), (.c (.bool true)), (.t 18)], none, 0, 0⟩])
  (.cond (.t 19)
    (.seq
    (.ops [4] [
      ⟨(.some 4), .mv, [(.c .nils)], none, 0, 0⟩])
    .ret)
    .skip)))
  (.seq
  (.seq
  (.ops [0, 1, 21] [
    ⟨(.some 20), .mv, [(.t 1)], none, 0, 0⟩,
    ⟨(.some 21), (.eq false .int), [(.t 20), (.c (.int .i64 0))], none, 0, 0⟩])
  (.cond (.t 21)
    (.seq
    (.ops [4] [
      ⟨(.some 22), .mv, [(.t 0)], none, 0, 0⟩,
      ⟨(.some 23), (.mkSl 1 [(.int .i64 0)] [(0, 1)]), [(.c (.int .i64 0))], none, 0, 0⟩,
      ⟨(.some 24), (.call 51), [(.t 22), (.t 23)], none, 0, 0⟩,
      ⟨(.some 4), .mv, [(.t 24)], none, 0, 0⟩])
    .ret)
    .skip))
  (.seq
  (.ops [4] [
    ⟨(.some 25), .mv, [(.t 0)], none, 0, 0⟩,
    ⟨(.some 26), .mv, [(.t 1)], none, 0, 0⟩,
    ⟨(.some 27), (.mkSl 2 [(.int .i64 0), (.int .i64 0)] [(0, 1), (1, 1)]), [(.t 26), (.c (.int .i64 0))], none, 0, 0⟩,
    ⟨(.some 28), (.call 51), [(.t 25), (.t 27)], none, 0, 0⟩,
    ⟨(.some 4), .mv, [(.t 28)], none, 0, 0⟩])
  .ret))))
def r31 : List ARes := [(.tmp 4)]
theorem ok31 : FnOk Try.prog 31 c31 r31 :=
  ⟨Try.f31, _, Try.func31, by kernel_rfl, rfl, by kernel_rfl, by kernel_rfl⟩
/-- (*rill/tree.Tree).has -/
def c32 : ACode :=
  (.seq
  (.ops [0, 1] [
    ⟨(.some 4), .mv, [(.c (.bool false))], none, 0, 0⟩])
  (.seq
  (.ops [4] [
    ⟨(.some 5), .mv, [(.t 1)], none, 0, 0⟩,
    ⟨(.some 6), (.call 33), [(.t 5), (.c (.int .i64 0)), (.c (.int .i64 63))], none, 0, 0⟩,
    ⟨(.some 7), .mv, [(.t 6)], none, 0, 0⟩,
    ⟨(.some 8), .mv, [(.t 0)], (.some (7, true)), 0, 0⟩,
    ⟨(.some 9), .mv, [(.t 1)], (.some (7, true)), 0, 0⟩,
    ⟨(.some 10), .nilCheck, [(.t 8)], (.some (7, true)), 0, 0⟩,
    ⟨(.some 11), (.fieldAddr 0), [(.t 10)], (.some (7, true)), 0, 0⟩,
    ⟨(.some 12), (.idxAddrArr 64 33), [(.t 11), (.t 9)], (.some (7, true)), 0, 0⟩,
    ⟨(.some 13), (.load true 33), [(.t 12)], (.some (7, true)), 0, 0⟩,
    ⟨(.some 14), (.build ([(.int .i64 0)] ++ (List.replicate 32 (.int .u8 0))) []), [], (.some (7, true)), 0, 0⟩,
    ⟨(.some 15), (.eqAgg true (List.replicate 33 .i)), [(.t 13), (.t 14)], (.some (7, true)), 0, 0⟩,
    ⟨(.some 16), .pick, [(.t 7), (.t 15), (.c (.bool false))], none, 0, 0⟩,
    ⟨(.some 4), .mv, [(.t 16)], none, 0, 0⟩])
  .ret))
def r32 : List ARes := [(.tmp 4)]
theorem ok32 : FnOk Try.prog 32 c32 r32 :=
  ⟨Try.f32, _, Try.func32, by kernel_rfl, rfl, by kernel_rfl, by kernel_rfl⟩
/-- rill/tree.within -/
def c33 : ACode :=
  (.seq
  (.ops [0, 1, 2] [
    ⟨(.some 6), .mv, [(.c (.bool false))], none, 0, 0⟩])
  (.seq
  (.ops [6] [
    ⟨(.some 7), .mv, [(.t 0)], none, 0, 0⟩,
    ⟨(.some 8), .mv, [(.t 1)], none, 0, 0⟩,
    ⟨(.some 9), (.cmp .geq), [(.t 7), (.t 8)], none, 0, 0⟩,
    ⟨(.some 10), .mv, [(.t 9)], none, 0, 0⟩,
    ⟨(.some 11), .mv, [(.t 0)], (.some (10, true)), 0, 0⟩,
    ⟨(.some 12), .mv, [(.t 2)], (.some (10, true)), 0, 0⟩,
    ⟨(.some 13), (.cmp .leq), [(.t 11), (.t 12)], (.some (10, true)), 0, 0⟩,
    ⟨(.some 14), .pick, [(.t 10), (.t 13), (.c (.bool false))], none, 0, 0⟩,
    ⟨(.some 6), .mv, [(.t 14)], none, 0, 0⟩])
  .ret))
def r33 : List ARes := [(.tmp 6)]
theorem ok33 : FnOk Try.prog 33 c33 r33 :=
  ⟨Try.f33, _, Try.func33, by kernel_rfl, rfl, by kernel_rfl, by kernel_rfl⟩
/-- (*rill/tree.Tree).span -/
def c34 : ACode :=
  (.seq
  (.ops [0, 1] [
    ⟨(.some 4), .mv, [(.c .nils)], none, 0, 0⟩])
  (.seq
  (.ops [4] [
    ⟨(.some 5), .mv, [(.t 0)], none, 0, 0⟩,
    ⟨(.some 6), .nilCheck, [(.t 5)], none, 0, 0⟩,
    ⟨(.some 7), (.fieldAddr 0), [(.t 6)], none, 0, 0⟩,
    ⟨(.some 8), .mv, [(.t 1)], none, 0, 0⟩,
    ⟨(.some 9), (.arith .sub), [(.t 8), (.c (.int .i64 1))], none, 0, 0⟩,
    ⟨(.some 10), (.arith .mul), [(.t 9), (.c (.int .i64 8))], none, 0, 0⟩,
    ⟨(.some 11), .mv, [(.t 1)], none, 0, 0⟩,
    ⟨(.some 12), (.arith .mul), [(.t 11), (.c (.int .i64 8))], none, 0, 0⟩,
    ⟨(.some 13), (.sliceArr 64 33 true true false), [(.t 7), (.t 10), (.t 12)], none, 0, 0⟩,
    ⟨(.some 4), .mv, [(.t 13)], none, 0, 0⟩])
  .ret))
def r34 : List ARes := [(.tmp 4)]
theorem ok34 : FnOk Try.prog 34 c34 r34 :=
  ⟨Try.f34, _, Try.func34, by kernel_rfl, rfl, by kernel_rfl, by kernel_rfl⟩
/-- slices.Contains[[]int,int] -/
def c35 : ACode :=
  (.seq
  (.ops [0, 1] [
    ⟨(.some 4), .mv, [(.c (.bool false))], none, 0, 0⟩])
  (.seq
  (.ops [4] [
    ⟨(.some 5), .mv, [(.t 0)], none, 0, 0⟩,
    ⟨(.some 6), .mv, [(.t 1)], none, 0, 0⟩,
    ⟨(.some 7), (.call 53), [(.t 5), (.t 6)], none, 0, 0⟩,
    ⟨(.some 8), (.cmp .geq), [(.t 7), (.c (.int .i64 0))], none, 0, 0⟩,
    ⟨(.some 4), .mv, [(.t 8)], none, 0, 0⟩])
  .ret))
def r35 : List ARes := [(.tmp 4)]
theorem ok35 : FnOk Try.prog 35 c35 r35 :=
  ⟨Try.f35, _, Try.func35, by kernel_rfl, rfl, by kernel_rfl, by kernel_rfl⟩
/-- (*rill/tree.Tree).bare -/
def c36 : ACode :=
  (.seq
  (.ops [0] [
    ⟨(.some 2), .mv, [(.c (.bool false))], none, 0, 0⟩])
  (.seq
  (.ops [2] [
    ⟨(.some 3), .mv, [(.t 0)], none, 0, 0⟩,
    ⟨(.some 4), (.call 15), [(.t 3)], none, 0, 0⟩,
    ⟨(.some 5), (.eq false .int), [(.t 4), (.c (.int .i64 0))], none, 0, 0⟩,
    ⟨(.some 2), .mv, [(.t 5)], none, 0, 0⟩])
  .ret))
def r36 : List ARes := [(.tmp 2)]
theorem ok36 : FnOk Try.prog 36 c36 r36 :=
  ⟨Try.f36, _, Try.func36, by kernel_rfl, rfl, by kernel_rfl, by kernel_rfl⟩
/-- (*rill/rillref18.Tree).Refs -/
def c37 : ACode :=
  (.seq
  (.ops [0] [
    ⟨(.some 2), .mv, [(.c .nils)], none, 0, 0⟩])
  (.seq
  (.ops [0, 3] [
    ⟨(.some 3), .mv, [(.c .nils)], none, 0, 0⟩])
  (.seq
  (.seq
  (.ops [0, 3, 4] [
    ⟨(.some 4), .mv, [(.c (.int .i64 0))], none, 0, 0⟩])
  (.block 0
    (.loop [0, 3, 4]
      (.seq
      (.seq
      (.ops [0, 3, 4, 14] [
        ⟨(.some 8), .mv, [(.t 4)], none, 0, 0⟩,
        ⟨(.some 9), .mv, [(.t 0)], none, 0, 0⟩,
        ⟨(.some 10), .nilCheck, [(.t 9)], none, 0, 0⟩,
        ⟨(.some 11), (.fieldAddr 0), [(.t 10)], none, 0, 0⟩,
        ⟨(.some 12), (.load false 1), [(.t 11)], none, 0, 0⟩,
        ⟨(.some 13), .len, [(.t 12)], none, 0, 0⟩,
        ⟨(.some 14), (.cmp .lss), [(.t 8), (.t 13)], none, 0, 0⟩])
      (.cond (.t 14)
        .skip
        (.exit 0)))
      (.seq
      (.block 1
        (.ops [0, 3, 4] [
          ⟨(.some 17), .mv, [(.t 3)], none, 0, 0⟩,
          ⟨(.some 18), .mv, [(.t 0)], none, 0, 0⟩,
          ⟨(.some 19), .nilCheck, [(.t 18)], none, 0, 0⟩,
          ⟨(.some 20), (.fieldAddr 0), [(.t 19)], none, 0, 0⟩,
          ⟨(.some 21), (.load false 1), [(.t 20)], none, 0, 0⟩,
          ⟨(.some 22), .mv, [(.t 4)], none, 0, 0⟩,
          ⟨(.some 23), (.idxAddr 34), [(.t 21), (.t 22)], none, 0, 0⟩,
          ⟨(.some 24), (.fieldAddr 1), [(.t 23)], none, 0, 0⟩,
          ⟨(.some 25), (.load true 33), [(.t 24)], none, 0, 0⟩,
          ⟨(.some 26), (.mkSl 1 ([(.int .i64 0)] ++ (List.replicate 32 (.int .u8 0))) [(0, 33)]), [(.t 25)], none, 0, 0⟩,
          ⟨(.some 27), (.append 33 40), [(.t 17), (.t 26)], none, 0, 0⟩,
          ⟨(.some 3), .mv, [(.t 27)], none, 0, 0⟩]))
      (.ops [0, 3, 4] [
        ⟨(.some 15), .mv, [(.t 4)], none, 0, 0⟩,
        ⟨(.some 16), (.arith .add), [(.t 15), (.c (.int .i64 1))], none, 0, 0⟩,
        ⟨(.some 4), .mv, [(.t 16)], none, 0, 0⟩]))))))
  (.seq
  (.seq
  (.ops [0, 3, 5] [
    ⟨(.some 5), .mv, [(.c (.int .i64 0))], none, 0, 0⟩])
  (.block 2
    (.loop [0, 3, 5]
      (.seq
      (.seq
      (.ops [0, 3, 5, 29] [
        ⟨(.some 28), .mv, [(.t 5)], none, 0, 0⟩,
        ⟨(.some 29), (.cmp .leq), [(.t 28), (.c (.int .i64 8))], none, 0, 0⟩])
      (.cond (.t 29)
        .skip
        (.exit 2)))
      (.seq
      (.block 3
        (.seq
        (.ops [0, 3, 5, 6, 7] [
          ⟨(.some 33), .mv, [(.t 0)], none, 0, 0⟩,
          ⟨(.some 34), .mv, [(.t 5)], none, 0, 0⟩,
          ⟨(.some 35), (.call 42), [(.t 33), (.t 34)], none, 0, 0⟩,
          ⟨(.some 32), .mv, [(.t 35)], none, 0, 0⟩,
          ⟨(.some 36), (.extract 0), [(.t 32)], none, 0, 0⟩,
          ⟨(.some 37), (.extract 1), [(.t 32)], none, 0, 0⟩,
          ⟨(.some 6), (.alloc ([(.int .i64 0)] ++ (List.replicate 32 (.int .u8 0)))), [], none, 0, 0⟩,
          ⟨none, (.store 33), [(.t 6), (.t 36)], none, 0, 0⟩,
          ⟨(.some 7), .mv, [(.t 37)], none, 0, 0⟩])
        (.seq
        (.ops [0, 3, 5, 6, 43] [
          ⟨(.some 38), .mv, [(.t 7)], none, 0, 0⟩,
          ⟨(.some 39), .mv, [(.t 38)], none, 0, 0⟩,
          ⟨(.some 40), (.fieldAddr 0), [(.t 6)], (.some (39, true)), 0, 0⟩,
          ⟨(.some 41), (.load false 1), [(.t 40)], (.some (39, true)), 0, 0⟩,
          ⟨(.some 42), (.cmp .gtr), [(.t 41), (.c (.int .i64 0))], (.some (39, true)), 0, 0⟩,
          ⟨(.some 43), .pick, [(.t 39), (.t 42), (.c (.bool false))], none, 0, 0⟩])
        (.cond (.t 43)
          (.ops [0, 3, 5] [
            ⟨(.some 44), .mv, [(.t 3)], none, 0, 0⟩,
            ⟨(.some 45), (.load true 33), [(.t 6)], none, 0, 0⟩,
            ⟨(.some 46), (.mkSl 1 ([(.int .i64 0)] ++ (List.replicate 32 (.int .u8 0))) [(0, 33)]), [(.t 45)], none, 0, 0⟩,
            ⟨(.some 47), (.append 33 40), [(.t 44), (.t 46)], none, 0, 0⟩,
            ⟨(.some 3), .mv, [(.t 47)], none, 0, 0⟩])
          .skip))))
      (.ops [0, 3, 5] [
        ⟨(.some 30), .mv, [(.t 5)], none, 0, 0⟩,
        ⟨(.some 31), (.arith .add), [(.t 30), (.c (.int .i64 1))], none, 0, 0⟩,
        ⟨(.some 5), .mv, [(.t 31)], none, 0, 0⟩]))))))
  (.seq
  (.ops [2] [
    ⟨(.some 48), .mv, [(.t 3)], none, 0, 0⟩,
    ⟨(.some 2), .mv, [(.t 48)], none, 0, 0⟩])
  .ret)))))
def r37 : List ARes := [(.tmp 2)]
theorem ok37 : FnOk Try.prog 37 c37 r37 :=
  ⟨Try.f37, _, Try.func37, by kernel_rfl, rfl, by kernel_rfl, by kernel_rfl⟩
/-- (*rill/rillref18.Tree).Dirty -/
def c38 : ACode :=
  (.seq
  (.ops [0] [
    ⟨(.some 2), .mv, [(.c .nils)], none, 0, 0⟩])
  (.seq
  (.ops [0, 3] [
    ⟨(.some 3), .mv, [(.c .nils)], none, 0, 0⟩])
  (.seq
  (.seq
  (.ops [0, 3, 4] [
    ⟨(.some 4), .mv, [(.c (.int .i64 1))], none, 0, 0⟩])
  (.block 0
    (.loop [0, 3, 4]
      (.seq
      (.seq
      (.ops [0, 3, 4, 6] [
        ⟨(.some 5), .mv, [(.t 4)], none, 0, 0⟩,
        ⟨(.some 6), (.cmp .leq), [(.t 5), (.c (.int .i64 8))], none, 0, 0⟩])
      (.cond (.t 6)
        .skip
        (.exit 0)))
      (.seq
      (.block 1
        (.seq
        (.ops [0, 3, 4, 11] [
          ⟨(.some 9), .mv, [(.t 0)], none, 0, 0⟩,
          ⟨(.some 10), .mv, [(.t 4)], none, 0, 0⟩,
          ⟨(.some 11), (.call 54), [(.t 9), (.t 10)], none, 0, 0⟩])
        (.cond (.t 11)
          (.ops [0, 3, 4] [
            ⟨(.some 12), .mv, [(.t 3)], none, 0, 0⟩,
            ⟨(.some 13), .mv, [(.t 4)], none, 0, 0⟩,
            ⟨(.some 14), (.mkSl 1 [(.int .i64 0)] [(0, 1)]), [(.t 13)], none, 0, 0⟩,
            ⟨(.some 15), (.append 1 8), [(.t 12), (.t 14)], none, 0, 0⟩,
            ⟨(.some 3), .mv, [(.t 15)], none, 0, 0⟩])
          .skip)))
      (.ops [0, 3, 4] [
        ⟨(.some 7), .mv, [(.t 4)], none, 0, 0⟩,
        ⟨(.some 8), (.arith .add), [(.t 7), (.c (.int .i64 1))], none, 0, 0⟩,
        ⟨(.some 4), .mv, [(.t 8)], none, 0, 0⟩]))))))
  (.seq
  (.seq
  (.ops [3, 17] [
    ⟨(.some 16), .mv, [(.t 0)], none, 0, 0⟩,
    ⟨(.some 17), (.call 54), [(.t 16), (.c (.int .i64 0))], none, 0, 0⟩])
  (.cond (.t 17)
    (.ops [3] [
      ⟨(.some 18), .mv, [(.t 3)], none, 0, 0⟩,
      ⟨(.some 19), (.mkSl 1 [(.int .i64 0)] [(0, 1)]), [(.c (.int .i64 0))], none, 0, 0⟩,
      ⟨(.some 20), (.append 1 8), [(.t 18), (.t 19)], none, 0, 0⟩,
      ⟨(.some 3), .mv, [(.t 20)], none, 0, 0⟩])
    .skip))
  (.seq
  (.ops [2] [
    ⟨(.some 21), .mv, [(.t 3)], none, 0, 0⟩,
    ⟨(.some 2), .mv, [(.t 21)], none, 0, 0⟩])
  .ret)))))
def r38 : List ARes := [(.tmp 2)]
theorem ok38 : FnOk Try.prog 38 c38 r38 :=
  ⟨Try.f38, _, Try.func38, by kernel_rfl, rfl, by kernel_rfl, by kernel_rfl⟩
/-- (*rill/rillref18.Tree).Mapped -/
def c39 : ACode :=
  (.seq
  (.ops [0] [
    ⟨(.some 2), .mv, [(.c (.int .i64 0))], none, 0, 0⟩])
  (.seq
  (.ops [2] [
    ⟨(.some 3), .mv, [(.t 0)], none, 0, 0⟩,
    ⟨(.some 4), .nilCheck, [(.t 3)], none, 0, 0⟩,
    ⟨(.some 5), (.fieldAddr 0), [(.t 4)], none, 0, 0⟩,
    ⟨(.some 6), (.load false 1), [(.t 5)], none, 0, 0⟩,
    ⟨(.some 7), .len, [(.t 6)], none, 0, 0⟩,
    ⟨(.some 2), .mv, [(.t 7)], none, 0, 0⟩])
  .ret))
def r39 : List ARes := [(.tmp 2)]
theorem ok39 : FnOk Try.prog 39 c39 r39 :=
  ⟨Try.f39, _, Try.func39, by kernel_rfl, rfl, by kernel_rfl, by kernel_rfl⟩
/-- rill/rillkit.SpoilRefs -/
def c40 : ACode :=
  (.seq
  (.ops [0, 2] [
    ⟨(.some 2), .mv, [(.c (.int .i64 0))], none, 0, 0⟩])
  (.block 0
    (.loop [0, 2]
      (.seq
      (.seq
      (.ops [0, 2, 6] [
        ⟨(.some 3), .mv, [(.t 2)], none, 0, 0⟩,
        ⟨(.some 4), .mv, [(.t 0)], none, 0, 0⟩,
        ⟨(.some 5), .len, [(.t 4)], none, 0, 0⟩,
        ⟨(.some 6), (.cmp .lss), [(.t 3), (.t 5)], none, 0, 0⟩])
      (.cond (.t 6)
        .skip
        (.exit 0)))
      (.seq
      (.block 1
        (.ops [0, 2] [
          ⟨(.some 9), .mv, [(.t 0)], none, 0, 0⟩,
          ⟨(.some 10), .mv, [(.t 2)], none, 0, 0⟩,
          ⟨(.some 11), .mv, [(.t 0)], none, 0, 0⟩,
          ⟨(.some 12), .mv, [(.t 2)], none, 0, 0⟩,
          ⟨(.some 13), (.idxAddr 33), [(.t 11), (.t 12)], none, 0, 0⟩,
          ⟨(.some 14), (.fieldAddr 0), [(.t 13)], none, 0, 0⟩,
          ⟨(.some 15), (.load false 1), [(.t 14)], none, 0, 0⟩,
          ⟨(.some 16), (.arith .xor), [(.t 15), (.c (.int .i64 77))], none, 0, 0⟩,
          ⟨(.some 17), (.build ([(.int .i64 0)] ++ (List.replicate 32 (.int .u8 0))) [(0, 1)]), [(.t 16)], none, 0, 0⟩,
          ⟨(.some 18), (.idxAddr 33), [(.t 9), (.t 10)], none, 0, 0⟩,
          ⟨none, (.store 33), [(.t 18), (.t 17)], none, 0, 0⟩]))
      (.ops [0, 2] [
        ⟨(.some 7), .mv, [(.t 2)], none, 0, 0⟩,
        ⟨(.some 8), (.arith .add), [(.t 7), (.c (.int .i64 1))], none, 0, 0⟩,
        ⟨(.some 2), .mv, [(.t 8)], none, 0, 0⟩]))))))
def r40 : List ARes := []
theorem ok40 : FnOk Try.prog 40 c40 r40 :=
  ⟨Try.f40, _, Try.func40, by kernel_rfl, rfl, by kernel_rfl, by kernel_rfl⟩
/-- rill/rillkit.SpoilInts -/
def c41 : ACode :=
  (.seq
  (.ops [0, 2] [
    ⟨(.some 2), .mv, [(.c (.int .i64 0))], none, 0, 0⟩])
  (.block 0
    (.loop [0, 2]
      (.seq
      (.seq
      (.ops [0, 2, 6] [
        ⟨(.some 3), .mv, [(.t 2)], none, 0, 0⟩,
        ⟨(.some 4), .mv, [(.t 0)], none, 0, 0⟩,
        ⟨(.some 5), .len, [(.t 4)], none, 0, 0⟩,
        ⟨(.some 6), (.cmp .lss), [(.t 3), (.t 5)], none, 0, 0⟩])
      (.cond (.t 6)
        .skip
        (.exit 0)))
      (.seq
      (.block 1
        (.ops [0, 2] [
          ⟨(.some 9), .mv, [(.t 0)], none, 0, 0⟩,
          ⟨(.some 10), .mv, [(.t 2)], none, 0, 0⟩,
          ⟨(.some 11), .mv, [(.t 0)], none, 0, 0⟩,
          ⟨(.some 12), .mv, [(.t 2)], none, 0, 0⟩,
          ⟨(.some 13), (.idxAddr 1), [(.t 11), (.t 12)], none, 0, 0⟩,
          ⟨(.some 14), (.load false 1), [(.t 13)], none, 0, 0⟩,
          ⟨(.some 15), (.arith .xor), [(.t 14), (.c (.int .i64 77))], none, 0, 0⟩,
          ⟨(.some 16), (.idxAddr 1), [(.t 9), (.t 10)], none, 0, 0⟩,
          ⟨none, (.store 1), [(.t 16), (.t 15)], none, 0, 0⟩]))
      (.ops [0, 2] [
        ⟨(.some 7), .mv, [(.t 2)], none, 0, 0⟩,
        ⟨(.some 8), (.arith .add), [(.t 7), (.c (.int .i64 1))], none, 0, 0⟩,
        ⟨(.some 2), .mv, [(.t 8)], none, 0, 0⟩]))))))
def r41 : List ARes := []
theorem ok41 : FnOk Try.prog 41 c41 r41 :=
  ⟨Try.f41, _, Try.func41, by kernel_rfl, rfl, by kernel_rfl, by kernel_rfl⟩
/-- (*rill/rillref18.Tree).Node -/
def c42 : ACode :=
  (.seq
  (.ops [0, 1, 4] [
    ⟨(.some 4), (.alloc ([(.int .i64 0)] ++ (List.replicate 32 (.int .u8 0)))), [], none, 0, 0⟩,
    ⟨(.some 5), .mv, [(.c (.bool false))], none, 0, 0⟩])
  (.seq
  (.ops [0, 4, 6] [
    ⟨(.some 7), .mv, [(.t 0)], none, 0, 0⟩,
    ⟨(.some 8), .mv, [(.t 1)], none, 0, 0⟩,
    ⟨(.some 9), (.call 55), [(.t 7), (.t 8)], none, 0, 0⟩,
    ⟨(.some 6), .mv, [(.t 9)], none, 0, 0⟩])
  (.seq
  (.seq
  (.ops [0, 4, 6, 21] [
    ⟨(.some 10), .mv, [(.t 6)], none, 0, 0⟩,
    ⟨(.some 11), (.cmp .lss), [(.t 10), (.c (.int .i64 0))], none, 0, 0⟩,
    ⟨(.some 12), .mv, [(.t 11)], none, 0, 0⟩,
    ⟨(.some 13), .mv, [(.t 0)], (.some (12, false)), 0, 0⟩,
    ⟨(.some 14), .nilCheck, [(.t 13)], (.some (12, false)), 0, 0⟩,
    ⟨(.some 15), (.fieldAddr 1), [(.t 14)], (.some (12, false)), 0, 0⟩,
    ⟨(.some 16), (.load false 1), [(.t 15)], (.some (12, false)), 0, 0⟩,
    ⟨(.some 17), .mv, [(.t 6)], (.some (12, false)), 0, 0⟩,
    ⟨(.some 18), (.idxAddr 35), [(.t 16), (.t 17)], (.some (12, false)), 0, 0⟩,
    ⟨(.some 19), (.fieldAddr 1), [(.t 18)], (.some (12, false)), 0, 0⟩,
    ⟨(.some 20), (.load false 1), [(.t 19)], (.some (12, false)), 0, 0⟩,
    ⟨(.some 21), .pick, [(.t 12), (.c (.bool true)), (.t 20)], none, 0, 0⟩])
  (.cond (.t 21)
    (.seq
    (.ops [4, 5] [
      ⟨(.some 22), (.build ([(.int .i64 0)] ++ (List.replicate 32 (.int .u8 0))) []), [], none, 0, 0⟩,
      ⟨none, (.store 33), [(.t 4), (.t 22)], none, 0, 0⟩,
      ⟨(.some 5), .mv, [(.c (.bool false))], none, 0, 0⟩])
    .ret)
    .skip))
  (.seq
  (.ops [4, 5] [
    ⟨(.some 23), .mv, [(.t 0)], none, 0, 0⟩,
    ⟨(.some 24), .nilCheck, [(.t 23)], none, 0, 0⟩,
    ⟨(.some 25), (.fieldAddr 1), [(.t 24)], none, 0, 0⟩,
    ⟨(.some 26), (.load false 1), [(.t 25)], none, 0, 0⟩,
    ⟨(.some 27), .mv, [(.t 6)], none, 0, 0⟩,
    ⟨(.some 28), (.idxAddr 35), [(.t 26), (.t 27)], none, 0, 0⟩,
    ⟨(.some 29), (.fieldAddr 2), [(.t 28)], none, 0, 0⟩,
    ⟨(.some 30), (.load true 33), [(.t 29)], none, 0, 0⟩,
    ⟨none, (.store 33), [(.t 4), (.t 30)], none, 0, 0⟩,
    ⟨(.some 5), .mv, [(.c (.bool true))], none, 0, 0⟩])
  .ret))))
def r42 : List ARes := [(.cell 4 true 33), (.tmp 5)]
theorem ok42 : FnOk Try.prog 42 c42 r42 :=
  ⟨Try.f42, _, Try.func42, by kernel_rfl, rfl, by kernel_rfl, by kernel_rfl⟩
/-- (*rill/rillref18.Tree).Page -/
def c43 : ACode :=
  (.seq
  (.ops [0, 1, 4] [
    ⟨(.some 4), (.alloc (rep 8 ([(.int .i64 0)] ++ (List.replicate 32 (.int .u8 0))))), [], none, 0, 0⟩])
  (.seq
  (.ops [0, 1, 4, 5] [
    ⟨(.some 11), (.build (rep 8 ([(.int .i64 0)] ++ (List.replicate 32 (.int .u8 0)))) []), [], none, 0, 0⟩,
    ⟨(.some 5), (.alloc (rep 8 ([(.int .i64 0)] ++ (List.replicate 32 (.int .u8 0))))), [], none, 0, 0⟩,
    ⟨none, (.store 264), [(.t 5), (.t 11)], none, 0, 0⟩])
  (.seq
  (.seq
  (.ops [0, 1, 4, 5, 6] [
    ⟨(.some 6), .mv, [(.c (.int .i64 0))], none, 0, 0⟩])
  (.block 0
    (.loop [0, 1, 4, 5, 6]
      (.seq
      (.seq
      (.ops [0, 1, 4, 5, 6, 13] [
        ⟨(.some 12), .mv, [(.t 6)], none, 0, 0⟩,
        ⟨(.some 13), (.cmp .lss), [(.t 12), (.c (.int .i64 8))], none, 0, 0⟩])
      (.cond (.t 13)
        .skip
        (.exit 0)))
      (.seq
      (.block 1
        (.seq
        (.seq
        (.ops [0, 1, 4, 5, 6, 17] [
          ⟨(.some 16), .mv, [(.t 1)], none, 0, 0⟩,
          ⟨(.some 17), (.eq false .int), [(.t 16), (.c (.int .i64 0))], none, 0, 0⟩])
        (.cond (.t 17)
          (.seq
          (.ops [0, 1, 4, 5, 6, 7] [
            ⟨(.some 19), .mv, [(.t 0)], none, 0, 0⟩,
            ⟨(.some 20), .mv, [(.t 6)], none, 0, 0⟩,
            ⟨(.some 21), (.arith .add), [(.t 20), (.c (.int .i64 1))], none, 0, 0⟩,
            ⟨(.some 22), (.call 42), [(.t 19), (.t 21)], none, 0, 0⟩,
            ⟨(.some 18), .mv, [(.t 22)], none, 0, 0⟩,
            ⟨(.some 23), (.extract 0), [(.t 18)], none, 0, 0⟩,
            ⟨(.some 24), (.extract 1), [(.t 18)], none, 0, 0⟩,
            ⟨(.some 7), (.alloc ([(.int .i64 0)] ++ (List.replicate 32 (.int .u8 0)))), [], none, 0, 0⟩,
            ⟨none, (.store 33), [(.t 7), (.t 23)], none, 0, 0⟩,
            ⟨(.some 8), .mv, [(.t 24)], none, 0, 0⟩])
          (.ops [0, 1, 4, 5, 6] [
            ⟨(.some 25), .mv, [(.t 6)], none, 0, 0⟩,
            ⟨(.some 26), (.load true 33), [(.t 7)], none, 0, 0⟩,
            ⟨(.some 27), (.fieldAddr 0), [(.t 5)], none, 0, 0⟩,
            ⟨(.some 28), (.idxAddrArr 8 33), [(.t 27), (.t 25)], none, 0, 0⟩,
            ⟨none, (.store 33), [(.t 28), (.t 26)], none, 0, 0⟩]))
          .skip))
        (.seq
        (.ops [0, 1, 4, 5, 6, 34] [
          ⟨(.some 29), .mv, [(.t 1)], none, 0, 0⟩,
          ⟨(.some 30), (.cmp .geq), [(.t 29), (.c (.int .i64 1))], none, 0, 0⟩,
          ⟨(.some 31), .mv, [(.t 30)], none, 0, 0⟩,
          ⟨(.some 32), .mv, [(.t 1)], (.some (31, true)), 0, 0⟩,
          ⟨(.some 33), (.cmp .leq), [(.t 32), (.c (.int .i64 8))], (.some (31, true)), 0, 0⟩,
          ⟨(.some 34), .pick, [(.t 31), (.t 33), (.c (.bool false))], none, 0, 0⟩])
        (.cond (.t 34)
          (.seq
          (.ops [0, 1, 4, 5, 6, 9] [
            ⟨(.some 36), .mv, [(.t 0)], none, 0, 0⟩,
            ⟨(.some 37), .mv, [(.t 1)], none, 0, 0⟩,
            ⟨(.some 38), (.arith .sub), [(.t 37), (.c (.int .i64 1))], none, 0, 0⟩,
            ⟨(.some 39), (.arith .mul), [(.c (.int .i64 8)), (.t 38)], none, 0, 0⟩,
            ⟨(.some 40), .mv, [(.t 6)], none, 0, 0⟩,
            ⟨(.some 41), (.arith .add), [(.t 39), (.t 40)], none, 0, 0⟩,
            ⟨(.some 42), (.call 44), [(.t 36), (.t 41)], none, 0, 0⟩,
            ⟨(.some 35), .mv, [(.t 42)], none, 0, 0⟩,
            ⟨(.some 43), (.extract 0), [(.t 35)], none, 0, 0⟩,
            ⟨(.some 44), (.extract 1), [(.t 35)], none, 0, 0⟩,
            ⟨(.some 9), (.alloc ([(.int .i64 0)] ++ (List.replicate 32 (.int .u8 0)))), [], none, 0, 0⟩,
            ⟨none, (.store 33), [(.t 9), (.t 43)], none, 0, 0⟩,
            ⟨(.some 10), .mv, [(.t 44)], none, 0, 0⟩])
          (.ops [0, 1, 4, 5, 6] [
            ⟨(.some 45), .mv, [(.t 6)], none, 0, 0⟩,
            ⟨(.some 46), (.load true 33), [(.t 9)], none, 0, 0⟩,
            ⟨(.some 47), (.fieldAddr 0), [(.t 5)], none, 0, 0⟩,
            ⟨(.some 48), (.idxAddrArr 8 33), [(.t 47), (.t 45)], none, 0, 0⟩,
            ⟨none, (.store 33), [(.t 48), (.t 46)], none, 0, 0⟩]))
          .skip))))
      (.ops [0, 1, 4, 5, 6] [
        ⟨(.some 14), .mv, [(.t 6)], none, 0, 0⟩,
        ⟨(.some 15), (.arith .add), [(.t 14), (.c (.int .i64 1))], none, 0, 0⟩,
        ⟨(.some 6), .mv, [(.t 15)], none, 0, 0⟩]))))))
  (.seq
  (.ops [4] [
    ⟨(.some 49), (.load true 264), [(.t 5)], none, 0, 0⟩,
    ⟨none, (.store 264), [(.t 4), (.t 49)], none, 0, 0⟩])
  .ret))))
def r43 : List ARes := [(.cell 4 true 264)]
theorem ok43 : FnOk Try.prog 43 c43 r43 :=
  ⟨Try.f43, _, Try.func43, by kernel_rfl, rfl, by kernel_rfl, by kernel_rfl⟩
/-- (*rill/rillref18.Tree).Get -/
def c44 : ACode :=
  (.seq
  (.ops [0, 1, 4] [
    ⟨(.some 4), (.alloc ([(.int .i64 0)] ++ (List.replicate 32 (.int .u8 0)))), [], none, 0, 0⟩,
    ⟨(.some 5), .mv, [(.c (.bool false))], none, 0, 0⟩])
  (.seq
  (.ops [0, 4, 6] [
    ⟨(.some 7), .mv, [(.t 0)], none, 0, 0⟩,
    ⟨(.some 8), .mv, [(.t 1)], none, 0, 0⟩,
    ⟨(.some 9), (.call 56), [(.t 7), (.t 8)], none, 0, 0⟩,
    ⟨(.some 6), .mv, [(.t 9)], none, 0, 0⟩])
  (.seq
  (.seq
  (.ops [0, 4, 6, 11] [
    ⟨(.some 10), .mv, [(.t 6)], none, 0, 0⟩,
    ⟨(.some 11), (.cmp .lss), [(.t 10), (.c (.int .i64 0))], none, 0, 0⟩])
  (.cond (.t 11)
    (.seq
    (.ops [4, 5] [
      ⟨(.some 12), (.build ([(.int .i64 0)] ++ (List.replicate 32 (.int .u8 0))) []), [], none, 0, 0⟩,
      ⟨none, (.store 33), [(.t 4), (.t 12)], none, 0, 0⟩,
      ⟨(.some 5), .mv, [(.c (.bool false))], none, 0, 0⟩])
    .ret)
    .skip))
  (.seq
  (.ops [4, 5] [
    ⟨(.some 13), .mv, [(.t 0)], none, 0, 0⟩,
    ⟨(.some 14), .nilCheck, [(.t 13)], none, 0, 0⟩,
    ⟨(.some 15), (.fieldAddr 0), [(.t 14)], none, 0, 0⟩,
    ⟨(.some 16), (.load false 1), [(.t 15)], none, 0, 0⟩,
    ⟨(.some 17), .mv, [(.t 6)], none, 0, 0⟩,
    ⟨(.some 18), (.idxAddr 34), [(.t 16), (.t 17)], none, 0, 0⟩,
    ⟨(.some 19), (.fieldAddr 1), [(.t 18)], none, 0, 0⟩,
    ⟨(.some 20), (.load true 33), [(.t 19)], none, 0, 0⟩,
    ⟨none, (.store 33), [(.t 4), (.t 20)], none, 0, 0⟩,
    ⟨(.some 5), .mv, [(.c (.bool true))], none, 0, 0⟩])
  .ret))))
def r44 : List ARes := [(.cell 4 true 33), (.tmp 5)]
theorem ok44 : FnOk Try.prog 44 c44 r44 :=
  ⟨Try.f44, _, Try.func44, by kernel_rfl, rfl, by kernel_rfl, by kernel_rfl⟩
/-- (*rill/rillref18.Tree).Set -/
def c45 : ACode :=
  (.seq
  (.ops [0, 1, 5] [
    ⟨(.some 5), .box, [(.t 2)], none, 0, 0⟩,
    ⟨(.some 6), .mv, [(.c .nils)], none, 0, 0⟩])
  (.seq
  (.seq
  (.ops [0, 1, 5, 20] [
    ⟨(.some 10), .mv, [(.t 1)], none, 0, 0⟩,
    ⟨(.some 11), (.cmp .lss), [(.t 10), (.c (.int .i64 0))], none, 0, 0⟩,
    ⟨(.some 12), .mv, [(.t 11)], none, 0, 0⟩,
    ⟨(.some 13), .mv, [(.t 1)], (.some (12, false)), 0, 0⟩,
    ⟨(.some 14), (.cmp .gtr), [(.t 13), (.c (.int .i64 63))], (.some (12, false)), 0, 0⟩,
    ⟨(.some 15), .pick, [(.t 12), (.c (.bool true)), (.t 14)], none, 0, 0⟩,
    ⟨(.some 16), .mv, [(.t 15)], none, 0, 0⟩,
    ⟨(.some 17), (.fieldAddr 0), [(.t 5)], (.some (16, false)), 0, 0⟩,
    ⟨(.some 18), (.load false 1), [(.t 17)], (.some (16, false)), 0, 0⟩,
    ⟨(.some 19), (.cmp .lss), [(.t 18), (.c (.int .i64 1))], (.some (16, false)), 0, 0⟩,
    ⟨(.some 20), .pick, [(.t 16), (.c (.bool true)), (.t 19)], none, 0, 0⟩])
  (.cond (.t 20)
    (.seq
    (.ops [6] [
      ⟨(.some 6), .mv, [(.c .nils)], none, 0, 0⟩])
    .ret)
    .skip))
  (.seq
  (.ops [0, 1, 5, 7] [
    ⟨(.some 7), .mv, [(.c .nils)], none, 0, 0⟩])
  (.seq
  (.ops [0, 1, 5, 7, 8, 9] [
    ⟨(.some 22), .mv, [(.t 0)], none, 0, 0⟩,
    ⟨(.some 23), .mv, [(.t 1)], none, 0, 0⟩,
    ⟨(.some 24), (.call 44), [(.t 22), (.t 23)], none, 0, 0⟩,
    ⟨(.some 21), .mv, [(.t 24)], none, 0, 0⟩,
    ⟨(.some 25), (.extract 0), [(.t 21)], none, 0, 0⟩,
    ⟨(.some 26), (.extract 1), [(.t 21)], none, 0, 0⟩,
    ⟨(.some 8), (.alloc ([(.int .i64 0)] ++ (List.replicate 32 (.int .u8 0)))), [], none, 0, 0⟩,
    ⟨none, (.store 33), [(.t 8), (.t 25)], none, 0, 0⟩,
    ⟨(.some 9), .mv, [(.t 26)], none, 0, 0⟩])
  (.seq
  (.seq
  (.ops [0, 1, 5, 7, 8, 27] [
    ⟨(.some 27), .mv, [(.t 9)], none, 0, 0⟩])
  (.cond (.t 27)
    (.ops [0, 1, 5, 7] [
      ⟨(.some 28), .mv, [(.t 7)], none, 0, 0⟩,
      ⟨(.some 29), (.load true 33), [(.t 8)], none, 0, 0⟩,
      ⟨(.some 30), (.mkSl 1 ([(.int .i64 0)] ++ (List.replicate 32 (.int .u8 0))) [(0, 33)]), [(.t 29)], none, 0, 0⟩,
      ⟨(.some 31), (.append 33 40), [(.t 28), (.t 30)], none, 0, 0⟩,
      ⟨(.some 7), .mv, [(.t 31)], none, 0, 0⟩])
    .skip))
  (.seq
  (.ops [0, 1, 7] [
    ⟨(.some 32), .mv, [(.t 0)], none, 0, 0⟩,
    ⟨(.some 33), .mv, [(.t 1)], none, 0, 0⟩,
    ⟨(.some 34), (.load true 33), [(.t 5)], none, 0, 0⟩,
    ⟨(.some 35), (.call 57), [(.t 32), (.t 33), (.t 34)], none, 0, 0⟩])
  (.seq
  (.ops [0, 7] [
    ⟨(.some 36), .mv, [(.t 0)], none, 0, 0⟩,
    ⟨(.some 37), .mv, [(.t 7)], none, 0, 0⟩,
    ⟨(.some 38), .mv, [(.t 1)], none, 0, 0⟩,
    ⟨(.some 39), (.call 59), [(.t 38)], none, 0, 0⟩,
    ⟨(.some 40), (.call 58), [(.t 36), (.t 37), (.t 39)], none, 0, 0⟩,
    ⟨(.some 7), .mv, [(.t 40)], none, 0, 0⟩])
  (.seq
  (.ops [6] [
    ⟨(.some 41), .mv, [(.t 0)], none, 0, 0⟩,
    ⟨(.some 42), .mv, [(.t 7)], none, 0, 0⟩,
    ⟨(.some 43), (.call 58), [(.t 41), (.t 42), (.c (.int .i64 0))], none, 0, 0⟩,
    ⟨(.some 6), .mv, [(.t 43)], none, 0, 0⟩])
  .ret))))))))
def r45 : List ARes := [(.tmp 6)]
theorem ok45 : FnOk Try.prog 45 c45 r45 :=
  ⟨Try.f45, _, Try.func45, by kernel_rfl, rfl, by kernel_rfl, by kernel_rfl⟩
/-- (*rill/rillref18.Tree).Del -/
def c46 : ACode :=
  (.seq
  (.ops [0, 1] [
    ⟨(.some 4), .mv, [(.c .nils)], none, 0, 0⟩])
  (.seq
  (.ops [0, 1, 5, 6] [
    ⟨(.some 9), .mv, [(.t 0)], none, 0, 0⟩,
    ⟨(.some 10), .mv, [(.t 1)], none, 0, 0⟩,
    ⟨(.some 11), (.call 44), [(.t 9), (.t 10)], none, 0, 0⟩,
    ⟨(.some 8), .mv, [(.t 11)], none, 0, 0⟩,
    ⟨(.some 12), (.extract 0), [(.t 8)], none, 0, 0⟩,
    ⟨(.some 13), (.extract 1), [(.t 8)], none, 0, 0⟩,
    ⟨(.some 5), (.alloc ([(.int .i64 0)] ++ (List.replicate 32 (.int .u8 0)))), [], none, 0, 0⟩,
    ⟨none, (.store 33), [(.t 5), (.t 12)], none, 0, 0⟩,
    ⟨(.some 6), .mv, [(.t 13)], none, 0, 0⟩])
  (.seq
  (.seq
  (.ops [0, 1, 5, 15] [
    ⟨(.some 14), .mv, [(.t 6)], none, 0, 0⟩,
    ⟨(.some 15), .not, [(.t 14)], none, 0, 0⟩])
  (.cond (.t 15)
    (.seq
    (.ops [4] [
      ⟨(.some 4), .mv, [(.c .nils)], none, 0, 0⟩])
    .ret)
    .skip))
  (.seq
  (.ops [0, 1, 7] [
    ⟨(.some 16), (.load true 33), [(.t 5)], none, 0, 0⟩,
    ⟨(.some 17), (.mkSl 1 ([(.int .i64 0)] ++ (List.replicate 32 (.int .u8 0))) [(0, 33)]), [(.t 16)], none, 0, 0⟩,
    ⟨(.some 7), .mv, [(.t 17)], none, 0, 0⟩])
  (.seq
  (.ops [0, 1, 7] [
    ⟨(.some 18), .mv, [(.t 0)], none, 0, 0⟩,
    ⟨(.some 19), .mv, [(.t 1)], none, 0, 0⟩,
    ⟨(.some 20), (.build ([(.int .i64 0)] ++ (List.replicate 32 (.int .u8 0))) []), [], none, 0, 0⟩,
    ⟨(.some 21), (.call 57), [(.t 18), (.t 19), (.t 20)], none, 0, 0⟩])
  (.seq
  (.ops [0, 1, 7] [
    ⟨(.some 22), .mv, [(.t 0)], none, 0, 0⟩,
    ⟨(.some 23), .mv, [(.t 7)], none, 0, 0⟩,
    ⟨(.some 24), .mv, [(.t 1)], none, 0, 0⟩,
    ⟨(.some 25), (.call 59), [(.t 24)], none, 0, 0⟩,
    ⟨(.some 26), (.call 58), [(.t 22), (.t 23), (.t 25)], none, 0, 0⟩,
    ⟨(.some 7), .mv, [(.t 26)], none, 0, 0⟩])
  (.seq
  (.ops [0, 1, 7] [
    ⟨(.some 27), .mv, [(.t 0)], none, 0, 0⟩,
    ⟨(.some 28), .mv, [(.t 7)], none, 0, 0⟩,
    ⟨(.some 29), (.call 58), [(.t 27), (.t 28), (.c (.int .i64 0))], none, 0, 0⟩,
    ⟨(.some 7), .mv, [(.t 29)], none, 0, 0⟩])
  (.seq
  (.seq
  (.ops [0, 1, 7, 34] [
    ⟨(.some 30), .mv, [(.t 0)], none, 0, 0⟩,
    ⟨(.some 31), .mv, [(.t 1)], none, 0, 0⟩,
    ⟨(.some 32), (.call 59), [(.t 31)], none, 0, 0⟩,
    ⟨(.some 33), (.call 60), [(.t 30), (.t 32)], none, 0, 0⟩,
    ⟨(.some 34), .not, [(.t 33)], none, 0, 0⟩])
  (.cond (.t 34)
    (.ops [7] [
      ⟨(.some 35), .mv, [(.t 0)], none, 0, 0⟩,
      ⟨(.some 36), .mv, [(.t 0)], none, 0, 0⟩,
      ⟨(.some 37), .mv, [(.t 1)], none, 0, 0⟩,
      ⟨(.some 38), (.call 59), [(.t 37)], none, 0, 0⟩,
      ⟨(.some 39), (.call 61), [(.t 36), (.t 38)], none, 0, 0⟩,
      ⟨(.some 40), .nilCheck, [(.t 35)], none, 0, 0⟩,
      ⟨(.some 41), (.fieldAddr 1), [(.t 40)], none, 0, 0⟩,
      ⟨none, (.store 1), [(.t 41), (.t 39)], none, 0, 0⟩])
    .skip))
  (.seq
  (.ops [4] [
    ⟨(.some 42), .mv, [(.t 7)], none, 0, 0⟩,
    ⟨(.some 4), .mv, [(.t 42)], none, 0, 0⟩])
  .ret)))))))))
def r46 : List ARes := [(.tmp 4)]
theorem ok46 : FnOk Try.prog 46 c46 r46 :=
  ⟨Try.f46, _, Try.func46, by kernel_rfl, rfl, by kernel_rfl, by kernel_rfl⟩
/-- (*rill/rillref18.Tree).Touch -/
def c47 : ACode :=
  (.seq
  (.ops [0, 1] [
    ⟨(.some 4), .mv, [(.c .nils)], none, 0, 0⟩])
  (.seq
  (.ops [0, 1, 5, 6] [
    ⟨(.some 9), .mv, [(.t 0)], none, 0, 0⟩,
    ⟨(.some 10), .mv, [(.t 1)], none, 0, 0⟩,
    ⟨(.some 11), (.call 42), [(.t 9), (.t 10)], none, 0, 0⟩,
    ⟨(.some 8), .mv, [(.t 11)], none, 0, 0⟩,
    ⟨(.some 12), (.extract 0), [(.t 8)], none, 0, 0⟩,
    ⟨(.some 13), (.extract 1), [(.t 8)], none, 0, 0⟩,
    ⟨(.some 5), (.alloc ([(.int .i64 0)] ++ (List.replicate 32 (.int .u8 0)))), [], none, 0, 0⟩,
    ⟨none, (.store 33), [(.t 5), (.t 12)], none, 0, 0⟩,
    ⟨(.some 6), .mv, [(.t 13)], none, 0, 0⟩])
  (.seq
  (.seq
  (.ops [0, 1, 20] [
    ⟨(.some 14), .mv, [(.t 6)], none, 0, 0⟩,
    ⟨(.some 15), .not, [(.t 14)], none, 0, 0⟩,
    ⟨(.some 16), .mv, [(.t 15)], none, 0, 0⟩,
    ⟨(.some 17), (.fieldAddr 0), [(.t 5)], (.some (16, false)), 0, 0⟩,
    ⟨(.some 18), (.load false 1), [(.t 17)], (.some (16, false)), 0, 0⟩,
    ⟨(.some 19), (.cmp .lss), [(.t 18), (.c (.int .i64 1))], (.some (16, false)), 0, 0⟩,
    ⟨(.some 20), .pick, [(.t 16), (.c (.bool true)), (.t 19)], none, 0, 0⟩])
  (.cond (.t 20)
    (.seq
    (.ops [4] [
      ⟨(.some 4), .mv, [(.c .nils)], none, 0, 0⟩])
    .ret)
    .skip))
  (.seq
  (.ops [0, 1, 7] [
    ⟨(.some 7), .mv, [(.c .nils)], none, 0, 0⟩])
  (.seq
  (.ops [0, 1, 7] [
    ⟨(.some 21), .mv, [(.t 0)], none, 0, 0⟩,
    ⟨(.some 22), .mv, [(.t 7)], none, 0, 0⟩,
    ⟨(.some 23), .mv, [(.t 1)], none, 0, 0⟩,
    ⟨(.some 24), (.call 58), [(.t 21), (.t 22), (.t 23)], none, 0, 0⟩,
    ⟨(.some 7), .mv, [(.t 24)], none, 0, 0⟩])
  (.seq
  (.seq
  (.ops [0, 7, 26] [
    ⟨(.some 25), .mv, [(.t 1)], none, 0, 0⟩,
    ⟨(.some 26), (.eq false .int), [(.t 25), (.c (.int .i64 0))], none, 0, 0⟩])
  (.cond (.t 26)
    (.seq
    (.ops [4] [
      ⟨(.some 27), .mv, [(.t 7)], none, 0, 0⟩,
      ⟨(.some 4), .mv, [(.t 27)], none, 0, 0⟩])
    .ret)
    .skip))
  (.seq
  (.ops [4] [
    ⟨(.some 28), .mv, [(.t 0)], none, 0, 0⟩,
    ⟨(.some 29), .mv, [(.t 7)], none, 0, 0⟩,
    ⟨(.some 30), (.call 58), [(.t 28), (.t 29), (.c (.int .i64 0))], none, 0, 0⟩,
    ⟨(.some 4), .mv, [(.t 30)], none, 0, 0⟩])
  .ret)))))))
def r47 : List ARes := [(.tmp 4)]
theorem ok47 : FnOk Try.prog 47 c47 r47 :=
  ⟨Try.f47, _, Try.func47, by kernel_rfl, rfl, by kernel_rfl, by kernel_rfl⟩
/-- (*rill/rillref18.Tree).Saved -/
def c48 : ACode :=
  (.seq
  (.ops [0, 1, 5] [
    ⟨(.some 5), .box, [(.t 2)], none, 0, 0⟩,
    ⟨(.some 6), .mv, [(.c (.int .i64 0))], none, 0, 0⟩])
  (.seq
  (.seq
  (.ops [0, 1, 5, 11] [
    ⟨(.some 8), .mv, [(.t 0)], none, 0, 0⟩,
    ⟨(.some 9), .mv, [(.t 1)], none, 0, 0⟩,
    ⟨(.some 10), (.call 54), [(.t 8), (.t 9)], none, 0, 0⟩,
    ⟨(.some 11), .not, [(.t 10)], none, 0, 0⟩])
  (.cond (.t 11)
    (.seq
    (.ops [6] [
      ⟨(.some 6), .mv, [(.c (.int .i64 16))], none, 0, 0⟩])
    .ret)
    .skip))
  (.seq
  (.seq
  (.ops [0, 1, 5, 19] [
    ⟨(.some 12), .mv, [(.t 1)], none, 0, 0⟩,
    ⟨(.some 13), (.eq false .int), [(.t 12), (.c (.int .i64 0))], none, 0, 0⟩,
    ⟨(.some 14), .mv, [(.t 13)], none, 0, 0⟩,
    ⟨(.some 15), .mv, [(.t 0)], (.some (14, true)), 0, 0⟩,
    ⟨(.some 16), (.call 38), [(.t 15)], (.some (14, true)), 0, 0⟩,
    ⟨(.some 17), .len, [(.t 16)], (.some (14, true)), 0, 0⟩,
    ⟨(.some 18), (.cmp .gtr), [(.t 17), (.c (.int .i64 1))], (.some (14, true)), 0, 0⟩,
    ⟨(.some 19), .pick, [(.t 14), (.t 18), (.c (.bool false))], none, 0, 0⟩])
  (.cond (.t 19)
    (.seq
    (.ops [6] [
      ⟨(.some 6), .mv, [(.c (.int .i64 16))], none, 0, 0⟩])
    .ret)
    .skip))
  (.seq
  (.ops [0, 1, 5, 7] [
    ⟨(.some 20), .mv, [(.t 1)], none, 0, 0⟩,
    ⟨(.some 21), (.eq false .int), [(.t 20), (.c (.int .i64 0))], none, 0, 0⟩,
    ⟨(.some 22), .mv, [(.t 21)], none, 0, 0⟩,
    ⟨(.some 23), .mv, [(.t 0)], (.some (22, true)), 0, 0⟩,
    ⟨(.some 24), .nilCheck, [(.t 23)], (.some (22, true)), 0, 0⟩,
    ⟨(.some 25), (.fieldAddr 0), [(.t 24)], (.some (22, true)), 0, 0⟩,
    ⟨(.some 26), (.load false 1), [(.t 25)], (.some (22, true)), 0, 0⟩,
    ⟨(.some 27), .len, [(.t 26)], (.some (22, true)), 0, 0⟩,
    ⟨(.some 28), (.eq false .int), [(.t 27), (.c (.int .i64 0))], (.some (22, true)), 0, 0⟩,
    ⟨(.some 29), .pick, [(.t 22), (.t 28), (.c (.bool false))], none, 0, 0⟩,
    ⟨(.some 7), .mv, [(.t 29)], none, 0, 0⟩])
  (.seq
  (.seq
  (.ops [0, 1, 5, 44] [
    ⟨(.some 30), .mv, [(.t 7)], none, 0, 0⟩,
    ⟨(.some 31), .mv, [(.t 30)], none, 0, 0⟩,
    ⟨(.some 32), (.load true 33), [(.t 5)], (.some (31, true)), 0, 0⟩,
    ⟨(.some 33), (.build ([(.int .i64 0)] ++ (List.replicate 32 (.int .u8 0))) []), [], (.some (31, true)), 0, 0⟩,
    ⟨(.some 34), (.eqAgg true (List.replicate 33 .i)), [(.t 32), (.t 33)], (.some (31, true)), 0, 0⟩,
    ⟨(.some 35), .pick, [(.t 31), (.t 34), (.c (.bool false))], none, 0, 0⟩,
    ⟨(.some 36), .mv, [(.t 35)], none, 0, 0⟩,
    ⟨(.some 37), .mv, [(.t 7)], (.some (36, false)), 0, 0⟩,
    ⟨(.some 38), .not, [(.t 37)], (.some (36, false)), 0, 0⟩,
    ⟨(.some 39), .mv, [(.t 38)], (.some (36, false)), 0, 0⟩,
    ⟨(.some 40), (.fieldAddr 0), [(.t 5)], (.some (39, true)), 0, 0⟩,
    ⟨(.some 41), (.load false 1), [(.t 40)], (.some (39, true)), 0, 0⟩,
    ⟨(.some 42), (.cmp .lss), [(.t 41), (.c (.int .i64 1))], (.some (39, true)), 0, 0⟩,
    ⟨(.some 43), .pick, [(.t 39), (.t 42), (.c (.bool false))], (.some (36, false)), 0, 0⟩,
    ⟨(.some 44), .pick, [(.t 36), (.c (.bool true)), (.t 43)], none, 0, 0⟩])
  (.cond (.t 44)
    (.seq
    (.ops [6] [
      ⟨(.some 6), .mv, [(.c (.int .i64 7))], none, 0, 0⟩])
    .ret)
    .skip))
  (.seq
  (.ops [] [
    ⟨(.some 45), .mv, [(.t 0)], none, 0, 0⟩,
    ⟨(.some 46), .mv, [(.t 1)], none, 0, 0⟩,
    ⟨(.some 47), (.load true 33), [(.t 5)], none, 0, 0⟩,
    ⟨(.some 48), (.build ([(.int .i64 0), (.bool false), (.int .i64 0)] ++ (List.replicate 32 (.int .u8 0))) [(0, 1), (2, 33)]), [(.t 46), (.t 47)], none, 0, 0⟩,
    ⟨(.some 49), (.call 62), [(.t 45), (.t 48)], none, 0, 0⟩])
  (.seq
  (.ops [6] [
    ⟨(.some 6), .mv, [(.c (.int .i64 0))], none, 0, 0⟩])
  .ret)))))))
def r48 : List ARes := [(.tmp 6)]
theorem ok48 : FnOk Try.prog 48 c48 r48 :=
  ⟨Try.f48, _, Try.func48, by kernel_rfl, rfl, by kernel_rfl, by kernel_rfl⟩
/-- (*rill/rillref18.Tree).Load -/
def c49 : ACode :=
  (.seq
  (.ops [0, 1, 6, 7] [
    ⟨(.some 6), .box, [(.t 2)], none, 0, 0⟩,
    ⟨(.some 7), .box, [(.t 3)], none, 0, 0⟩,
    ⟨(.some 8), .mv, [(.c (.int .i64 0))], none, 0, 0⟩])
  (.seq
  (.seq
  (.ops [0, 1, 6, 7, 24] [
    ⟨(.some 14), .mv, [(.t 1)], none, 0, 0⟩,
    ⟨(.some 15), (.cmp .lss), [(.t 14), (.c (.int .i64 0))], none, 0, 0⟩,
    ⟨(.some 16), .mv, [(.t 15)], none, 0, 0⟩,
    ⟨(.some 17), .mv, [(.t 1)], (.some (16, false)), 0, 0⟩,
    ⟨(.some 18), (.cmp .gtr), [(.t 17), (.c (.int .i64 8))], (.some (16, false)), 0, 0⟩,
    ⟨(.some 19), .pick, [(.t 16), (.c (.bool true)), (.t 18)], none, 0, 0⟩,
    ⟨(.some 20), .mv, [(.t 19)], none, 0, 0⟩,
    ⟨(.some 21), (.fieldAddr 0), [(.t 7)], (.some (20, false)), 0, 0⟩,
    ⟨(.some 22), (.load false 1), [(.t 21)], (.some (20, false)), 0, 0⟩,
    ⟨(.some 23), (.cmp .lss), [(.t 22), (.c (.int .i64 1))], (.some (20, false)), 0, 0⟩,
    ⟨(.some 24), .pick, [(.t 20), (.c (.bool true)), (.t 23)], none, 0, 0⟩])
  (.cond (.t 24)
    (.seq
    (.ops [8] [
      ⟨(.some 8), .mv, [(.c (.int .i64 7))], none, 0, 0⟩])
    .ret)
    .skip))
  (.seq
  (.seq
  (.ops [0, 1, 6, 7, 26] [
    ⟨(.some 25), .mv, [(.t 1)], none, 0, 0⟩,
    ⟨(.some 26), (.eq false .int), [(.t 25), (.c (.int .i64 0))], none, 0, 0⟩])
  (.cond (.t 26)
    (.seq
    (.ops [0, 7, 9, 10] [
      ⟨(.some 28), .mv, [(.t 0)], none, 0, 0⟩,
      ⟨(.some 29), (.call 42), [(.t 28), (.c (.int .i64 0))], none, 0, 0⟩,
      ⟨(.some 27), .mv, [(.t 29)], none, 0, 0⟩,
      ⟨(.some 30), (.extract 0), [(.t 27)], none, 0, 0⟩,
      ⟨(.some 31), (.extract 1), [(.t 27)], none, 0, 0⟩,
      ⟨(.some 9), (.alloc ([(.int .i64 0)] ++ (List.replicate 32 (.int .u8 0)))), [], none, 0, 0⟩,
      ⟨none, (.store 33), [(.t 9), (.t 30)], none, 0, 0⟩,
      ⟨(.some 10), .mv, [(.t 31)], none, 0, 0⟩])
    (.seq
    (.seq
    (.ops [0, 7, 38] [
      ⟨(.some 32), .mv, [(.t 10)], none, 0, 0⟩,
      ⟨(.some 33), .not, [(.t 32)], none, 0, 0⟩,
      ⟨(.some 34), .mv, [(.t 33)], none, 0, 0⟩,
      ⟨(.some 35), (.load true 33), [(.t 9)], (.some (34, false)), 0, 0⟩,
      ⟨(.some 36), (.build ([(.int .i64 0)] ++ (List.replicate 32 (.int .u8 0))) []), [], (.some (34, false)), 0, 0⟩,
      ⟨(.some 37), (.eqAgg true (List.replicate 33 .i)), [(.t 35), (.t 36)], (.some (34, false)), 0, 0⟩,
      ⟨(.some 38), .pick, [(.t 34), (.c (.bool true)), (.t 37)], none, 0, 0⟩])
    (.cond (.t 38)
      (.seq
      (.ops [8] [
        ⟨(.some 8), .mv, [(.c (.int .i64 16))], none, 0, 0⟩])
      .ret)
      .skip))
    (.seq
    (.ops [] [
      ⟨(.some 39), .mv, [(.t 0)], none, 0, 0⟩,
      ⟨(.some 40), (.load true 33), [(.t 7)], none, 0, 0⟩,
      ⟨(.some 41), (.build ([(.int .i64 0), (.bool false), (.int .i64 0)] ++ (List.replicate 32 (.int .u8 0))) [(2, 33)]), [(.t 40)], none, 0, 0⟩,
      ⟨(.some 42), (.call 62), [(.t 39), (.t 41)], none, 0, 0⟩])
    (.seq
    (.ops [8] [
      ⟨(.some 8), .mv, [(.c (.int .i64 0))], none, 0, 0⟩])
    .ret))))
    .skip))
  (.seq
  (.seq
  (.ops [0, 1, 6, 7, 46] [
    ⟨(.some 43), .mv, [(.t 0)], none, 0, 0⟩,
    ⟨(.some 44), .mv, [(.t 1)], none, 0, 0⟩,
    ⟨(.some 45), (.call 55), [(.t 43), (.t 44)], none, 0, 0⟩,
    ⟨(.some 46), (.cmp .geq), [(.t 45), (.c (.int .i64 0))], none, 0, 0⟩])
  (.cond (.t 46)
    (.seq
    (.ops [8] [
      ⟨(.some 8), .mv, [(.c (.int .i64 16))], none, 0, 0⟩])
    .ret)
    .skip))
  (.seq
  (.ops [0, 1, 6, 7, 11] [
    ⟨(.some 11), .mv, [(.c (.bool false))], none, 0, 0⟩])
  (.seq
  (.seq
  (.ops [0, 1, 6, 7, 11, 12] [
    ⟨(.some 12), .mv, [(.c (.int .i64 0))], none, 0, 0⟩])
  (.block 0
    (.loop [0, 1, 6, 7, 11, 12]
      (.seq
      (.seq
      (.ops [0, 1, 6, 7, 11, 12, 48] [
        ⟨(.some 47), .mv, [(.t 12)], none, 0, 0⟩,
        ⟨(.some 48), (.cmp .lss), [(.t 47), (.c (.int .i64 8))], none, 0, 0⟩])
      (.cond (.t 48)
        .skip
        (.exit 0)))
      (.seq
      (.block 1
        (.ops [0, 1, 6, 7, 11, 12] [
          ⟨(.some 51), .mv, [(.t 11)], none, 0, 0⟩,
          ⟨(.some 52), .mv, [(.t 51)], none, 0, 0⟩,
          ⟨(.some 53), .mv, [(.t 12)], (.some (52, false)), 0, 0⟩,
          ⟨(.some 54), (.fieldAddr 0), [(.t 6)], (.some (52, false)), 0, 0⟩,
          ⟨(.some 55), (.idxAddrArr 8 33), [(.t 54), (.t 53)], (.some (52, false)), 0, 0⟩,
          ⟨(.some 56), (.fieldAddr 0), [(.t 55)], (.some (52, false)), 0, 0⟩,
          ⟨(.some 57), (.load false 1), [(.t 56)], (.some (52, false)), 0, 0⟩,
          ⟨(.some 58), (.cmp .gtr), [(.t 57), (.c (.int .i64 0))], (.some (52, false)), 0, 0⟩,
          ⟨(.some 59), .pick, [(.t 52), (.c (.bool true)), (.t 58)], none, 0, 0⟩,
          ⟨(.some 11), .mv, [(.t 59)], none, 0, 0⟩]))
      (.ops [0, 1, 6, 7, 11, 12] [
        ⟨(.some 49), .mv, [(.t 12)], none, 0, 0⟩,
        ⟨(.some 50), (.arith .add), [(.t 49), (.c (.int .i64 1))], none, 0, 0⟩,
        ⟨(.some 12), .mv, [(.t 50)], none, 0, 0⟩]))))))
  (.seq
  (.seq
  (.ops [0, 1, 6, 7, 61] [
    ⟨(.some 60), .mv, [(.t 11)], none, 0, 0⟩,
    ⟨(.some 61), .not, [(.t 60)], none, 0, 0⟩])
  (.cond (.t 61)
    (.seq
    (.ops [8] [
      ⟨(.some 8), .mv, [(.c (.int .i64 7))], none, 0, 0⟩])
    .ret)
    .skip))
  (.seq
  (.seq
  (.ops [0, 1, 6, 7, 13] [
    ⟨(.some 13), .mv, [(.c (.int .i64 0))], none, 0, 0⟩])
  (.block 2
    (.loop [0, 1, 6, 7, 13]
      (.seq
      (.seq
      (.ops [0, 1, 6, 7, 13, 63] [
        ⟨(.some 62), .mv, [(.t 13)], none, 0, 0⟩,
        ⟨(.some 63), (.cmp .lss), [(.t 62), (.c (.int .i64 8))], none, 0, 0⟩])
      (.cond (.t 63)
        .skip
        (.exit 2)))
      (.seq
      (.block 3
        (.seq
        (.ops [0, 1, 6, 7, 13, 71] [
          ⟨(.some 66), .mv, [(.t 13)], none, 0, 0⟩,
          ⟨(.some 67), (.fieldAddr 0), [(.t 6)], none, 0, 0⟩,
          ⟨(.some 68), (.idxAddrArr 8 33), [(.t 67), (.t 66)], none, 0, 0⟩,
          ⟨(.some 69), (.fieldAddr 0), [(.t 68)], none, 0, 0⟩,
          ⟨(.some 70), (.load false 1), [(.t 69)], none, 0, 0⟩,
          ⟨(.some 71), (.cmp .gtr), [(.t 70), (.c (.int .i64 0))], none, 0, 0⟩])
        (.cond (.t 71)
          (.ops [0, 1, 6, 7, 13] [
            ⟨(.some 72), .mv, [(.t 0)], none, 0, 0⟩,
            ⟨(.some 73), .mv, [(.t 1)], none, 0, 0⟩,
            ⟨(.some 74), (.arith .sub), [(.t 73), (.c (.int .i64 1))], none, 0, 0⟩,
            ⟨(.some 75), (.arith .mul), [(.c (.int .i64 8)), (.t 74)], none, 0, 0⟩,
            ⟨(.some 76), .mv, [(.t 13)], none, 0, 0⟩,
            ⟨(.some 77), (.arith .add), [(.t 75), (.t 76)], none, 0, 0⟩,
            ⟨(.some 78), .mv, [(.t 13)], none, 0, 0⟩,
            ⟨(.some 79), (.fieldAddr 0), [(.t 6)], none, 0, 0⟩,
            ⟨(.some 80), (.idxAddrArr 8 33), [(.t 79), (.t 78)], none, 0, 0⟩,
            ⟨(.some 81), (.load true 33), [(.t 80)], none, 0, 0⟩,
            ⟨(.some 82), (.call 57), [(.t 72), (.t 77), (.t 81)], none, 0, 0⟩])
          .skip)))
      (.ops [0, 1, 6, 7, 13] [
        ⟨(.some 64), .mv, [(.t 13)], none, 0, 0⟩,
        ⟨(.some 65), (.arith .add), [(.t 64), (.c (.int .i64 1))], none, 0, 0⟩,
        ⟨(.some 13), .mv, [(.t 65)], none, 0, 0⟩]))))))
  (.seq
  (.ops [] [
    ⟨(.some 83), .mv, [(.t 0)], none, 0, 0⟩,
    ⟨(.some 84), .mv, [(.t 1)], none, 0, 0⟩,
    ⟨(.some 85), (.load true 33), [(.t 7)], none, 0, 0⟩,
    ⟨(.some 86), (.build ([(.int .i64 0), (.bool false), (.int .i64 0)] ++ (List.replicate 32 (.int .u8 0))) [(0, 1), (2, 33)]), [(.t 84), (.t 85)], none, 0, 0⟩,
    ⟨(.some 87), (.call 62), [(.t 83), (.t 86)], none, 0, 0⟩])
  (.seq
  (.ops [8] [
    ⟨(.some 8), .mv, [(.c (.int .i64 0))], none, 0, 0⟩])
  .ret))))))))))
def r49 : List ARes := [(.tmp 8)]
theorem ok49 : FnOk Try.prog 49 c49 r49 :=
  ⟨Try.f49, _, Try.func49, by kernel_rfl, rfl, by kernel_rfl, by kernel_rfl⟩
/-- rill/page.Leaf -/
def c50 : ACode :=
  (.seq
  (.ops [0] [
    ⟨(.some 2), .mv, [(.c (.int .i64 0))], none, 0, 0⟩,
    ⟨(.some 3), .mv, [(.c (.int .i64 0))], none, 0, 0⟩])
  (.seq
  (.seq
  (.ops [0, 9] [
    ⟨(.some 4), .mv, [(.t 0)], none, 0, 0⟩,
    ⟨(.some 5), (.cmp .lss), [(.t 4), (.c (.int .i64 0))], none, 0, 0⟩,
    ⟨(.some 6), .mv, [(.t 5)], none, 0, 0⟩,
    ⟨(.some 7), .mv, [(.t 0)], (.some (6, false)), 0, 0⟩,
    ⟨(.some 8), (.cmp .geq), [(.t 7), (.c (.int .i64 64))], (.some (6, false)), 0, 0⟩,
    ⟨(.some 9), .pick, [(.t 6), (.c (.bool true)), (.t 8)], none, 0, 0⟩])
  (.cond (.t 9)
    (.seq
    (.ops [2, 3] [
      ⟨(.some 2), .mv, [(.c (.int .i64 0))], none, 0, 0⟩,
      ⟨(.some 3), .mv, [(.c (.int .i64 0))], none, 0, 0⟩])
    .ret)
    .skip))
  (.seq
  (.ops [2, 3] [
    ⟨(.some 10), .mv, [(.t 0)], none, 0, 0⟩,
    ⟨(.some 11), (.arith .quo), [(.t 10), (.c (.int .i64 8))], none, 0, 0⟩,
    ⟨(.some 12), (.arith .add), [(.t 11), (.c (.int .i64 1))], none, 0, 0⟩,
    ⟨(.some 13), .mv, [(.t 0)], none, 0, 0⟩,
    ⟨(.some 14), (.arith .rem), [(.t 13), (.c (.int .i64 8))], none, 0, 0⟩,
    ⟨(.some 2), .mv, [(.t 12)], none, 0, 0⟩,
    ⟨(.some 3), .mv, [(.t 14)], none, 0, 0⟩])
  .ret)))
def r50 : List ARes := [(.tmp 2), (.tmp 3)]
theorem ok50 : FnOk Try.prog 50 c50 r50 :=
  ⟨Try.f50, _, Try.func50, by kernel_rfl, rfl, by kernel_rfl, by kernel_rfl⟩
/-- (*rill/tree.Tree).spoil -/
def c51 : ACode :=
  (.seq
  (.ops [0, 1] [
    ⟨(.some 4), .mv, [(.c .nils)], none, 0, 0⟩])
  (.seq
  (.ops [0, 1, 5] [
    ⟨(.some 5), .mv, [(.c .nils)], none, 0, 0⟩])
  (.seq
  (.seq
  (.ops [0, 5, 9, 10, 11] [
    ⟨(.some 9), .mv, [(.t 1)], none, 0, 0⟩,
    ⟨(.some 10), .len, [(.t 9)], none, 0, 0⟩,
    ⟨(.some 11), .mv, [(.c (.int .i64 0))], none, 0, 0⟩])
  (.block 0
    (.loop [0, 5, 9, 10, 11]
      (.seq
      (.ops [0, 5, 9, 10, 11, 12] [
        ⟨(.some 12), (.cmp .lss), [(.t 11), (.t 10)], none, 0, 0⟩])
      (.seq
      (.cond (.t 12)
        .skip
        (.exit 0))
      (.seq
      (.block 1
        (.seq
        (.ops [0, 5, 7, 9, 10, 11] [
          ⟨(.some 13), (.idxAddr 1), [(.t 9), (.t 11)], none, 0, 0⟩,
          ⟨(.some 14), (.load false 1), [(.t 13)], none, 0, 0⟩,
          ⟨(.some 7), .mv, [(.t 14)], none, 0, 0⟩])
        (.seq
        (.seq
        (.ops [0, 5, 7, 8, 9, 10, 11] [
          ⟨(.some 15), .mv, [(.t 0)], none, 0, 0⟩,
          ⟨(.some 16), .mv, [(.t 7)], none, 0, 0⟩,
          ⟨(.some 17), .nilCheck, [(.t 15)], none, 0, 0⟩,
          ⟨(.some 18), (.fieldAddr 2112), [(.t 17)], none, 0, 0⟩,
          ⟨(.some 19), (.idxAddrArr 9 34), [(.t 18), (.t 16)], none, 0, 0⟩,
          ⟨(.some 20), (.load true 34), [(.t 19)], none, 0, 0⟩,
          ⟨(.some 8), (.alloc ([(.int .i64 0), (.int .i64 0)] ++ (List.replicate 32 (.int .u8 0)))), [], none, 0, 0⟩,
          ⟨none, (.store 34), [(.t 8), (.t 20)], none, 0, 0⟩])
        (.seq
        (.ops [0, 5, 7, 8, 9, 10, 11, 29] [
          ⟨(.some 21), (.fieldAddr 0), [(.t 8)], none, 0, 0⟩,
          ⟨(.some 22), (.load false 1), [(.t 21)], none, 0, 0⟩,
          ⟨(.some 23), (.eq false .int), [(.t 22), (.c (.int .i64 1))], none, 0, 0⟩,
          ⟨(.some 24), .mv, [(.t 23)], none, 0, 0⟩,
          ⟨(.some 25), (.fieldAddr 1), [(.t 8)], (.some (24, true)), 0, 0⟩,
          ⟨(.some 26), (.fieldAddr 0), [(.t 25)], (.some (24, true)), 0, 0⟩,
          ⟨(.some 27), (.load false 1), [(.t 26)], (.some (24, true)), 0, 0⟩,
          ⟨(.some 28), (.cmp .gtr), [(.t 27), (.c (.int .i64 0))], (.some (24, true)), 0, 0⟩,
          ⟨(.some 29), .pick, [(.t 24), (.t 28), (.c (.bool false))], none, 0, 0⟩])
        (.cond (.t 29)
          (.ops [0, 5, 7, 9, 10, 11] [
            ⟨(.some 30), .mv, [(.t 5)], none, 0, 0⟩,
            ⟨(.some 31), (.fieldAddr 1), [(.t 8)], none, 0, 0⟩,
            ⟨(.some 32), (.load true 33), [(.t 31)], none, 0, 0⟩,
            ⟨(.some 33), (.mkSl 1 ([(.int .i64 0)] ++ (List.replicate 32 (.int .u8 0))) [(0, 33)]), [(.t 32)], none, 0, 0⟩,
            ⟨(.some 34), (.append 33 40), [(.t 30), (.t 33)], none, 0, 0⟩,
            ⟨(.some 5), .mv, [(.t 34)], none, 0, 0⟩])
          .skip)))
        (.ops [0, 5, 9, 10, 11] [
          ⟨(.some 35), .mv, [(.t 0)], none, 0, 0⟩,
          ⟨(.some 36), .mv, [(.t 7)], none, 0, 0⟩,
          ⟨(.some 37), (.build ([(.int .i64 0), (.int .i64 0)] ++ (List.replicate 32 (.int .u8 0))) [(0, 1)]), [(.c (.int .i64 2))], none, 0, 0⟩,
          ⟨(.some 38), .nilCheck, [(.t 35)], none, 0, 0⟩,
          ⟨(.some 39), (.fieldAddr 2112), [(.t 38)], none, 0, 0⟩,
          ⟨(.some 40), (.idxAddrArr 9 34), [(.t 39), (.t 36)], none, 0, 0⟩,
          ⟨none, (.store 34), [(.t 40), (.t 37)], none, 0, 0⟩]))))
      (.ops [0, 5, 9, 10, 11] [
        ⟨(.some 41), (.arith .add), [(.t 11), (.c (.int .i64 1))], none, 0, 0⟩,
        ⟨(.some 11), .mv, [(.t 41)], none, 0, 0⟩])))))))
  (.seq
  (.ops [4] [
    ⟨(.some 42), .mv, [(.t 5)], none, 0, 0⟩,
    ⟨(.some 4), .mv, [(.t 42)], none, 0, 0⟩])
  .ret))))
def r51 : List ARes := [(.tmp 4)]
theorem ok51 : FnOk Try.prog 51 c51 r51 :=
  ⟨Try.f51, _, Try.func51, by kernel_rfl, rfl, by kernel_rfl, by kernel_rfl⟩
/-- (*rill/tree.Tree).empty -/
def c52 : ACode :=
  (.seq
  (.ops [0, 1] [
    ⟨(.some 4), .mv, [(.c (.bool false))], none, 0, 0⟩])
  (.seq
  (.ops [4] [
    ⟨(.some 5), .mv, [(.t 0)], none, 0, 0⟩,
    ⟨(.some 6), .mv, [(.t 1)], none, 0, 0⟩,
    ⟨(.some 7), (.call 34), [(.t 5), (.t 6)], none, 0, 0⟩,
    ⟨(.some 8), (.call 63), [(.t 7), (.c (.fn (.func 64) [] []))], none, 0, 0⟩,
    ⟨(.some 9), .not, [(.t 8)], none, 0, 0⟩,
    ⟨(.some 4), .mv, [(.t 9)], none, 0, 0⟩])
  .ret))
def r52 : List ARes := [(.tmp 4)]
theorem ok52 : FnOk Try.prog 52 c52 r52 :=
  ⟨Try.f52, _, Try.func52, by kernel_rfl, rfl, by kernel_rfl, by kernel_rfl⟩
/-- slices.Index[[]int,int] -/
def c53 : ACode :=
  (.seq
  (.ops [0, 1] [
    ⟨(.some 4), .mv, [(.c (.int .i64 0))], none, 0, 0⟩])
  (.seq
  (.seq
  (.ops [0, 1, 7, 8] [
    ⟨(.some 6), .mv, [(.t 0)], none, 0, 0⟩,
    ⟨(.some 7), .len, [(.t 6)], none, 0, 0⟩,
    ⟨(.some 8), .mv, [(.c (.int .i64 0))], none, 0, 0⟩])
  (.block 0
    (.loop [0, 1, 7, 8]
      (.seq
      (.ops [0, 1, 7, 8, 9] [
        ⟨(.some 9), (.cmp .lss), [(.t 8), (.t 7)], none, 0, 0⟩])
      (.seq
      (.cond (.t 9)
        .skip
        (.exit 0))
      (.seq
      (.block 1
        (.seq
        (.ops [0, 1, 5, 7, 8] [
          ⟨(.some 10), .mv, [(.t 8)], none, 0, 0⟩,
          ⟨(.some 5), .mv, [(.t 10)], none, 0, 0⟩])
        (.seq
        (.ops [0, 1, 5, 7, 8, 16] [
          ⟨(.some 11), .mv, [(.t 1)], none, 0, 0⟩,
          ⟨(.some 12), .mv, [(.t 0)], none, 0, 0⟩,
          ⟨(.some 13), .mv, [(.t 5)], none, 0, 0⟩,
          ⟨(.some 14), (.idxAddr 1), [(.t 12), (.t 13)], none, 0, 0⟩,
          ⟨(.some 15), (.load false 1), [(.t 14)], none, 0, 0⟩,
          ⟨(.some 16), (.eq false .int), [(.t 11), (.t 15)], none, 0, 0⟩])
        (.cond (.t 16)
          (.seq
          (.ops [4] [
            ⟨(.some 17), .mv, [(.t 5)], none, 0, 0⟩,
            ⟨(.some 4), .mv, [(.t 17)], none, 0, 0⟩])
          .ret)
          .skip))))
      (.ops [0, 1, 7, 8] [
        ⟨(.some 18), (.arith .add), [(.t 8), (.c (.int .i64 1))], none, 0, 0⟩,
        ⟨(.some 8), .mv, [(.t 18)], none, 0, 0⟩])))))))
  (.seq
  (.ops [4] [
    ⟨(.some 4), .mv, [(.c (.int .i64 (-1)))], none, 0, 0⟩])
  .ret)))
def r53 : List ARes := [(.tmp 4)]
theorem ok53 : FnOk Try.prog 53 c53 r53 :=
  ⟨Try.f53, _, Try.func53, by kernel_rfl, rfl, by kernel_rfl, by kernel_rfl⟩
/-- (*rill/rillref18.Tree).dirty -/
def c54 : ACode :=
  (.seq
  (.ops [0, 1] [
    ⟨(.some 4), .mv, [(.c (.bool false))], none, 0, 0⟩])
  (.seq
  (.ops [0, 5] [
    ⟨(.some 6), .mv, [(.t 0)], none, 0, 0⟩,
    ⟨(.some 7), .mv, [(.t 1)], none, 0, 0⟩,
    ⟨(.some 8), (.call 55), [(.t 6), (.t 7)], none, 0, 0⟩,
    ⟨(.some 5), .mv, [(.t 8)], none, 0, 0⟩])
  (.seq
  (.ops [4] [
    ⟨(.some 9), .mv, [(.t 5)], none, 0, 0⟩,
    ⟨(.some 10), (.cmp .geq), [(.t 9), (.c (.int .i64 0))], none, 0, 0⟩,
    ⟨(.some 11), .mv, [(.t 10)], none, 0, 0⟩,
    ⟨(.some 12), .mv, [(.t 0)], (.some (11, true)), 0, 0⟩,
    ⟨(.some 13), .nilCheck, [(.t 12)], (.some (11, true)), 0, 0⟩,
    ⟨(.some 14), (.fieldAddr 1), [(.t 13)], (.some (11, true)), 0, 0⟩,
    ⟨(.some 15), (.load false 1), [(.t 14)], (.some (11, true)), 0, 0⟩,
    ⟨(.some 16), .mv, [(.t 5)], (.some (11, true)), 0, 0⟩,
    ⟨(.some 17), (.idxAddr 35), [(.t 15), (.t 16)], (.some (11, true)), 0, 0⟩,
    ⟨(.some 18), (.fieldAddr 1), [(.t 17)], (.some (11, true)), 0, 0⟩,
    ⟨(.some 19), (.load false 1), [(.t 18)], (.some (11, true)), 0, 0⟩,
    ⟨(.some 20), .pick, [(.t 11), (.t 19), (.c (.bool false))], none, 0, 0⟩,
    ⟨(.some 4), .mv, [(.t 20)], none, 0, 0⟩])
  .ret)))
def r54 : List ARes := [(.tmp 4)]
theorem ok54 : FnOk Try.prog 54 c54 r54 :=
  ⟨Try.f54, _, Try.func54, by kernel_rfl, rfl, by kernel_rfl, by kernel_rfl⟩
/-- (*rill/rillref18.Tree).node -/
def c55 : ACode :=
  (.seq
  (.ops [0, 1] [
    ⟨(.some 4), .mv, [(.c (.int .i64 0))], none, 0, 0⟩])
  (.seq
  (.seq
  (.ops [0, 1, 5] [
    ⟨(.some 5), .mv, [(.c (.int .i64 0))], none, 0, 0⟩])
  (.block 0
    (.loop [0, 1, 5]
      (.seq
      (.seq
      (.ops [0, 1, 5, 12] [
        ⟨(.some 6), .mv, [(.t 5)], none, 0, 0⟩,
        ⟨(.some 7), .mv, [(.t 0)], none, 0, 0⟩,
        ⟨(.some 8), .nilCheck, [(.t 7)], none, 0, 0⟩,
        ⟨(.some 9), (.fieldAddr 1), [(.t 8)], none, 0, 0⟩,
        ⟨(.some 10), (.load false 1), [(.t 9)], none, 0, 0⟩,
        ⟨(.some 11), .len, [(.t 10)], none, 0, 0⟩,
        ⟨(.some 12), (.cmp .lss), [(.t 6), (.t 11)], none, 0, 0⟩])
      (.cond (.t 12)
        .skip
        (.exit 0)))
      (.seq
      (.block 1
        (.seq
        (.ops [0, 1, 5, 24] [
          ⟨(.some 15), .mv, [(.t 0)], none, 0, 0⟩,
          ⟨(.some 16), .nilCheck, [(.t 15)], none, 0, 0⟩,
          ⟨(.some 17), (.fieldAddr 1), [(.t 16)], none, 0, 0⟩,
          ⟨(.some 18), (.load false 1), [(.t 17)], none, 0, 0⟩,
          ⟨(.some 19), .mv, [(.t 5)], none, 0, 0⟩,
          ⟨(.some 20), (.idxAddr 35), [(.t 18), (.t 19)], none, 0, 0⟩,
          ⟨(.some 21), (.fieldAddr 0), [(.t 20)], none, 0, 0⟩,
          ⟨(.some 22), (.load false 1), [(.t 21)], none, 0, 0⟩,
          ⟨(.some 23), .mv, [(.t 1)], none, 0, 0⟩,
          ⟨(.some 24), (.eq false .int), [(.t 22), (.t 23)], none, 0, 0⟩])
        (.cond (.t 24)
          (.seq
          (.ops [4] [
            ⟨(.some 25), .mv, [(.t 5)], none, 0, 0⟩,
            ⟨(.some 4), .mv, [(.t 25)], none, 0, 0⟩])
          .ret)
          .skip)))
      (.ops [0, 1, 5] [
        ⟨(.some 13), .mv, [(.t 5)], none, 0, 0⟩,
        ⟨(.some 14), (.arith .add), [(.t 13), (.c (.int .i64 1))], none, 0, 0⟩,
        ⟨(.some 5), .mv, [(.t 14)], none, 0, 0⟩]))))))
  (.seq
  (.ops [4] [
    ⟨(.some 4), .mv, [(.c (.int .i64 (-1)))], none, 0, 0⟩])
  .ret)))
def r55 : List ARes := [(.tmp 4)]
theorem ok55 : FnOk Try.prog 55 c55 r55 :=
  ⟨Try.f55, _, Try.func55, by kernel_rfl, rfl, by kernel_rfl, by kernel_rfl⟩
/-- (*rill/rillref18.Tree).at -/
def c56 : ACode :=
  (.seq
  (.ops [0, 1] [
    ⟨(.some 4), .mv, [(.c (.int .i64 0))], none, 0, 0⟩])
  (.seq
  (.seq
  (.ops [0, 1, 5] [
    ⟨(.some 5), .mv, [(.c (.int .i64 0))], none, 0, 0⟩])
  (.block 0
    (.loop [0, 1, 5]
      (.seq
      (.seq
      (.ops [0, 1, 5, 12] [
        ⟨(.some 6), .mv, [(.t 5)], none, 0, 0⟩,
        ⟨(.some 7), .mv, [(.t 0)], none, 0, 0⟩,
        ⟨(.some 8), .nilCheck, [(.t 7)], none, 0, 0⟩,
        ⟨(.some 9), (.fieldAddr 0), [(.t 8)], none, 0, 0⟩,
        ⟨(.some 10), (.load false 1), [(.t 9)], none, 0, 0⟩,
        ⟨(.some 11), .len, [(.t 10)], none, 0, 0⟩,
        ⟨(.some 12), (.cmp .lss), [(.t 6), (.t 11)], none, 0, 0⟩])
      (.cond (.t 12)
        .skip
        (.exit 0)))
      (.seq
      (.block 1
        (.seq
        (.ops [0, 1, 5, 24] [
          ⟨(.some 15), .mv, [(.t 0)], none, 0, 0⟩,
          ⟨(.some 16), .nilCheck, [(.t 15)], none, 0, 0⟩,
          ⟨(.some 17), (.fieldAddr 0), [(.t 16)], none, 0, 0⟩,
          ⟨(.some 18), (.load false 1), [(.t 17)], none, 0, 0⟩,
          ⟨(.some 19), .mv, [(.t 5)], none, 0, 0⟩,
          ⟨(.some 20), (.idxAddr 34), [(.t 18), (.t 19)], none, 0, 0⟩,
          ⟨(.some 21), (.fieldAddr 0), [(.t 20)], none, 0, 0⟩,
          ⟨(.some 22), (.load false 1), [(.t 21)], none, 0, 0⟩,
          ⟨(.some 23), .mv, [(.t 1)], none, 0, 0⟩,
          ⟨(.some 24), (.eq false .int), [(.t 22), (.t 23)], none, 0, 0⟩])
        (.cond (.t 24)
          (.seq
          (.ops [4] [
            ⟨(.some 25), .mv, [(.t 5)], none, 0, 0⟩,
            ⟨(.some 4), .mv, [(.t 25)], none, 0, 0⟩])
          .ret)
          .skip)))
      (.ops [0, 1, 5] [
        ⟨(.some 13), .mv, [(.t 5)], none, 0, 0⟩,
        ⟨(.some 14), (.arith .add), [(.t 13), (.c (.int .i64 1))], none, 0, 0⟩,
        ⟨(.some 5), .mv, [(.t 14)], none, 0, 0⟩]))))))
  (.seq
  (.ops [4] [
    ⟨(.some 4), .mv, [(.c (.int .i64 (-1)))], none, 0, 0⟩])
  .ret)))
def r56 : List ARes := [(.tmp 4)]
theorem ok56 : FnOk Try.prog 56 c56 r56 :=
  ⟨Try.f56, _, Try.func56, by kernel_rfl, rfl, by kernel_rfl, by kernel_rfl⟩
/-- (*rill/rillref18.Tree).put -/
def c57 : ACode :=
  (.seq
  (.ops [0, 1, 5] [
    ⟨(.some 5), .box, [(.t 2)], none, 0, 0⟩])
  (.seq
  (.ops [0, 1, 5, 6] [
    ⟨(.some 6), .mv, [(.c .nils)], none, 0, 0⟩])
  (.seq
  (.ops [0, 1, 5, 6, 7] [
    ⟨(.some 9), (.fieldAddr 0), [(.t 5)], none, 0, 0⟩,
    ⟨(.some 10), (.load false 1), [(.t 9)], none, 0, 0⟩,
    ⟨(.some 11), (.cmp .lss), [(.t 10), (.c (.int .i64 1))], none, 0, 0⟩,
    ⟨(.some 7), .mv, [(.t 11)], none, 0, 0⟩])
  (.seq
  (.seq
  (.ops [0, 1, 5, 6, 7, 8] [
    ⟨(.some 8), .mv, [(.c (.int .i64 0))], none, 0, 0⟩])
  (.block 0
    (.loop [0, 1, 5, 6, 7, 8]
      (.seq
      (.seq
      (.ops [0, 1, 5, 6, 7, 8, 18] [
        ⟨(.some 12), .mv, [(.t 8)], none, 0, 0⟩,
        ⟨(.some 13), .mv, [(.t 0)], none, 0, 0⟩,
        ⟨(.some 14), .nilCheck, [(.t 13)], none, 0, 0⟩,
        ⟨(.some 15), (.fieldAddr 0), [(.t 14)], none, 0, 0⟩,
        ⟨(.some 16), (.load false 1), [(.t 15)], none, 0, 0⟩,
        ⟨(.some 17), .len, [(.t 16)], none, 0, 0⟩,
        ⟨(.some 18), (.cmp .lss), [(.t 12), (.t 17)], none, 0, 0⟩])
      (.cond (.t 18)
        .skip
        (.exit 0)))
      (.seq
      (.block 1
        (.seq
        (.seq
        (.ops [0, 1, 5, 6, 7, 8, 34] [
          ⟨(.some 21), .mv, [(.t 7)], none, 0, 0⟩,
          ⟨(.some 22), .not, [(.t 21)], none, 0, 0⟩,
          ⟨(.some 23), .mv, [(.t 22)], none, 0, 0⟩,
          ⟨(.some 24), .mv, [(.t 0)], (.some (23, true)), 0, 0⟩,
          ⟨(.some 25), .nilCheck, [(.t 24)], (.some (23, true)), 0, 0⟩,
          ⟨(.some 26), (.fieldAddr 0), [(.t 25)], (.some (23, true)), 0, 0⟩,
          ⟨(.some 27), (.load false 1), [(.t 26)], (.some (23, true)), 0, 0⟩,
          ⟨(.some 28), .mv, [(.t 8)], (.some (23, true)), 0, 0⟩,
          ⟨(.some 29), (.idxAddr 34), [(.t 27), (.t 28)], (.some (23, true)), 0, 0⟩,
          ⟨(.some 30), (.fieldAddr 0), [(.t 29)], (.some (23, true)), 0, 0⟩,
          ⟨(.some 31), (.load false 1), [(.t 30)], (.some (23, true)), 0, 0⟩,
          ⟨(.some 32), .mv, [(.t 1)], (.some (23, true)), 0, 0⟩,
          ⟨(.some 33), (.cmp .geq), [(.t 31), (.t 32)], (.some (23, true)), 0, 0⟩,
          ⟨(.some 34), .pick, [(.t 23), (.t 33), (.c (.bool false))], none, 0, 0⟩])
        (.cond (.t 34)
          (.seq
          (.ops [0, 1, 5, 6, 8] [
            ⟨(.some 35), .mv, [(.t 6)], none, 0, 0⟩,
            ⟨(.some 36), .mv, [(.t 1)], none, 0, 0⟩,
            ⟨(.some 37), (.load true 33), [(.t 5)], none, 0, 0⟩,
            ⟨(.some 38), (.build ([(.int .i64 0), (.int .i64 0)] ++ (List.replicate 32 (.int .u8 0))) [(0, 1), (1, 33)]), [(.t 36), (.t 37)], none, 0, 0⟩,
            ⟨(.some 39), (.mkSl 1 ([(.int .i64 0), (.int .i64 0)] ++ (List.replicate 32 (.int .u8 0))) [(0, 34)]), [(.t 38)], none, 0, 0⟩,
            ⟨(.some 40), (.append 34 48), [(.t 35), (.t 39)], none, 0, 0⟩,
            ⟨(.some 6), .mv, [(.t 40)], none, 0, 0⟩])
          (.ops [0, 1, 5, 6, 7, 8] [
            ⟨(.some 7), .mv, [(.c (.bool true))], none, 0, 0⟩]))
          .skip))
        (.seq
        (.ops [0, 1, 5, 6, 7, 8, 50] [
          ⟨(.some 41), .mv, [(.t 0)], none, 0, 0⟩,
          ⟨(.some 42), .nilCheck, [(.t 41)], none, 0, 0⟩,
          ⟨(.some 43), (.fieldAddr 0), [(.t 42)], none, 0, 0⟩,
          ⟨(.some 44), (.load false 1), [(.t 43)], none, 0, 0⟩,
          ⟨(.some 45), .mv, [(.t 8)], none, 0, 0⟩,
          ⟨(.some 46), (.idxAddr 34), [(.t 44), (.t 45)], none, 0, 0⟩,
          ⟨(.some 47), (.fieldAddr 0), [(.t 46)], none, 0, 0⟩,
          ⟨(.some 48), (.load false 1), [(.t 47)], none, 0, 0⟩,
          ⟨(.some 49), .mv, [(.t 1)], none, 0, 0⟩,
          ⟨(.some 50), (.eq true .int), [(.t 48), (.t 49)], none, 0, 0⟩])
        (.cond (.t 50)
          (.ops [0, 1, 5, 6, 7, 8] [
            ⟨(.some 51), .mv, [(.t 6)], none, 0, 0⟩,
            ⟨(.some 52), .mv, [(.t 0)], none, 0, 0⟩,
            ⟨(.some 53), .nilCheck, [(.t 52)], none, 0, 0⟩,
            ⟨(.some 54), (.fieldAddr 0), [(.t 53)], none, 0, 0⟩,
            ⟨(.some 55), (.load false 1), [(.t 54)], none, 0, 0⟩,
            ⟨(.some 56), .mv, [(.t 8)], none, 0, 0⟩,
            ⟨(.some 57), (.idxAddr 34), [(.t 55), (.t 56)], none, 0, 0⟩,
            ⟨(.some 58), (.load true 34), [(.t 57)], none, 0, 0⟩,
            ⟨(.some 59), (.mkSl 1 ([(.int .i64 0), (.int .i64 0)] ++ (List.replicate 32 (.int .u8 0))) [(0, 34)]), [(.t 58)], none, 0, 0⟩,
            ⟨(.some 60), (.append 34 48), [(.t 51), (.t 59)], none, 0, 0⟩,
            ⟨(.some 6), .mv, [(.t 60)], none, 0, 0⟩])
          .skip))))
      (.ops [0, 1, 5, 6, 7, 8] [
        ⟨(.some 19), .mv, [(.t 8)], none, 0, 0⟩,
        ⟨(.some 20), (.arith .add), [(.t 19), (.c (.int .i64 1))], none, 0, 0⟩,
        ⟨(.some 8), .mv, [(.t 20)], none, 0, 0⟩]))))))
  (.seq
  (.seq
  (.ops [0, 1, 5, 6, 62] [
    ⟨(.some 61), .mv, [(.t 7)], none, 0, 0⟩,
    ⟨(.some 62), .not, [(.t 61)], none, 0, 0⟩])
  (.cond (.t 62)
    (.ops [0, 6] [
      ⟨(.some 63), .mv, [(.t 6)], none, 0, 0⟩,
      ⟨(.some 64), .mv, [(.t 1)], none, 0, 0⟩,
      ⟨(.some 65), (.load true 33), [(.t 5)], none, 0, 0⟩,
      ⟨(.some 66), (.build ([(.int .i64 0), (.int .i64 0)] ++ (List.replicate 32 (.int .u8 0))) [(0, 1), (1, 33)]), [(.t 64), (.t 65)], none, 0, 0⟩,
      ⟨(.some 67), (.mkSl 1 ([(.int .i64 0), (.int .i64 0)] ++ (List.replicate 32 (.int .u8 0))) [(0, 34)]), [(.t 66)], none, 0, 0⟩,
      ⟨(.some 68), (.append 34 48), [(.t 63), (.t 67)], none, 0, 0⟩,
      ⟨(.some 6), .mv, [(.t 68)], none, 0, 0⟩])
    .skip))
  (.ops [] [
    ⟨(.some 69), .mv, [(.t 0)], none, 0, 0⟩,
    ⟨(.some 70), .mv, [(.t 6)], none, 0, 0⟩,
    ⟨(.some 71), .nilCheck, [(.t 69)], none, 0, 0⟩,
    ⟨(.some 72), (.fieldAddr 0), [(.t 71)], none, 0, 0⟩,
    ⟨none, (.store 1), [(.t 72), (.t 70)], none, 0, 0⟩]))))))
def r57 : List ARes := []
theorem ok57 : FnOk Try.prog 57 c57 r57 :=
  ⟨Try.f57, _, Try.func57, by kernel_rfl, rfl, by kernel_rfl, by kernel_rfl⟩
/-- (*rill/rillref18.Tree).spoil -/
def c58 : ACode :=
  (.seq
  (.ops [0, 1, 2] [
    ⟨(.some 6), .mv, [(.c .nils)], none, 0, 0⟩])
  (.seq
  (.ops [0, 1, 2, 7, 8] [
    ⟨(.some 10), .mv, [(.t 0)], none, 0, 0⟩,
    ⟨(.some 11), .mv, [(.t 2)], none, 0, 0⟩,
    ⟨(.some 12), (.call 42), [(.t 10), (.t 11)], none, 0, 0⟩,
    ⟨(.some 9), .mv, [(.t 12)], none, 0, 0⟩,
    ⟨(.some 13), (.extract 0), [(.t 9)], none, 0, 0⟩,
    ⟨(.some 14), (.extract 1), [(.t 9)], none, 0, 0⟩,
    ⟨(.some 7), (.alloc ([(.int .i64 0)] ++ (List.replicate 32 (.int .u8 0)))), [], none, 0, 0⟩,
    ⟨none, (.store 33), [(.t 7), (.t 13)], none, 0, 0⟩,
    ⟨(.some 8), .mv, [(.t 14)], none, 0, 0⟩])
  (.seq
  (.seq
  (.ops [0, 1, 2, 7, 20] [
    ⟨(.some 15), .mv, [(.t 8)], none, 0, 0⟩,
    ⟨(.some 16), .mv, [(.t 15)], none, 0, 0⟩,
    ⟨(.some 17), (.fieldAddr 0), [(.t 7)], (.some (16, true)), 0, 0⟩,
    ⟨(.some 18), (.load false 1), [(.t 17)], (.some (16, true)), 0, 0⟩,
    ⟨(.some 19), (.cmp .gtr), [(.t 18), (.c (.int .i64 0))], (.some (16, true)), 0, 0⟩,
    ⟨(.some 20), .pick, [(.t 16), (.t 19), (.c (.bool false))], none, 0, 0⟩])
  (.cond (.t 20)
    (.ops [0, 1, 2] [
      ⟨(.some 21), .mv, [(.t 1)], none, 0, 0⟩,
      ⟨(.some 22), (.load true 33), [(.t 7)], none, 0, 0⟩,
      ⟨(.some 23), (.mkSl 1 ([(.int .i64 0)] ++ (List.replicate 32 (.int .u8 0))) [(0, 33)]), [(.t 22)], none, 0, 0⟩,
      ⟨(.some 24), (.append 33 40), [(.t 21), (.t 23)], none, 0, 0⟩,
      ⟨(.some 1), .mv, [(.t 24)], none, 0, 0⟩])
    .skip))
  (.seq
  (.ops [1] [
    ⟨(.some 25), .mv, [(.t 0)], none, 0, 0⟩,
    ⟨(.some 26), .mv, [(.t 2)], none, 0, 0⟩,
    ⟨(.some 27), (.build ([(.int .i64 0), (.bool false), (.int .i64 0)] ++ (List.replicate 32 (.int .u8 0))) [(0, 1), (1, 1)]), [(.t 26), (.c (.bool true))], none, 0, 0⟩,
    ⟨(.some 28), (.call 62), [(.t 25), (.t 27)], none, 0, 0⟩])
  (.seq
  (.ops [6] [
    ⟨(.some 29), .mv, [(.t 1)], none, 0, 0⟩,
    ⟨(.some 6), .mv, [(.t 29)], none, 0, 0⟩])
  .ret)))))
def r58 : List ARes := [(.tmp 6)]
theorem ok58 : FnOk Try.prog 58 c58 r58 :=
  ⟨Try.f58, _, Try.func58, by kernel_rfl, rfl, by kernel_rfl, by kernel_rfl⟩
/-- rill/rillref18.leaf -/
def c59 : ACode :=
  (.seq
  (.ops [0] [
    ⟨(.some 2), .mv, [(.c (.int .i64 0))], none, 0, 0⟩])
  (.seq
  (.ops [2] [
    ⟨(.some 3), .mv, [(.t 0)], none, 0, 0⟩,
    ⟨(.some 4), (.arith .quo), [(.t 3), (.c (.int .i64 8))], none, 0, 0⟩,
    ⟨(.some 5), (.arith .add), [(.t 4), (.c (.int .i64 1))], none, 0, 0⟩,
    ⟨(.some 2), .mv, [(.t 5)], none, 0, 0⟩])
  .ret))
def r59 : List ARes := [(.tmp 2)]
theorem ok59 : FnOk Try.prog 59 c59 r59 :=
  ⟨Try.f59, _, Try.func59, by kernel_rfl, rfl, by kernel_rfl, by kernel_rfl⟩
/-- (*rill/rillref18.Tree).there -/
def c60 : ACode :=
  (.seq
  (.ops [0, 1] [
    ⟨(.some 4), .mv, [(.c (.bool false))], none, 0, 0⟩])
  (.seq
  (.seq
  (.ops [0, 1, 5] [
    ⟨(.some 5), .mv, [(.c (.int .i64 0))], none, 0, 0⟩])
  (.block 0
    (.loop [0, 1, 5]
      (.seq
      (.seq
      (.ops [0, 1, 5, 12] [
        ⟨(.some 6), .mv, [(.t 5)], none, 0, 0⟩,
        ⟨(.some 7), .mv, [(.t 0)], none, 0, 0⟩,
        ⟨(.some 8), .nilCheck, [(.t 7)], none, 0, 0⟩,
        ⟨(.some 9), (.fieldAddr 0), [(.t 8)], none, 0, 0⟩,
        ⟨(.some 10), (.load false 1), [(.t 9)], none, 0, 0⟩,
        ⟨(.some 11), .len, [(.t 10)], none, 0, 0⟩,
        ⟨(.some 12), (.cmp .lss), [(.t 6), (.t 11)], none, 0, 0⟩])
      (.cond (.t 12)
        .skip
        (.exit 0)))
      (.seq
      (.block 1
        (.seq
        (.ops [0, 1, 5, 25] [
          ⟨(.some 15), .mv, [(.t 0)], none, 0, 0⟩,
          ⟨(.some 16), .nilCheck, [(.t 15)], none, 0, 0⟩,
          ⟨(.some 17), (.fieldAddr 0), [(.t 16)], none, 0, 0⟩,
          ⟨(.some 18), (.load false 1), [(.t 17)], none, 0, 0⟩,
          ⟨(.some 19), .mv, [(.t 5)], none, 0, 0⟩,
          ⟨(.some 20), (.idxAddr 34), [(.t 18), (.t 19)], none, 0, 0⟩,
          ⟨(.some 21), (.fieldAddr 0), [(.t 20)], none, 0, 0⟩,
          ⟨(.some 22), (.load false 1), [(.t 21)], none, 0, 0⟩,
          ⟨(.some 23), (.call 59), [(.t 22)], none, 0, 0⟩,
          ⟨(.some 24), .mv, [(.t 1)], none, 0, 0⟩,
          ⟨(.some 25), (.eq false .int), [(.t 23), (.t 24)], none, 0, 0⟩])
        (.cond (.t 25)
          (.seq
          (.ops [4] [
            ⟨(.some 4), .mv, [(.c (.bool true))], none, 0, 0⟩])
          .ret)
          .skip)))
      (.ops [0, 1, 5] [
        ⟨(.some 13), .mv, [(.t 5)], none, 0, 0⟩,
        ⟨(.some 14), (.arith .add), [(.t 13), (.c (.int .i64 1))], none, 0, 0⟩,
        ⟨(.some 5), .mv, [(.t 14)], none, 0, 0⟩]))))))
  (.seq
  (.ops [4] [
    ⟨(.some 4), .mv, [(.c (.bool false))], none, 0, 0⟩])
  .ret)))
def r60 : List ARes := [(.tmp 4)]
theorem ok60 : FnOk Try.prog 60 c60 r60 :=
  ⟨Try.f60, _, Try.func60, by kernel_rfl, rfl, by kernel_rfl, by kernel_rfl⟩
/-- (*rill/rillref18.Tree).without -/
def c61 : ACode :=
  (.seq
  (.ops [0, 1] [
    ⟨(.some 4), .mv, [(.c .nils)], none, 0, 0⟩])
  (.seq
  (.ops [0, 1, 5] [
    ⟨(.some 5), .mv, [(.c .nils)], none, 0, 0⟩])
  (.seq
  (.seq
  (.ops [0, 1, 5, 6] [
    ⟨(.some 6), .mv, [(.c (.int .i64 0))], none, 0, 0⟩])
  (.block 0
    (.loop [0, 1, 5, 6]
      (.seq
      (.seq
      (.ops [0, 1, 5, 6, 13] [
        ⟨(.some 7), .mv, [(.t 6)], none, 0, 0⟩,
        ⟨(.some 8), .mv, [(.t 0)], none, 0, 0⟩,
        ⟨(.some 9), .nilCheck, [(.t 8)], none, 0, 0⟩,
        ⟨(.some 10), (.fieldAddr 1), [(.t 9)], none, 0, 0⟩,
        ⟨(.some 11), (.load false 1), [(.t 10)], none, 0, 0⟩,
        ⟨(.some 12), .len, [(.t 11)], none, 0, 0⟩,
        ⟨(.some 13), (.cmp .lss), [(.t 7), (.t 12)], none, 0, 0⟩])
      (.cond (.t 13)
        .skip
        (.exit 0)))
      (.seq
      (.block 1
        (.seq
        (.ops [0, 1, 5, 6, 25] [
          ⟨(.some 16), .mv, [(.t 0)], none, 0, 0⟩,
          ⟨(.some 17), .nilCheck, [(.t 16)], none, 0, 0⟩,
          ⟨(.some 18), (.fieldAddr 1), [(.t 17)], none, 0, 0⟩,
          ⟨(.some 19), (.load false 1), [(.t 18)], none, 0, 0⟩,
          ⟨(.some 20), .mv, [(.t 6)], none, 0, 0⟩,
          ⟨(.some 21), (.idxAddr 35), [(.t 19), (.t 20)], none, 0, 0⟩,
          ⟨(.some 22), (.fieldAddr 0), [(.t 21)], none, 0, 0⟩,
          ⟨(.some 23), (.load false 1), [(.t 22)], none, 0, 0⟩,
          ⟨(.some 24), .mv, [(.t 1)], none, 0, 0⟩,
          ⟨(.some 25), (.eq true .int), [(.t 23), (.t 24)], none, 0, 0⟩])
        (.cond (.t 25)
          (.ops [0, 1, 5, 6] [
            ⟨(.some 26), .mv, [(.t 5)], none, 0, 0⟩,
            ⟨(.some 27), .mv, [(.t 0)], none, 0, 0⟩,
            ⟨(.some 28), .nilCheck, [(.t 27)], none, 0, 0⟩,
            ⟨(.some 29), (.fieldAddr 1), [(.t 28)], none, 0, 0⟩,
            ⟨(.some 30), (.load false 1), [(.t 29)], none, 0, 0⟩,
            ⟨(.some 31), .mv, [(.t 6)], none, 0, 0⟩,
            ⟨(.some 32), (.idxAddr 35), [(.t 30), (.t 31)], none, 0, 0⟩,
            ⟨(.some 33), (.load true 35), [(.t 32)], none, 0, 0⟩,
            ⟨(.some 34), (.mkSl 1 ([(.int .i64 0), (.bool false), (.int .i64 0)] ++ (List.replicate 32 (.int .u8 0))) [(0, 35)]), [(.t 33)], none, 0, 0⟩,
            ⟨(.some 35), (.append 35 56), [(.t 26), (.t 34)], none, 0, 0⟩,
            ⟨(.some 5), .mv, [(.t 35)], none, 0, 0⟩])
          .skip)))
      (.ops [0, 1, 5, 6] [
        ⟨(.some 14), .mv, [(.t 6)], none, 0, 0⟩,
        ⟨(.some 15), (.arith .add), [(.t 14), (.c (.int .i64 1))], none, 0, 0⟩,
        ⟨(.some 6), .mv, [(.t 15)], none, 0, 0⟩]))))))
  (.seq
  (.ops [4] [
    ⟨(.some 36), .mv, [(.t 5)], none, 0, 0⟩,
    ⟨(.some 4), .mv, [(.t 36)], none, 0, 0⟩])
  .ret))))
def r61 : List ARes := [(.tmp 4)]
theorem ok61 : FnOk Try.prog 61 c61 r61 :=
  ⟨Try.f61, _, Try.func61, by kernel_rfl, rfl, by kernel_rfl, by kernel_rfl⟩
/-- (*rill/rillref18.Tree).is -/
def c62 : ACode :=
  (.seq
  (.ops [0, 3] [
    ⟨(.some 3), .box, [(.t 1)], none, 0, 0⟩])
  (.seq
  (.ops [0, 3, 4] [
    ⟨(.some 5), .mv, [(.t 0)], none, 0, 0⟩,
    ⟨(.some 6), (.fieldAddr 0), [(.t 3)], none, 0, 0⟩,
    ⟨(.some 7), (.load false 1), [(.t 6)], none, 0, 0⟩,
    ⟨(.some 8), (.call 61), [(.t 5), (.t 7)], none, 0, 0⟩,
    ⟨(.some 4), .mv, [(.t 8)], none, 0, 0⟩])
  (.seq
  (.ops [0, 4] [
    ⟨(.some 9), .mv, [(.t 4)], none, 0, 0⟩,
    ⟨(.some 10), (.load true 35), [(.t 3)], none, 0, 0⟩,
    ⟨(.some 11), (.mkSl 1 ([(.int .i64 0), (.bool false), (.int .i64 0)] ++ (List.replicate 32 (.int .u8 0))) [(0, 35)]), [(.t 10)], none, 0, 0⟩,
    ⟨(.some 12), (.append 35 56), [(.t 9), (.t 11)], none, 0, 0⟩,
    ⟨(.some 4), .mv, [(.t 12)], none, 0, 0⟩])
  (.ops [] [
    ⟨(.some 13), .mv, [(.t 0)], none, 0, 0⟩,
    ⟨(.some 14), .mv, [(.t 4)], none, 0, 0⟩,
    ⟨(.some 15), .nilCheck, [(.t 13)], none, 0, 0⟩,
    ⟨(.some 16), (.fieldAddr 1), [(.t 15)], none, 0, 0⟩,
    ⟨none, (.store 1), [(.t 16), (.t 14)], none, 0, 0⟩]))))
def r62 : List ARes := []
theorem ok62 : FnOk Try.prog 62 c62 r62 :=
  ⟨Try.f62, _, Try.func62, by kernel_rfl, rfl, by kernel_rfl, by kernel_rfl⟩
/-- slices.ContainsFunc[[]rill/api.Ref,rill/api.Ref] -/
def c63 : ACode :=
  (.seq
  (.ops [0, 1] [
    ⟨(.some 4), .mv, [(.c (.bool false))], none, 0, 0⟩])
  (.seq
  (.ops [4] [
    ⟨(.some 5), .mv, [(.t 0)], none, 0, 0⟩,
    ⟨(.some 6), .mv, [(.t 1)], none, 0, 0⟩,
    ⟨(.some 7), (.call 65), [(.t 5), (.t 6)], none, 0, 0⟩,
    ⟨(.some 8), (.cmp .geq), [(.t 7), (.c (.int .i64 0))], none, 0, 0⟩,
    ⟨(.some 4), .mv, [(.t 8)], none, 0, 0⟩])
  .ret))
def r63 : List ARes := [(.tmp 4)]
theorem ok63 : FnOk Try.prog 63 c63 r63 :=
  ⟨Try.f63, _, Try.func63, by kernel_rfl, rfl, by kernel_rfl, by kernel_rfl⟩
/-- (*rill/tree.Tree).empty$1 -/
def c64 : ACode :=
  (.seq
  (.ops [1] [
    ⟨(.some 1), .box, [(.t 0)], none, 0, 0⟩,
    ⟨(.some 2), .mv, [(.c (.bool false))], none, 0, 0⟩])
  (.seq
  (.ops [2] [
    ⟨(.some 3), (.load true 33), [(.t 1)], none, 0, 0⟩,
    ⟨(.some 4), (.build ([(.int .i64 0)] ++ (List.replicate 32 (.int .u8 0))) []), [], none, 0, 0⟩,
    ⟨(.some 5), (.eqAgg true (List.replicate 33 .i)), [(.t 3), (.t 4)], none, 0, 0⟩,
    ⟨(.some 2), .mv, [(.t 5)], none, 0, 0⟩])
  .ret))
def r64 : List ARes := [(.tmp 2)]
theorem ok64 : FnOk Try.prog 64 c64 r64 :=
  ⟨Try.f64, _, Try.func64, by kernel_rfl, rfl, by kernel_rfl, by kernel_rfl⟩
/-- slices.IndexFunc[[]rill/api.Ref,rill/api.Ref] -/
def c65 : ACode :=
  (.seq
  (.ops [0, 1] [
    ⟨(.some 4), .mv, [(.c (.int .i64 0))], none, 0, 0⟩])
  (.seq
  (.seq
  (.ops [0, 1, 7, 8] [
    ⟨(.some 6), .mv, [(.t 0)], none, 0, 0⟩,
    ⟨(.some 7), .len, [(.t 6)], none, 0, 0⟩,
    ⟨(.some 8), .mv, [(.c (.int .i64 0))], none, 0, 0⟩])
  (.block 0
    (.loop [0, 1, 7, 8]
      (.seq
      (.ops [0, 1, 7, 8, 9] [
        ⟨(.some 9), (.cmp .lss), [(.t 8), (.t 7)], none, 0, 0⟩])
      (.seq
      (.cond (.t 9)
        .skip
        (.exit 0))
      (.seq
      (.block 1
        (.seq
        (.ops [0, 1, 5, 7, 8] [
          ⟨(.some 10), .mv, [(.t 8)], none, 0, 0⟩,
          ⟨(.some 5), .mv, [(.t 10)], none, 0, 0⟩])
        (.seq
        (.ops [0, 1, 5, 7, 8, 16] [
          ⟨(.some 11), .mv, [(.t 1)], none, 0, 0⟩,
          ⟨(.some 12), .mv, [(.t 0)], none, 0, 0⟩,
          ⟨(.some 13), .mv, [(.t 5)], none, 0, 0⟩,
          ⟨(.some 14), (.idxAddr 33), [(.t 12), (.t 13)], none, 0, 0⟩,
          ⟨(.some 15), (.load true 33), [(.t 14)], none, 0, 0⟩,
          ⟨(.some 16), .callv, [(.t 11), (.t 15)], none, 0, 0⟩])
        (.cond (.t 16)
          (.seq
          (.ops [4] [
            ⟨(.some 17), .mv, [(.t 5)], none, 0, 0⟩,
            ⟨(.some 4), .mv, [(.t 17)], none, 0, 0⟩])
          .ret)
          .skip))))
      (.ops [0, 1, 7, 8] [
        ⟨(.some 18), (.arith .add), [(.t 8), (.c (.int .i64 1))], none, 0, 0⟩,
        ⟨(.some 8), .mv, [(.t 18)], none, 0, 0⟩])))))))
  (.seq
  (.ops [4] [
    ⟨(.some 4), .mv, [(.c (.int .i64 (-1)))], none, 0, 0⟩])
  .ret)))
def r65 : List ARes := [(.tmp 4)]
theorem ok65 : FnOk Try.prog 65 c65 r65 :=
  ⟨Try.f65, _, Try.func65, by kernel_rfl, rfl, by kernel_rfl, by kernel_rfl⟩
end Go.Proofs.Ytmklcealhjmlgaa
end
section
/- Parts of the abstract code, under names of their own: if-statements, and what is behind them (printed by gencode.py). -/
namespace Go.Proofs.Ytmklcealhjmlgaa
open Go.Adm
/-- rill/rilllaw18.TreeHolds -/
def c4_2 : ACode :=
  (.seq
  (.ops [0, 3, 4, 5, 7] [
    ⟨(.some 7), .mv, [(.c (.int .i64 0))], none, 0, 0⟩])
  (.seq
  (.seq
  (.ops [0, 3, 4, 5, 7, 8] [
    ⟨(.some 8), .mv, [(.c (.int .i64 0))], none, 0, 0⟩])
  (.block 2
    (.loop [0, 3, 4, 5, 7, 8]
      (.seq
      (.seq
      (.ops [0, 3, 4, 5, 7, 8, 67] [
        ⟨(.some 66), .mv, [(.t 8)], none, 0, 0⟩,
        ⟨(.some 67), (.cmp .lss), [(.t 66), (.c (.int .i64 64))], none, 0, 0⟩])
      (.cond (.t 67)
        .skip
        (.exit 2)))
      (.seq
      (.block 3
        (.seq
        (.ops [0, 3, 4, 5, 7, 8, 9, 10] [
          ⟨(.some 71), .mv, [(.t 3)], none, 0, 0⟩,
          ⟨(.some 72), .mv, [(.t 8)], none, 0, 0⟩,
          ⟨(.some 73), (.call 14), [(.t 71), (.t 72)], none, 0, 0⟩,
          ⟨(.some 70), .mv, [(.t 73)], none, 0, 0⟩,
          ⟨(.some 74), (.extract 0), [(.t 70)], none, 0, 0⟩,
          ⟨(.some 75), (.extract 1), [(.t 70)], none, 0, 0⟩,
          ⟨(.some 9), (.alloc ([(.int .i64 0)] ++ (List.replicate 32 (.int .u8 0)))), [], none, 0, 0⟩,
          ⟨none, (.store 33), [(.t 9), (.t 74)], none, 0, 0⟩,
          ⟨(.some 10), .mv, [(.t 75)], none, 0, 0⟩])
        (.seq
        (.seq
        (.drawn [0, 3, 4, 5, 7, 8, 10, 91] [
          ⟨(.some 76), (.load true 33), [(.t 9)], none, 0, 0⟩,
          ⟨(.some 77), .mv, [(.t 4)], none, 0, 0⟩,
          ⟨(.some 78), .mv, [(.t 8)], none, 0, 0⟩,
          ⟨(.some 79), (.idxAddr 33), [(.t 77), (.t 78)], none, 0, 0⟩,
          ⟨(.some 80), (.load true 33), [(.t 79)], none, 0, 0⟩,
          ⟨(.some 81), (.eqAgg true (List.replicate 33 .i)), [(.t 76), (.t 80)], none, 0, 0⟩,
          ⟨(.some 82), .mv, [(.t 81)], none, 0, 0⟩,
          ⟨(.some 83), .mv, [(.t 10)], (.some (82, false)), 0, 0⟩,
          ⟨(.some 84), .mv, [(.t 4)], (.some (82, false)), 0, 0⟩,
          ⟨(.some 85), .mv, [(.t 8)], (.some (82, false)), 0, 0⟩,
          ⟨(.some 86), (.idxAddr 33), [(.t 84), (.t 85)], (.some (82, false)), 0, 0⟩,
          ⟨(.some 87), (.fieldAddr 0), [(.t 86)], (.some (82, false)), 0, 0⟩,
          ⟨(.some 88), (.load false 1), [(.t 87)], (.some (82, false)), 0, 0⟩,
          ⟨(.some 89), (.cmp .gtr), [(.t 88), (.c (.int .i64 0))], (.some (82, false)), 0, 0⟩,
          ⟨(.some 90), (.eq true .bool), [(.t 83), (.t 89)], (.some (82, false)), 0, 0⟩,
          ⟨(.some 91), .pick, [(.t 82), (.c (.bool true)), (.t 90)], none, 0, 0⟩])
        (.cond (.t 91)
          (.seq
          (.ops [2] [
            ⟨(.some 2), .mv, [(.c (.bool false))], none, 0, 0⟩])
          .ret)
          .skip))
        (.seq
        (.ops [0, 3, 4, 5, 7, 8, 92] [
          ⟨(.some 92), .mv, [(.t 10)], none, 0, 0⟩])
        (.cond (.t 92)
          (.ops [0, 3, 4, 5, 7, 8] [
            ⟨(.some 93), .mv, [(.t 7)], none, 0, 0⟩,
            ⟨(.some 94), (.arith .add), [(.t 93), (.c (.int .i64 1))], none, 0, 0⟩,
            ⟨(.some 7), .mv, [(.t 94)], none, 0, 0⟩])
          .skip)))))
      (.ops [0, 3, 4, 5, 7, 8] [
        ⟨(.some 68), .mv, [(.t 8)], none, 0, 0⟩,
        ⟨(.some 69), (.arith .add), [(.t 68), (.c (.int .i64 1))], none, 0, 0⟩,
        ⟨(.some 8), .mv, [(.t 69)], none, 0, 0⟩]))))))
  (.seq
  (.ops [0, 3, 4, 5, 98] [
    ⟨(.some 95), .mv, [(.t 3)], none, 0, 0⟩,
    ⟨(.some 96), (.call 15), [(.t 95)], none, 0, 0⟩,
    ⟨(.some 97), .mv, [(.t 7)], none, 0, 0⟩,
    ⟨(.some 98), (.eq true .int), [(.t 96), (.t 97)], none, 0, 0⟩])
  (.cond (.t 98)
    (.seq
    (.ops [2] [
      ⟨(.some 2), .mv, [(.c (.bool false))], none, 0, 0⟩])
    .ret)
    .skip))))
def c4_1 : ACode :=
  (.seq
  (.ops [0, 3, 4, 5, 6, 47] [
    ⟨(.some 30), (.fieldAddr 0), [(.t 6)], none, 0, 0⟩,
    ⟨(.some 31), (.load false 1), [(.t 30)], none, 0, 0⟩,
    ⟨(.some 32), (.cmp .leq), [(.t 31), (.c (.int .i64 1))], none, 0, 0⟩,
    ⟨(.some 33), .mv, [(.t 32)], none, 0, 0⟩,
    ⟨(.some 34), (.fieldAddr 0), [(.t 6)], (.some (33, true)), 0, 0⟩,
    ⟨(.some 35), (.load false 1), [(.t 34)], (.some (33, true)), 0, 0⟩,
    ⟨(.some 36), (.cmp .geq), [(.t 35), (.c (.int .i64 0))], (.some (33, true)), 0, 0⟩,
    ⟨(.some 37), .pick, [(.t 33), (.t 36), (.c (.bool false))], none, 0, 0⟩,
    ⟨(.some 38), .mv, [(.t 37)], none, 0, 0⟩,
    ⟨(.some 39), (.fieldAddr 1), [(.t 6)], (.some (38, true)), 0, 0⟩,
    ⟨(.some 40), (.load false 1), [(.t 39)], (.some (38, true)), 0, 0⟩,
    ⟨(.some 41), (.cmp .geq), [(.t 40), (.c (.int .i64 0))], (.some (38, true)), 0, 0⟩,
    ⟨(.some 42), .pick, [(.t 38), (.t 41), (.c (.bool false))], none, 0, 0⟩,
    ⟨(.some 43), .mv, [(.t 42)], none, 0, 0⟩,
    ⟨(.some 44), (.fieldAddr 1), [(.t 6)], (.some (43, true)), 0, 0⟩,
    ⟨(.some 45), (.load false 1), [(.t 44)], (.some (43, true)), 0, 0⟩,
    ⟨(.some 46), (.cmp .lss), [(.t 45), (.c (.int .i64 64))], (.some (43, true)), 0, 0⟩,
    ⟨(.some 47), .pick, [(.t 43), (.t 46), (.c (.bool false))], none, 0, 0⟩])
  (.cond (.t 47)
    (.seq
    (.ops [0, 3, 4, 5, 6, 50] [
      ⟨(.some 48), (.fieldAddr 0), [(.t 6)], none, 0, 0⟩,
      ⟨(.some 49), (.load false 1), [(.t 48)], none, 0, 0⟩,
      ⟨(.some 50), (.eq false .int), [(.t 49), (.c (.int .i64 1))], none, 0, 0⟩])
    (.cond (.t 50)
      (.ops [0, 3, 4, 5] [
        ⟨(.some 51), .mv, [(.t 4)], none, 0, 0⟩,
        ⟨(.some 52), (.fieldAddr 1), [(.t 6)], none, 0, 0⟩,
        ⟨(.some 53), (.load false 1), [(.t 52)], none, 0, 0⟩,
        ⟨(.some 54), (.build ([(.int .i64 0)] ++ (List.replicate 32 (.int .u8 0))) []), [], none, 0, 0⟩,
        ⟨(.some 55), (.idxAddr 33), [(.t 51), (.t 53)], none, 0, 0⟩,
        ⟨none, (.store 33), [(.t 55), (.t 54)], none, 0, 0⟩])
      (.seq
      (.ops [0, 3, 4, 5, 6, 59] [
        ⟨(.some 56), (.fieldAddr 2), [(.t 6)], none, 0, 0⟩,
        ⟨(.some 57), (.fieldAddr 0), [(.t 56)], none, 0, 0⟩,
        ⟨(.some 58), (.load false 1), [(.t 57)], none, 0, 0⟩,
        ⟨(.some 59), (.cmp .gtr), [(.t 58), (.c (.int .i64 0))], none, 0, 0⟩])
      (.cond (.t 59)
        (.ops [0, 3, 4, 5] [
          ⟨(.some 60), .mv, [(.t 4)], none, 0, 0⟩,
          ⟨(.some 61), (.fieldAddr 1), [(.t 6)], none, 0, 0⟩,
          ⟨(.some 62), (.load false 1), [(.t 61)], none, 0, 0⟩,
          ⟨(.some 63), (.fieldAddr 2), [(.t 6)], none, 0, 0⟩,
          ⟨(.some 64), (.load true 33), [(.t 63)], none, 0, 0⟩,
          ⟨(.some 65), (.idxAddr 33), [(.t 60), (.t 62)], none, 0, 0⟩,
          ⟨none, (.store 33), [(.t 65), (.t 64)], none, 0, 0⟩])
        .skip))))
    .skip))
theorem p4 : c4 =
  (.seq
  (.ops [0] [
    ⟨(.some 2), .mv, [(.c (.bool false))], none, 0, 0⟩])
  (.seq
  (.seq
  (.ops [0, 13] [
    ⟨(.some 11), .mv, [(.t 0)], none, 0, 0⟩,
    ⟨(.some 12), .len, [(.t 11)], none, 0, 0⟩,
    ⟨(.some 13), (.cmp .gtr), [(.t 12), (.c (.int .i64 200))], none, 0, 0⟩])
  (.cond (.t 13)
    (.seq
    (.ops [2] [
      ⟨(.some 14), (.call 9), [], none, 0, 0⟩,
      ⟨(.some 2), .mv, [(.t 14)], none, 0, 0⟩])
    .ret)
    .skip))
  (.seq
  (.ops [0, 3] [
    ⟨(.some 15), (.call 10), [], none, 0, 0⟩,
    ⟨(.some 3), .mv, [(.t 15)], none, 0, 0⟩])
  (.seq
  (.ops [0, 3, 4] [
    ⟨(.some 16), (.mkSlice ([(.int .i64 0)] ++ (List.replicate 32 (.int .u8 0))) 40), [(.c (.int .i64 64)), (.c (.int .i64 64))], none, 0, 0⟩,
    ⟨(.some 4), .mv, [(.t 16)], none, 0, 0⟩])
  (.seq
  (.seq
  (.ops [0, 3, 4, 5] [
    ⟨(.some 5), .mv, [(.c (.int .i64 0))], none, 0, 0⟩])
  (.block 0
    (.loop [0, 3, 4, 5]
      (.seq
      (.seq
      (.ops [0, 3, 4, 5, 20] [
        ⟨(.some 17), .mv, [(.t 5)], none, 0, 0⟩,
        ⟨(.some 18), .mv, [(.t 0)], none, 0, 0⟩,
        ⟨(.some 19), .len, [(.t 18)], none, 0, 0⟩,
        ⟨(.some 20), (.cmp .lss), [(.t 17), (.t 19)], none, 0, 0⟩])
      (.cond (.t 20)
        .skip
        (.exit 0)))
      (.seq
      (.block 1
        (.seq
        (.ops [0, 3, 4, 5, 6] [
          ⟨(.some 23), .mv, [(.t 0)], none, 0, 0⟩,
          ⟨(.some 24), .mv, [(.t 5)], none, 0, 0⟩,
          ⟨(.some 25), (.idxAddr 299), [(.t 23), (.t 24)], none, 0, 0⟩,
          ⟨(.some 26), (.load true 299), [(.t 25)], none, 0, 0⟩,
          ⟨(.some 6), (.alloc ([(.int .i64 0), (.int .i64 0)] ++ (rep 9 ([(.int .i64 0)] ++ (List.replicate 32 (.int .u8 0)))))), [], none, 0, 0⟩,
          ⟨none, (.store 299), [(.t 6), (.t 26)], none, 0, 0⟩])
        (.seq
        (.ops [0, 3, 4, 5, 6] [
          ⟨(.some 27), .mv, [(.t 3)], none, 0, 0⟩,
          ⟨(.some 28), (.load true 299), [(.t 6)], none, 0, 0⟩,
          ⟨(.some 29), (.call 12), [(.t 27), (.t 28)], none, 0, 0⟩])
        (.seq c4_1 c4_2))))
      (.ops [0, 3, 4, 5] [
        ⟨(.some 21), .mv, [(.t 5)], none, 0, 0⟩,
        ⟨(.some 22), (.arith .add), [(.t 21), (.c (.int .i64 1))], none, 0, 0⟩,
        ⟨(.some 5), .mv, [(.t 22)], none, 0, 0⟩]))))))
  (.seq
  (.ops [2] [
    ⟨(.some 99), (.call 9), [], none, 0, 0⟩,
    ⟨(.some 2), .mv, [(.t 99)], none, 0, 0⟩])
  .ret)))))) := by kernel_rfl
/-- rill/rilllaw18.TreeBack -/
def d6_14 : ACode :=
  (.seq
  (.block 5
    (.seq
    (.ops [5, 10, 13, 14, 15] [
      ⟨(.some 106), .mv, [(.t 5)], none, 0, 0⟩,
      ⟨(.some 107), .mv, [(.t 13)], none, 0, 0⟩,
      ⟨(.some 108), (.call 17), [(.t 106), (.t 107)], none, 0, 0⟩,
      ⟨(.some 105), .mv, [(.t 108)], none, 0, 0⟩,
      ⟨(.some 109), (.extract 0), [(.t 105)], none, 0, 0⟩,
      ⟨(.some 110), (.extract 1), [(.t 105)], none, 0, 0⟩,
      ⟨(.some 14), (.alloc ([(.int .i64 0)] ++ (List.replicate 32 (.int .u8 0)))), [], none, 0, 0⟩,
      ⟨none, (.store 33), [(.t 14), (.t 109)], none, 0, 0⟩,
      ⟨(.some 15), .mv, [(.t 110)], none, 0, 0⟩])
    (.seq
    (.drawn [5, 10, 13, 138] [
      ⟨(.some 111), .mv, [(.t 5)], none, 0, 0⟩,
      ⟨(.some 112), (.call 18), [(.t 111), (.c (.int .i64 0))], none, 0, 1⟩,
      ⟨(.some 113), (.part 0 264 true), [(.t 112)], none, 1, 1⟩,
      ⟨(.some 114), .mv, [(.t 13)], none, 0, 1⟩,
      ⟨(.some 115), (.arith .sub), [(.t 114), (.c (.int .i64 1))], none, 0, 1⟩,
      ⟨(.some 116), (.idxArr 8 33 true), [(.t 113), (.t 115)], none, 1, 1⟩,
      ⟨(.some 117), (.load true 33), [(.t 14)], none, 0, 1⟩,
      ⟨(.some 118), (.eqAgg true (List.replicate 33 .i)), [(.t 116), (.t 117)], none, 1, 1⟩,
      ⟨(.some 119), .mv, [(.t 118)], none, 1, 1⟩,
      ⟨(.some 120), .mv, [(.t 15)], (.some (119, false)), 1, 1⟩,
      ⟨(.some 121), (.fieldAddr 0), [(.t 14)], (.some (119, false)), 1, 1⟩,
      ⟨(.some 122), (.load false 1), [(.t 121)], (.some (119, false)), 1, 1⟩,
      ⟨(.some 123), (.cmp .gtr), [(.t 122), (.c (.int .i64 0))], (.some (119, false)), 1, 1⟩,
      ⟨(.some 124), (.eq true .bool), [(.t 120), (.t 123)], (.some (119, false)), 1, 1⟩,
      ⟨(.some 125), .pick, [(.t 119), (.c (.bool true)), (.t 124)], none, 1, 1⟩,
      ⟨(.some 126), .mv, [(.t 125)], none, 1, 1⟩,
      ⟨(.some 127), .mv, [(.t 15)], (.some (126, false)), 1, 1⟩,
      ⟨(.some 128), .mv, [(.t 127)], (.some (126, false)), 1, 1⟩,
      ⟨(.some 129), .mv, [(.t 10)], (.some (128, true)), 1, 2⟩,
      ⟨(.some 130), .mv, [(.t 13)], (.some (128, true)), 1, 2⟩,
      ⟨(.some 131), .mv, [(.t 5)], (.some (128, true)), 1, 1⟩,
      ⟨(.some 132), .mv, [(.t 13)], (.some (128, true)), 1, 1⟩,
      ⟨(.some 133), (.call 18), [(.t 131), (.t 132)], (.some (128, true)), 1, 2⟩,
      ⟨(.some 134), (.load true 33), [(.t 14)], (.some (128, true)), 1, 2⟩,
      ⟨(.some 135), (.call 25), [(.t 129), (.t 130), (.t 133), (.t 134)], (.some (128, true)), 2, 3⟩,
      ⟨(.some 136), (.eq true .int), [(.t 135), (.c (.int .i64 0))], (.some (128, true)), 3, 3⟩,
      ⟨(.some 137), .pick, [(.t 128), (.t 136), (.c (.bool false))], (.some (126, false)), 3, 3⟩,
      ⟨(.some 138), .pick, [(.t 126), (.c (.bool true)), (.t 137)], none, 3, 3⟩])
    (.cond (.t 138)
      (.seq
      (.ops [4] [
        ⟨(.some 4), .mv, [(.c (.bool false))], none, 0, 0⟩])
      .ret)
      .skip))))
  (.ops [5, 10, 13] [
    ⟨(.some 103), .mv, [(.t 13)], none, 0, 0⟩,
    ⟨(.some 104), (.arith .add), [(.t 103), (.c (.int .i64 1))], none, 0, 0⟩,
    ⟨(.some 13), .mv, [(.t 104)], none, 0, 0⟩]))
def d6_13 : ACode :=
  (.seq
  (.ops [5, 10, 13, 102] [
    ⟨(.some 101), .mv, [(.t 13)], none, 0, 0⟩,
    ⟨(.some 102), (.cmp .lss), [(.t 101), (.c (.int .i64 9))], none, 0, 0⟩])
  (.cond (.t 102)
    .skip
    (.exit 4)))
def d6_12 : ACode :=
  (.seq
  (.seq
  (.ops [5, 10, 13] [
    ⟨(.some 13), .mv, [(.c (.int .i64 1))], none, 0, 0⟩])
  (.block 4
    (.loop [5, 10, 13]
      (.seq d6_13 d6_14))))
  (.seq
  (.ops [4] [
    ⟨(.some 139), .mv, [(.t 10)], none, 0, 0⟩,
    ⟨(.some 140), (.call 11), [(.t 139)], none, 0, 0⟩,
    ⟨(.some 141), .mv, [(.t 5)], none, 0, 0⟩,
    ⟨(.some 142), (.call 11), [(.t 141)], none, 0, 0⟩,
    ⟨(.some 143), (.call 19), [(.t 140), (.t 142)], none, 0, 0⟩,
    ⟨(.some 144), .mv, [(.t 143)], none, 0, 0⟩,
    ⟨(.some 145), .mv, [(.t 10)], (.some (144, true)), 0, 0⟩,
    ⟨(.some 146), (.call 15), [(.t 145)], (.some (144, true)), 0, 0⟩,
    ⟨(.some 147), .mv, [(.t 5)], (.some (144, true)), 0, 0⟩,
    ⟨(.some 148), (.call 15), [(.t 147)], (.some (144, true)), 0, 0⟩,
    ⟨(.some 149), (.eq false .int), [(.t 146), (.t 148)], (.some (144, true)), 0, 0⟩,
    ⟨(.some 150), .pick, [(.t 144), (.t 149), (.c (.bool false))], none, 0, 0⟩,
    ⟨(.some 151), .mv, [(.t 150)], none, 0, 0⟩,
    ⟨(.some 152), .mv, [(.t 10)], (.some (151, true)), 0, 0⟩,
    ⟨(.some 153), (.call 21), [(.t 152)], (.some (151, true)), 0, 0⟩,
    ⟨(.some 154), .len, [(.t 153)], (.some (151, true)), 0, 0⟩,
    ⟨(.some 155), (.eq false .int), [(.t 154), (.c (.int .i64 0))], (.some (151, true)), 0, 0⟩,
    ⟨(.some 156), .pick, [(.t 151), (.t 155), (.c (.bool false))], none, 0, 0⟩,
    ⟨(.some 157), .mv, [(.t 156)], none, 0, 0⟩,
    ⟨(.some 158), (.call 9), [], (.some (157, true)), 0, 0⟩,
    ⟨(.some 159), .pick, [(.t 157), (.t 158), (.c (.bool false))], none, 0, 0⟩,
    ⟨(.some 4), .mv, [(.t 159)], none, 0, 0⟩])
  .ret))
def d6_11 : ACode :=
  (.seq
  (.drawn [5, 10, 100] [
    ⟨(.some 77), .mv, [(.t 12)], none, 0, 0⟩,
    ⟨(.some 78), .not, [(.t 77)], none, 0, 0⟩,
    ⟨(.some 79), .mv, [(.t 78)], none, 0, 0⟩,
    ⟨(.some 80), (.fieldAddr 0), [(.t 11)], (.some (79, false)), 0, 1⟩,
    ⟨(.some 81), (.load false 1), [(.t 80)], (.some (79, false)), 0, 1⟩,
    ⟨(.some 82), (.eq false .int), [(.t 81), (.c (.int .i64 0))], (.some (79, false)), 0, 1⟩,
    ⟨(.some 83), .mv, [(.t 5)], (.some (79, false)), 0, 0⟩,
    ⟨(.some 84), (.call 15), [(.t 83)], (.some (79, false)), 0, 1⟩,
    ⟨(.some 85), (.eq false .int), [(.t 84), (.c (.int .i64 0))], (.some (79, false)), 1, 1⟩,
    ⟨(.some 86), (.eq true .bool), [(.t 82), (.t 85)], (.some (79, false)), 1, 1⟩,
    ⟨(.some 87), .pick, [(.t 79), (.c (.bool true)), (.t 86)], none, 1, 1⟩,
    ⟨(.some 88), .mv, [(.t 87)], none, 1, 1⟩,
    ⟨(.some 89), (.fieldAddr 0), [(.t 11)], (.some (88, false)), 1, 1⟩,
    ⟨(.some 90), (.load false 1), [(.t 89)], (.some (88, false)), 1, 1⟩,
    ⟨(.some 91), (.cmp .gtr), [(.t 90), (.c (.int .i64 0))], (.some (88, false)), 1, 1⟩,
    ⟨(.some 92), .mv, [(.t 91)], (.some (88, false)), 1, 1⟩,
    ⟨(.some 93), .mv, [(.t 10)], (.some (92, true)), 1, 2⟩,
    ⟨(.some 94), .mv, [(.t 5)], (.some (92, true)), 1, 1⟩,
    ⟨(.some 95), (.call 18), [(.t 94), (.c (.int .i64 0))], (.some (92, true)), 1, 2⟩,
    ⟨(.some 96), (.load true 33), [(.t 11)], (.some (92, true)), 1, 2⟩,
    ⟨(.some 97), (.call 25), [(.t 93), (.c (.int .i64 0)), (.t 95), (.t 96)], (.some (92, true)), 2, 3⟩,
    ⟨(.some 98), (.eq true .int), [(.t 97), (.c (.int .i64 0))], (.some (92, true)), 3, 3⟩,
    ⟨(.some 99), .pick, [(.t 92), (.t 98), (.c (.bool false))], (.some (88, false)), 3, 3⟩,
    ⟨(.some 100), .pick, [(.t 88), (.c (.bool true)), (.t 99)], none, 3, 3⟩])
  (.cond (.t 100)
    (.seq
    (.ops [4] [
      ⟨(.some 4), .mv, [(.c (.bool false))], none, 0, 0⟩])
    .ret)
    .skip))
def d6_10 : ACode :=
  (.seq
  (.ops [5, 10] [
    ⟨(.some 71), (.call 10), [], none, 0, 0⟩,
    ⟨(.some 10), .mv, [(.t 71)], none, 0, 0⟩])
  (.seq
  (.ops [5, 10, 11, 12] [
    ⟨(.some 73), .mv, [(.t 5)], none, 0, 0⟩,
    ⟨(.some 74), (.call 17), [(.t 73), (.c (.int .i64 0))], none, 0, 0⟩,
    ⟨(.some 72), .mv, [(.t 74)], none, 0, 0⟩,
    ⟨(.some 75), (.extract 0), [(.t 72)], none, 0, 0⟩,
    ⟨(.some 76), (.extract 1), [(.t 72)], none, 0, 0⟩,
    ⟨(.some 11), (.alloc ([(.int .i64 0)] ++ (List.replicate 32 (.int .u8 0)))), [], none, 0, 0⟩,
    ⟨none, (.store 33), [(.t 11), (.t 75)], none, 0, 0⟩,
    ⟨(.some 12), .mv, [(.t 76)], none, 0, 0⟩])
  (.seq d6_11 d6_12)))
def d6_9 : ACode :=
  (.seq
  (.ops [5, 70] [
    ⟨(.some 67), .mv, [(.t 5)], none, 0, 0⟩,
    ⟨(.some 68), (.call 21), [(.t 67)], none, 0, 0⟩,
    ⟨(.some 69), .len, [(.t 68)], none, 0, 0⟩,
    ⟨(.some 70), (.eq true .int), [(.t 69), (.c (.int .i64 0))], none, 0, 0⟩])
  (.cond (.t 70)
    (.seq
    (.ops [4] [
      ⟨(.some 4), .mv, [(.c (.bool false))], none, 0, 0⟩])
    .ret)
    .skip))
def d6_8 : ACode :=
  (.seq
  (.drawn [1, 5, 7, 8, 66] [
    ⟨(.some 59), .mv, [(.t 5)], none, 0, 0⟩,
    ⟨(.some 60), .mv, [(.t 7)], none, 0, 0⟩,
    ⟨(.some 61), .mv, [(.t 8)], none, 0, 0⟩,
    ⟨(.some 62), (.idxAddr 1), [(.t 60), (.t 61)], none, 0, 0⟩,
    ⟨(.some 63), (.load false 1), [(.t 62)], none, 0, 0⟩,
    ⟨(.some 64), (.load true 33), [(.t 9)], none, 0, 0⟩,
    ⟨(.some 65), (.call 24), [(.t 59), (.t 63), (.t 64)], none, 0, 1⟩,
    ⟨(.some 66), (.eq true .int), [(.t 65), (.c (.int .i64 0))], none, 1, 1⟩])
  (.cond (.t 66)
    (.seq
    (.ops [4] [
      ⟨(.some 4), .mv, [(.c (.bool false))], none, 0, 0⟩])
    .ret)
    .skip))
def d6_7 : ACode :=
  (.seq
  (.ops [1, 5, 7, 8, 9, 57] [
    ⟨(.some 48), .mv, [(.t 7)], none, 0, 0⟩,
    ⟨(.some 49), .mv, [(.t 8)], none, 0, 0⟩,
    ⟨(.some 50), (.idxAddr 1), [(.t 48), (.t 49)], none, 0, 0⟩,
    ⟨(.some 51), (.load false 1), [(.t 50)], none, 0, 0⟩,
    ⟨(.some 52), (.eq false .int), [(.t 51), (.c (.int .i64 0))], none, 0, 0⟩,
    ⟨(.some 53), .mv, [(.t 52)], none, 0, 0⟩,
    ⟨(.some 54), .mv, [(.t 5)], (.some (53, true)), 0, 0⟩,
    ⟨(.some 55), (.call 15), [(.t 54)], (.some (53, true)), 0, 0⟩,
    ⟨(.some 56), (.eq false .int), [(.t 55), (.c (.int .i64 0))], (.some (53, true)), 0, 0⟩,
    ⟨(.some 57), .pick, [(.t 53), (.t 56), (.c (.bool false))], none, 0, 0⟩])
  (.cond (.t 57)
    (.ops [1, 5, 7, 8, 9] [
      ⟨(.some 58), (.build ([(.int .i64 0)] ++ (List.replicate 32 (.int .u8 0))) []), [], none, 0, 0⟩,
      ⟨none, (.store 33), [(.t 9), (.t 58)], none, 0, 0⟩])
    .skip))
def d6_6 : ACode :=
  (.seq
  (.block 3
    (.seq
    (.ops [1, 5, 7, 8, 9] [
      ⟨(.some 44), .mv, [(.t 1)], none, 0, 0⟩,
      ⟨(.some 45), .mv, [(.t 8)], none, 0, 0⟩,
      ⟨(.some 46), (.arith .add), [(.t 44), (.t 45)], none, 0, 0⟩,
      ⟨(.some 47), (.call 23), [(.t 46)], none, 0, 0⟩,
      ⟨(.some 9), (.alloc ([(.int .i64 0)] ++ (List.replicate 32 (.int .u8 0)))), [], none, 0, 0⟩,
      ⟨none, (.store 33), [(.t 9), (.t 47)], none, 0, 0⟩])
    (.seq d6_7 d6_8)))
  (.ops [1, 5, 7, 8] [
    ⟨(.some 42), .mv, [(.t 8)], none, 0, 0⟩,
    ⟨(.some 43), (.arith .add), [(.t 42), (.c (.int .i64 1))], none, 0, 0⟩,
    ⟨(.some 8), .mv, [(.t 43)], none, 0, 0⟩]))
def d6_5 : ACode :=
  (.seq
  (.ops [1, 5, 7, 8, 41] [
    ⟨(.some 38), .mv, [(.t 8)], none, 0, 0⟩,
    ⟨(.some 39), .mv, [(.t 7)], none, 0, 0⟩,
    ⟨(.some 40), .len, [(.t 39)], none, 0, 0⟩,
    ⟨(.some 41), (.cmp .lss), [(.t 38), (.t 40)], none, 0, 0⟩])
  (.cond (.t 41)
    .skip
    (.exit 2)))
def d6_4 : ACode :=
  (.seq
  (.block 1
    (.ops [0, 1, 5, 6] [
      ⟨(.some 27), .mv, [(.t 5)], none, 0, 0⟩,
      ⟨(.some 28), .mv, [(.t 0)], none, 0, 0⟩,
      ⟨(.some 29), .mv, [(.t 6)], none, 0, 0⟩,
      ⟨(.some 30), (.idxAddr 299), [(.t 28), (.t 29)], none, 0, 0⟩,
      ⟨(.some 31), (.load true 299), [(.t 30)], none, 0, 0⟩,
      ⟨(.some 32), (.call 12), [(.t 27), (.t 31)], none, 0, 0⟩]))
  (.ops [0, 1, 5, 6] [
    ⟨(.some 25), .mv, [(.t 6)], none, 0, 0⟩,
    ⟨(.some 26), (.arith .add), [(.t 25), (.c (.int .i64 1))], none, 0, 0⟩,
    ⟨(.some 6), .mv, [(.t 26)], none, 0, 0⟩]))
def d6_3 : ACode :=
  (.seq
  (.ops [0, 1, 5, 6, 24] [
    ⟨(.some 21), .mv, [(.t 6)], none, 0, 0⟩,
    ⟨(.some 22), .mv, [(.t 0)], none, 0, 0⟩,
    ⟨(.some 23), .len, [(.t 22)], none, 0, 0⟩,
    ⟨(.some 24), (.cmp .lss), [(.t 21), (.t 23)], none, 0, 0⟩])
  (.cond (.t 24)
    .skip
    (.exit 0)))
def d6_2 : ACode :=
  (.seq
  (.ops [0, 1, 5] [
    ⟨(.some 20), (.call 10), [], none, 0, 0⟩,
    ⟨(.some 5), .mv, [(.t 20)], none, 0, 0⟩])
  (.seq
  (.seq
  (.ops [0, 1, 5, 6] [
    ⟨(.some 6), .mv, [(.c (.int .i64 0))], none, 0, 0⟩])
  (.block 0
    (.loop [0, 1, 5, 6]
      (.seq d6_3 d6_4))))
  (.seq
  (.ops [1, 5] [
    ⟨(.some 33), .mv, [(.t 1)], none, 0, 0⟩,
    ⟨(.some 34), (.call 22), [(.t 33), (.c (.int .i64 1073741824))], none, 0, 0⟩,
    ⟨(.some 35), (.arith .add), [(.c (.int .i64 1)), (.t 34)], none, 0, 0⟩,
    ⟨(.some 1), .mv, [(.t 35)], none, 0, 0⟩])
  (.seq
  (.ops [1, 5, 7] [
    ⟨(.some 36), .mv, [(.t 5)], none, 0, 0⟩,
    ⟨(.some 37), (.call 21), [(.t 36)], none, 0, 0⟩,
    ⟨(.some 7), .mv, [(.t 37)], none, 0, 0⟩])
  (.seq
  (.seq
  (.ops [1, 5, 7, 8] [
    ⟨(.some 8), .mv, [(.c (.int .i64 0))], none, 0, 0⟩])
  (.block 2
    (.loop [1, 5, 7, 8]
      (.seq d6_5 d6_6))))
  (.seq d6_9 d6_10))))))
def d6_1 : ACode :=
  (.seq
  (.ops [0, 1, 18] [
    ⟨(.some 16), .mv, [(.t 0)], none, 0, 0⟩,
    ⟨(.some 17), .len, [(.t 16)], none, 0, 0⟩,
    ⟨(.some 18), (.cmp .gtr), [(.t 17), (.c (.int .i64 200))], none, 0, 0⟩])
  (.cond (.t 18)
    (.seq
    (.ops [4] [
      ⟨(.some 19), (.call 9), [], none, 0, 0⟩,
      ⟨(.some 4), .mv, [(.t 19)], none, 0, 0⟩])
    .ret)
    .skip))
theorem q6 : c6 =
  (.seq
  (.ops [0, 1] [
    ⟨(.some 4), .mv, [(.c (.bool false))], none, 0, 0⟩])
  (.seq d6_1 d6_2)) := by kernel_rfl
/-- rill/rilllaw18.TreeKnown -/
def d8_4 : ACode :=
  (.seq
  (.block 3
    (.seq
    (.ops [1, 2, 3, 4] [
      ⟨(.some 19), (.build (rep 8 ([(.int .i64 0)] ++ (List.replicate 32 (.int .u8 0)))) []), [], none, 0, 0⟩,
      ⟨(.some 4), (.alloc (rep 8 ([(.int .i64 0)] ++ (List.replicate 32 (.int .u8 0))))), [], none, 0, 0⟩,
      ⟨none, (.store 264), [(.t 4), (.t 19)], none, 0, 0⟩])
    (.seq
    (.drawn [1, 2, 3, 4] [
      ⟨(.some 20), .mv, [(.t 3)], none, 0, 0⟩,
      ⟨(.some 21), (.call 22), [(.t 20), (.c (.int .i64 8))], none, 0, 1⟩,
      ⟨(.some 22), .mv, [(.t 1)], none, 0, 1⟩,
      ⟨(.some 23), .mv, [(.t 2)], none, 0, 1⟩,
      ⟨(.some 24), (.idxAddr 1), [(.t 22), (.t 23)], none, 0, 1⟩,
      ⟨(.some 25), (.load false 1), [(.t 24)], none, 0, 1⟩,
      ⟨(.some 26), (.call 23), [(.t 25)], none, 1, 2⟩,
      ⟨(.some 27), (.fieldAddr 0), [(.t 4)], none, 0, 2⟩,
      ⟨(.some 28), (.idxAddrArr 8 33), [(.t 27), (.t 21)], none, 2, 2⟩,
      ⟨none, (.store 33), [(.t 28), (.t 26)], none, 2, 3⟩])
    (.seq
    (.drawn [1, 2, 3, 5] [
      ⟨(.some 29), (.call 23), [(.c (.int .i64 7))], none, 0, 1⟩,
      ⟨(.some 30), (.build ([(.int .i64 0), (.int .i64 0)] ++ (rep 9 ([(.int .i64 0)] ++ (List.replicate 32 (.int .u8 0))))) [(1, 1), (2, 33)]), [(.c (.int .i64 9)), (.t 29)], none, 1, 11⟩,
      ⟨(.some 31), .mv, [(.t 1)], none, 0, 11⟩,
      ⟨(.some 32), .mv, [(.t 2)], none, 0, 11⟩,
      ⟨(.some 33), (.idxAddr 1), [(.t 31), (.t 32)], none, 0, 11⟩,
      ⟨(.some 34), (.load false 1), [(.t 33)], none, 0, 11⟩,
      ⟨(.some 35), .mv, [(.t 1)], none, 0, 1⟩,
      ⟨(.some 36), .mv, [(.t 3)], none, 0, 1⟩,
      ⟨(.some 37), (.idxAddr 1), [(.t 35), (.t 36)], none, 0, 1⟩,
      ⟨(.some 38), (.load false 1), [(.t 37)], none, 0, 1⟩,
      ⟨(.some 39), (.call 23), [(.t 38)], none, 1, 2⟩,
      ⟨(.some 40), (.build ([(.int .i64 0), (.int .i64 0)] ++ (rep 9 ([(.int .i64 0)] ++ (List.replicate 32 (.int .u8 0))))) [(0, 1), (1, 1), (2, 33)]), [(.c (.int .i64 3)), (.t 34), (.t 39)], none, 2, 11⟩,
      ⟨(.some 41), (.call 23), [(.c (.int .i64 8))], none, 2, 3⟩,
      ⟨(.some 42), (.build ([(.int .i64 0), (.int .i64 0)] ++ (rep 9 ([(.int .i64 0)] ++ (List.replicate 32 (.int .u8 0))))) [(0, 1), (1, 1), (2, 33)]), [(.c (.int .i64 3)), (.c (.int .i64 2)), (.t 41)], none, 3, 11⟩,
      ⟨(.some 43), .mv, [(.t 1)], none, 0, 3⟩,
      ⟨(.some 44), .mv, [(.t 3)], none, 0, 3⟩,
      ⟨(.some 45), (.idxAddr 1), [(.t 43), (.t 44)], none, 0, 3⟩,
      ⟨(.some 46), (.load false 1), [(.t 45)], none, 0, 3⟩,
      ⟨(.some 47), (.call 23), [(.t 46)], none, 3, 4⟩,
      ⟨(.some 48), (.build ([(.int .i64 0), (.int .i64 0)] ++ (rep 9 ([(.int .i64 0)] ++ (List.replicate 32 (.int .u8 0))))) [(0, 1), (1, 1), (2, 33)]), [(.c (.int .i64 3)), (.c (.int .i64 0)), (.t 47)], none, 4, 11⟩,
      ⟨(.some 49), (.call 23), [(.c (.int .i64 9))], none, 4, 5⟩,
      ⟨(.some 50), (.build ([(.int .i64 0), (.int .i64 0)] ++ (rep 9 ([(.int .i64 0)] ++ (List.replicate 32 (.int .u8 0))))) [(0, 1), (1, 1), (2, 33)]), [(.c (.int .i64 3)), (.c (.int .i64 0)), (.t 49)], none, 5, 11⟩,
      ⟨(.some 51), .mv, [(.t 1)], none, 0, 11⟩,
      ⟨(.some 52), .mv, [(.t 2)], none, 0, 11⟩,
      ⟨(.some 53), (.idxAddr 1), [(.t 51), (.t 52)], none, 0, 11⟩,
      ⟨(.some 54), (.load false 1), [(.t 53)], none, 0, 11⟩,
      ⟨(.some 55), .mv, [(.t 1)], none, 0, 5⟩,
      ⟨(.some 56), .mv, [(.t 3)], none, 0, 5⟩,
      ⟨(.some 57), (.idxAddr 1), [(.t 55), (.t 56)], none, 0, 5⟩,
      ⟨(.some 58), (.load false 1), [(.t 57)], none, 0, 5⟩,
      ⟨(.some 59), (.call 23), [(.t 58)], none, 5, 6⟩,
      ⟨(.some 60), (.build ([(.int .i64 0), (.int .i64 0)] ++ (rep 9 ([(.int .i64 0)] ++ (List.replicate 32 (.int .u8 0))))) [(1, 1), (2, 33)]), [(.t 54), (.t 59)], none, 6, 11⟩,
      ⟨(.some 61), .mv, [(.t 1)], none, 0, 11⟩,
      ⟨(.some 62), .mv, [(.t 3)], none, 0, 11⟩,
      ⟨(.some 63), (.idxAddr 1), [(.t 61), (.t 62)], none, 0, 11⟩,
      ⟨(.some 64), (.load false 1), [(.t 63)], none, 0, 11⟩,
      ⟨(.some 65), (.build ([(.int .i64 0), (.int .i64 0)] ++ (rep 9 ([(.int .i64 0)] ++ (List.replicate 32 (.int .u8 0))))) [(0, 1), (1, 1)]), [(.c (.int .i64 2)), (.t 64)], none, 0, 11⟩,
      ⟨(.some 66), .mv, [(.t 1)], none, 0, 11⟩,
      ⟨(.some 67), .mv, [(.t 2)], none, 0, 11⟩,
      ⟨(.some 68), (.idxAddr 1), [(.t 66), (.t 67)], none, 0, 11⟩,
      ⟨(.some 69), (.load false 1), [(.t 68)], none, 0, 11⟩,
      ⟨(.some 70), (.build ([(.int .i64 0), (.int .i64 0)] ++ (rep 9 ([(.int .i64 0)] ++ (List.replicate 32 (.int .u8 0))))) [(0, 1), (1, 1)]), [(.c (.int .i64 1)), (.t 69)], none, 0, 11⟩,
      ⟨(.some 71), .mv, [(.t 1)], none, 0, 11⟩,
      ⟨(.some 72), .mv, [(.t 2)], none, 0, 11⟩,
      ⟨(.some 73), (.idxAddr 1), [(.t 71), (.t 72)], none, 0, 11⟩,
      ⟨(.some 74), (.load false 1), [(.t 73)], none, 0, 11⟩,
      ⟨(.some 75), (.load true 264), [(.t 4)], none, 0, 11⟩,
      ⟨(.some 76), .mv, [(.t 1)], none, 0, 6⟩,
      ⟨(.some 77), .mv, [(.t 3)], none, 0, 6⟩,
      ⟨(.some 78), (.idxAddr 1), [(.t 76), (.t 77)], none, 0, 6⟩,
      ⟨(.some 79), (.load false 1), [(.t 78)], none, 0, 6⟩,
      ⟨(.some 80), (.call 23), [(.t 79)], none, 6, 7⟩,
      ⟨(.some 81), (.build ([(.int .i64 0), (.int .i64 0)] ++ (rep 9 ([(.int .i64 0)] ++ (List.replicate 32 (.int .u8 0))))) [(0, 1), (1, 1), (35, 264), (2, 33)]), [(.c (.int .i64 4)), (.t 74), (.t 75), (.t 80)], none, 7, 11⟩,
      ⟨(.some 82), (.call 23), [(.c (.int .i64 11))], none, 7, 8⟩,
      ⟨(.some 83), (.build ([(.int .i64 0), (.int .i64 0)] ++ (rep 9 ([(.int .i64 0)] ++ (List.replicate 32 (.int .u8 0))))) [(1, 1), (2, 33)]), [(.c (.int .i64 10)), (.t 82)], none, 8, 11⟩,
      ⟨(.some 84), (.build ([(.int .i64 0), (.int .i64 0)] ++ (rep 9 ([(.int .i64 0)] ++ (List.replicate 32 (.int .u8 0))))) [(0, 1), (1, 1)]), [(.c (.int .i64 1)), (.c (.int .i64 9))], none, 0, 11⟩,
      ⟨(.some 85), (.build ([(.int .i64 0), (.int .i64 0)] ++ (rep 9 ([(.int .i64 0)] ++ (List.replicate 32 (.int .u8 0))))) [(0, 1), (1, 1)]), [(.c (.int .i64 1)), (.c (.int .i64 10))], none, 0, 11⟩,
      ⟨(.some 86), (.call 23), [(.c (.int .i64 5))], none, 8, 9⟩,
      ⟨(.some 87), (.build ([(.int .i64 0), (.int .i64 0)] ++ (rep 9 ([(.int .i64 0)] ++ (List.replicate 32 (.int .u8 0))))) [(0, 1), (1, 1), (2, 33)]), [(.c (.int .i64 3)), (.c (.int .i64 0)), (.t 86)], none, 9, 11⟩,
      ⟨(.some 88), (.build ([(.int .i64 0), (.int .i64 0)] ++ (rep 9 ([(.int .i64 0)] ++ (List.replicate 32 (.int .u8 0))))) [(0, 1), (1, 1)]), [(.c (.int .i64 3)), (.c (.int .i64 0))], none, 0, 11⟩,
      ⟨(.some 89), (.build ([(.int .i64 0), (.int .i64 0)] ++ (rep 9 ([(.int .i64 0)] ++ (List.replicate 32 (.int .u8 0))))) [(0, 1)]), [(.c (.int .i64 9))], none, 0, 11⟩,
      ⟨(.some 90), .mv, [(.t 1)], none, 0, 11⟩,
      ⟨(.some 91), .mv, [(.t 3)], none, 0, 11⟩,
      ⟨(.some 92), (.idxAddr 1), [(.t 90), (.t 91)], none, 0, 11⟩,
      ⟨(.some 93), (.load false 1), [(.t 92)], none, 0, 11⟩,
      ⟨(.some 94), (.load true 264), [(.t 4)], none, 0, 11⟩,
      ⟨(.some 95), (.call 23), [(.c (.int .i64 3))], none, 9, 10⟩,
      ⟨(.some 96), (.build ([(.int .i64 0), (.int .i64 0)] ++ (rep 9 ([(.int .i64 0)] ++ (List.replicate 32 (.int .u8 0))))) [(0, 1), (1, 1), (35, 264), (2, 33)]), [(.c (.int .i64 4)), (.t 93), (.t 94), (.t 95)], none, 10, 11⟩,
      ⟨(.some 97), (.call 23), [(.c (.int .i64 4))], none, 10, 11⟩,
      ⟨(.some 98), (.build ([(.int .i64 0), (.int .i64 0)] ++ (rep 9 ([(.int .i64 0)] ++ (List.replicate 32 (.int .u8 0))))) [(0, 1), (1, 1), (2, 33)]), [(.c (.int .i64 4)), (.c (.int .i64 0)), (.t 97)], none, 11, 11⟩,
      ⟨(.some 99), (.mkSl 17 (rep 17 ([(.int .i64 0), (.int .i64 0)] ++ (rep 9 ([(.int .i64 0)] ++ (List.replicate 32 (.int .u8 0)))))) [(0, 299), (299, 299), (598, 299), (897, 299), (1196, 299), (1495, 299), (1794, 299), (2093, 299), (2392, 299), (2691, 299), (2990, 299), (3289, 299), (3588, 299), (3887, 299), (4186, 299), (4485, 299), (4784, 299)]), [(.t 30), (.t 40), (.t 42), (.t 48), (.t 50), (.t 60), (.t 65), (.t 70), (.t 81), (.t 83), (.t 84), (.t 85), (.t 87), (.t 88), (.t 89), (.t 96), (.t 98)], none, 11, 11⟩,
      ⟨(.some 5), .mv, [(.t 99)], none, 11, 11⟩])
    (.seq
    (.ops [1, 2, 3, 131] [
      ⟨(.some 100), .mv, [(.t 5)], none, 0, 0⟩,
      ⟨(.some 101), (.call 7), [(.t 100)], none, 0, 0⟩,
      ⟨(.some 102), .not, [(.t 101)], none, 0, 0⟩,
      ⟨(.some 103), .mv, [(.t 102)], none, 0, 0⟩,
      ⟨(.some 104), .mv, [(.t 5)], (.some (103, false)), 0, 0⟩,
      ⟨(.some 105), (.call 3), [(.t 104)], (.some (103, false)), 0, 0⟩,
      ⟨(.some 106), .not, [(.t 105)], (.some (103, false)), 0, 0⟩,
      ⟨(.some 107), .pick, [(.t 103), (.c (.bool true)), (.t 106)], none, 0, 0⟩,
      ⟨(.some 108), .mv, [(.t 107)], none, 0, 0⟩,
      ⟨(.some 109), .mv, [(.t 5)], (.some (108, false)), 0, 0⟩,
      ⟨(.some 110), (.call 4), [(.t 109)], (.some (108, false)), 0, 0⟩,
      ⟨(.some 111), .not, [(.t 110)], (.some (108, false)), 0, 0⟩,
      ⟨(.some 112), .pick, [(.t 108), (.c (.bool true)), (.t 111)], none, 0, 0⟩,
      ⟨(.some 113), .mv, [(.t 112)], none, 0, 0⟩,
      ⟨(.some 114), .mv, [(.t 5)], (.some (113, false)), 0, 0⟩,
      ⟨(.some 115), .mv, [(.t 1)], (.some (113, false)), 0, 0⟩,
      ⟨(.some 116), .mv, [(.t 3)], (.some (113, false)), 0, 0⟩,
      ⟨(.some 117), (.idxAddr 1), [(.t 115), (.t 116)], (.some (113, false)), 0, 0⟩,
      ⟨(.some 118), (.load false 1), [(.t 117)], (.some (113, false)), 0, 0⟩,
      ⟨(.some 119), (.call 6), [(.t 114), (.t 118)], (.some (113, false)), 0, 0⟩,
      ⟨(.some 120), .not, [(.t 119)], (.some (113, false)), 0, 0⟩,
      ⟨(.some 121), .pick, [(.t 113), (.c (.bool true)), (.t 120)], none, 0, 0⟩,
      ⟨(.some 122), .mv, [(.t 121)], none, 0, 0⟩,
      ⟨(.some 123), .mv, [(.t 5)], (.some (122, false)), 0, 0⟩,
      ⟨(.some 124), .mv, [(.t 2)], (.some (122, false)), 0, 0⟩,
      ⟨(.some 125), .mv, [(.t 5)], (.some (122, false)), 0, 0⟩,
      ⟨(.some 126), .len, [(.t 125)], (.some (122, false)), 0, 0⟩,
      ⟨(.some 127), (.call 22), [(.t 124), (.t 126)], (.some (122, false)), 0, 0⟩,
      ⟨(.some 128), (.slice 299 false true false), [(.t 123), (.t 127)], (.some (122, false)), 0, 0⟩,
      ⟨(.some 129), (.call 6), [(.t 128), (.c (.int .i64 3))], (.some (122, false)), 0, 0⟩,
      ⟨(.some 130), .not, [(.t 129)], (.some (122, false)), 0, 0⟩,
      ⟨(.some 131), .pick, [(.t 122), (.c (.bool true)), (.t 130)], none, 0, 0⟩])
    (.cond (.t 131)
      (.seq
      (.ops [0] [
        ⟨(.some 0), .mv, [(.c (.bool false))], none, 0, 0⟩])
      .ret)
      .skip))))))
  (.ops [1, 2, 3] [
    ⟨(.some 17), .mv, [(.t 3)], none, 0, 0⟩,
    ⟨(.some 18), (.arith .add), [(.t 17), (.c (.int .i64 1))], none, 0, 0⟩,
    ⟨(.some 3), .mv, [(.t 18)], none, 0, 0⟩]))
def d8_3 : ACode :=
  (.seq
  (.ops [1, 2, 3, 16] [
    ⟨(.some 13), .mv, [(.t 3)], none, 0, 0⟩,
    ⟨(.some 14), .mv, [(.t 1)], none, 0, 0⟩,
    ⟨(.some 15), .len, [(.t 14)], none, 0, 0⟩,
    ⟨(.some 16), (.cmp .lss), [(.t 13), (.t 15)], none, 0, 0⟩])
  (.cond (.t 16)
    .skip
    (.exit 2)))
def d8_2 : ACode :=
  (.seq
  (.block 1
    (.seq
    (.ops [1, 2, 3] [
      ⟨(.some 3), .mv, [(.c (.int .i64 0))], none, 0, 0⟩])
    (.block 2
      (.loop [1, 2, 3]
        (.seq d8_3 d8_4)))))
  (.ops [1, 2] [
    ⟨(.some 11), .mv, [(.t 2)], none, 0, 0⟩,
    ⟨(.some 12), (.arith .add), [(.t 11), (.c (.int .i64 1))], none, 0, 0⟩,
    ⟨(.some 2), .mv, [(.t 12)], none, 0, 0⟩]))
def d8_1 : ACode :=
  (.seq
  (.ops [1, 2, 10] [
    ⟨(.some 7), .mv, [(.t 2)], none, 0, 0⟩,
    ⟨(.some 8), .mv, [(.t 1)], none, 0, 0⟩,
    ⟨(.some 9), .len, [(.t 8)], none, 0, 0⟩,
    ⟨(.some 10), (.cmp .lss), [(.t 7), (.t 9)], none, 0, 0⟩])
  (.cond (.t 10)
    .skip
    (.exit 0)))
theorem q8 : c8 =
  (.seq
  (.ops [] [
    ⟨(.some 0), .mv, [(.c (.bool false))], none, 0, 0⟩])
  (.seq
  (.ops [1] [
    ⟨(.some 6), (.mkSl 12 (List.replicate 12 (.int .i64 0)) [(0, 1), (1, 1), (2, 1), (3, 1), (4, 1), (5, 1), (6, 1), (7, 1), (8, 1), (9, 1), (10, 1), (11, 1)]), [(.c (.int .i64 (-9223372036854775808))), (.c (.int .i64 (-1))), (.c (.int .i64 0)), (.c (.int .i64 1)), (.c (.int .i64 2)), (.c (.int .i64 7)), (.c (.int .i64 8)), (.c (.int .i64 9)), (.c (.int .i64 10)), (.c (.int .i64 63)), (.c (.int .i64 64)), (.c (.int .i64 9223372036854775807))], none, 0, 0⟩,
    ⟨(.some 1), .mv, [(.t 6)], none, 0, 0⟩])
  (.seq
  (.seq
  (.ops [1, 2] [
    ⟨(.some 2), .mv, [(.c (.int .i64 0))], none, 0, 0⟩])
  (.block 0
    (.loop [1, 2]
      (.seq d8_1 d8_2))))
  (.seq
  (.ops [0] [
    ⟨(.some 132), (.call 9), [], none, 0, 0⟩,
    ⟨(.some 0), .mv, [(.t 132)], none, 0, 0⟩])
  .ret)))) := by kernel_rfl
/-- rill/rilllaw18.both -/
def e28_2 : ACode :=
  (.seq
  (.ops [7, 9] [
    ⟨(.some 80), .mv, [(.t 7)], none, 0, 0⟩,
    ⟨(.some 81), .mv, [(.t 8)], none, 0, 0⟩,
    ⟨(.some 82), (.call 19), [(.t 80), (.t 81)], none, 0, 0⟩,
    ⟨(.some 9), .mv, [(.t 82)], none, 0, 0⟩])
  (.seq
  (.ops [9] [
    ⟨(.some 83), .mv, [(.t 7)], none, 0, 0⟩,
    ⟨(.some 84), (.call 40), [(.t 83)], none, 0, 0⟩])
  (.seq
  (.ops [6] [
    ⟨(.some 85), .mv, [(.t 9)], none, 0, 0⟩,
    ⟨(.some 6), .mv, [(.t 85)], none, 0, 0⟩])
  .ret)))
def e28_1 : ACode :=
  (.seq
  (.ops [0, 1, 5, 7, 8, 11] [
    ⟨(.some 10), (.fieldAddr 0), [(.t 5)], none, 0, 0⟩,
    ⟨(.some 11), (.load false 1), [(.t 10)], none, 0, 0⟩])
  (.block 0
    (.seq
    (.ops [0, 1, 5, 7, 8, 11, 12] [
      ⟨(.some 13), (.eq false .int), [(.t 11), (.c (.int .i64 0))], none, 0, 0⟩,
      ⟨(.some 12), .mv, [(.t 13)], none, 0, 0⟩])
    (.cond (.t 12)
      (.seq
      (.ops [1, 5, 7] [
        ⟨(.some 14), .mv, [(.t 0)], none, 0, 0⟩,
        ⟨(.some 15), (.fieldAddr 1), [(.t 5)], none, 0, 0⟩,
        ⟨(.some 16), (.load false 1), [(.t 15)], none, 0, 0⟩,
        ⟨(.some 17), (.fieldAddr 2), [(.t 5)], none, 0, 0⟩,
        ⟨(.some 18), (.load true 33), [(.t 17)], none, 0, 0⟩,
        ⟨(.some 19), (.call 29), [(.t 14), (.t 16), (.t 18)], none, 0, 0⟩,
        ⟨(.some 7), .mv, [(.t 19)], none, 0, 0⟩])
      (.ops [7, 8] [
        ⟨(.some 20), .mv, [(.t 1)], none, 0, 0⟩,
        ⟨(.some 21), (.fieldAddr 1), [(.t 5)], none, 0, 0⟩,
        ⟨(.some 22), (.load false 1), [(.t 21)], none, 0, 0⟩,
        ⟨(.some 23), (.fieldAddr 2), [(.t 5)], none, 0, 0⟩,
        ⟨(.some 24), (.load true 33), [(.t 23)], none, 0, 0⟩,
        ⟨(.some 25), (.call 45), [(.t 20), (.t 22), (.t 24)], none, 0, 0⟩,
        ⟨(.some 8), .mv, [(.t 25)], none, 0, 0⟩]))
      (.seq
      (.ops [0, 1, 5, 7, 8, 11, 26] [
        ⟨(.some 27), (.eq false .int), [(.t 11), (.c (.int .i64 1))], none, 0, 0⟩,
        ⟨(.some 26), .mv, [(.t 27)], none, 0, 0⟩])
      (.cond (.t 26)
        (.seq
        (.ops [1, 5, 7] [
          ⟨(.some 28), .mv, [(.t 0)], none, 0, 0⟩,
          ⟨(.some 29), (.fieldAddr 1), [(.t 5)], none, 0, 0⟩,
          ⟨(.some 30), (.load false 1), [(.t 29)], none, 0, 0⟩,
          ⟨(.some 31), (.call 30), [(.t 28), (.t 30)], none, 0, 0⟩,
          ⟨(.some 7), .mv, [(.t 31)], none, 0, 0⟩])
        (.ops [7, 8] [
          ⟨(.some 32), .mv, [(.t 1)], none, 0, 0⟩,
          ⟨(.some 33), (.fieldAddr 1), [(.t 5)], none, 0, 0⟩,
          ⟨(.some 34), (.load false 1), [(.t 33)], none, 0, 0⟩,
          ⟨(.some 35), (.call 46), [(.t 32), (.t 34)], none, 0, 0⟩,
          ⟨(.some 8), .mv, [(.t 35)], none, 0, 0⟩]))
        (.seq
        (.ops [0, 1, 5, 7, 8, 11, 36] [
          ⟨(.some 37), (.eq false .int), [(.t 11), (.c (.int .i64 2))], none, 0, 0⟩,
          ⟨(.some 36), .mv, [(.t 37)], none, 0, 0⟩])
        (.cond (.t 36)
          (.seq
          (.ops [1, 5, 7] [
            ⟨(.some 38), .mv, [(.t 0)], none, 0, 0⟩,
            ⟨(.some 39), (.fieldAddr 1), [(.t 5)], none, 0, 0⟩,
            ⟨(.some 40), (.load false 1), [(.t 39)], none, 0, 0⟩,
            ⟨(.some 41), (.call 31), [(.t 38), (.t 40)], none, 0, 0⟩,
            ⟨(.some 7), .mv, [(.t 41)], none, 0, 0⟩])
          (.ops [7, 8] [
            ⟨(.some 42), .mv, [(.t 1)], none, 0, 0⟩,
            ⟨(.some 43), (.fieldAddr 1), [(.t 5)], none, 0, 0⟩,
            ⟨(.some 44), (.load false 1), [(.t 43)], none, 0, 0⟩,
            ⟨(.some 45), (.call 47), [(.t 42), (.t 44)], none, 0, 0⟩,
            ⟨(.some 8), .mv, [(.t 45)], none, 0, 0⟩]))
          (.seq
          (.ops [0, 1, 5, 7, 8, 11, 46] [
            ⟨(.some 47), (.eq false .int), [(.t 11), (.c (.int .i64 3))], none, 0, 0⟩,
            ⟨(.some 46), .mv, [(.t 47)], none, 0, 0⟩])
          (.cond (.t 46)
            (.seq
            (.drawn [6] [
              ⟨(.some 48), .mv, [(.t 0)], none, 0, 0⟩,
              ⟨(.some 49), (.fieldAddr 1), [(.t 5)], none, 0, 0⟩,
              ⟨(.some 50), (.load false 1), [(.t 49)], none, 0, 0⟩,
              ⟨(.some 51), (.fieldAddr 2), [(.t 5)], none, 0, 0⟩,
              ⟨(.some 52), (.load true 33), [(.t 51)], none, 0, 0⟩,
              ⟨(.some 53), (.call 24), [(.t 48), (.t 50), (.t 52)], none, 0, 1⟩,
              ⟨(.some 54), .mv, [(.t 1)], none, 0, 1⟩,
              ⟨(.some 55), (.fieldAddr 1), [(.t 5)], none, 0, 1⟩,
              ⟨(.some 56), (.load false 1), [(.t 55)], none, 0, 1⟩,
              ⟨(.some 57), (.fieldAddr 2), [(.t 5)], none, 0, 1⟩,
              ⟨(.some 58), (.load true 33), [(.t 57)], none, 0, 1⟩,
              ⟨(.some 59), (.call 48), [(.t 54), (.t 56), (.t 58)], none, 1, 2⟩,
              ⟨(.some 60), (.eq false .int), [(.t 53), (.t 59)], none, 2, 2⟩,
              ⟨(.some 6), .mv, [(.t 60)], none, 2, 2⟩])
            .ret)
            (.seq
            (.ops [0, 1, 5, 7, 8, 61] [
              ⟨(.some 62), (.eq false .int), [(.t 11), (.c (.int .i64 4))], none, 0, 0⟩,
              ⟨(.some 61), .mv, [(.t 62)], none, 0, 0⟩])
            (.cond (.t 61)
              (.seq
              (.drawn [6] [
                ⟨(.some 63), .mv, [(.t 0)], none, 0, 0⟩,
                ⟨(.some 64), (.fieldAddr 1), [(.t 5)], none, 0, 0⟩,
                ⟨(.some 65), (.load false 1), [(.t 64)], none, 0, 0⟩,
                ⟨(.some 66), (.fieldAddr 35), [(.t 5)], none, 0, 0⟩,
                ⟨(.some 67), (.load true 264), [(.t 66)], none, 0, 0⟩,
                ⟨(.some 68), (.fieldAddr 2), [(.t 5)], none, 0, 0⟩,
                ⟨(.some 69), (.load true 33), [(.t 68)], none, 0, 0⟩,
                ⟨(.some 70), (.call 25), [(.t 63), (.t 65), (.t 67), (.t 69)], none, 0, 1⟩,
                ⟨(.some 71), .mv, [(.t 1)], none, 0, 1⟩,
                ⟨(.some 72), (.fieldAddr 1), [(.t 5)], none, 0, 1⟩,
                ⟨(.some 73), (.load false 1), [(.t 72)], none, 0, 1⟩,
                ⟨(.some 74), (.fieldAddr 35), [(.t 5)], none, 0, 1⟩,
                ⟨(.some 75), (.load true 264), [(.t 74)], none, 0, 1⟩,
                ⟨(.some 76), (.fieldAddr 2), [(.t 5)], none, 0, 1⟩,
                ⟨(.some 77), (.load true 33), [(.t 76)], none, 0, 1⟩,
                ⟨(.some 78), (.call 49), [(.t 71), (.t 73), (.t 75), (.t 77)], none, 1, 2⟩,
                ⟨(.some 79), (.eq false .int), [(.t 70), (.t 78)], none, 2, 2⟩,
                ⟨(.some 6), .mv, [(.t 79)], none, 2, 2⟩])
              .ret)
              .skip))))))))))))
theorem s28 : c28 =
  (.seq
  (.ops [0, 1, 5] [
    ⟨(.some 5), .box, [(.t 2)], none, 0, 0⟩,
    ⟨(.some 6), .mv, [(.c (.bool false))], none, 0, 0⟩])
  (.seq
  (.ops [0, 1, 5, 7, 8] [
    ⟨(.some 7), .mv, [(.c .nils)], none, 0, 0⟩,
    ⟨(.some 8), .mv, [(.c .nils)], none, 0, 0⟩])
  (.seq e28_1 e28_2))) := by kernel_rfl
/-- (*rill/rillref18.Tree).Set -/
def c45_2 : ACode :=
  (.seq
  (.ops [0, 1, 7] [
    ⟨(.some 32), .mv, [(.t 0)], none, 0, 0⟩,
    ⟨(.some 33), .mv, [(.t 1)], none, 0, 0⟩,
    ⟨(.some 34), (.load true 33), [(.t 5)], none, 0, 0⟩,
    ⟨(.some 35), (.call 57), [(.t 32), (.t 33), (.t 34)], none, 0, 0⟩])
  (.seq
  (.ops [0, 7] [
    ⟨(.some 36), .mv, [(.t 0)], none, 0, 0⟩,
    ⟨(.some 37), .mv, [(.t 7)], none, 0, 0⟩,
    ⟨(.some 38), .mv, [(.t 1)], none, 0, 0⟩,
    ⟨(.some 39), (.call 59), [(.t 38)], none, 0, 0⟩,
    ⟨(.some 40), (.call 58), [(.t 36), (.t 37), (.t 39)], none, 0, 0⟩,
    ⟨(.some 7), .mv, [(.t 40)], none, 0, 0⟩])
  (.seq
  (.ops [6] [
    ⟨(.some 41), .mv, [(.t 0)], none, 0, 0⟩,
    ⟨(.some 42), .mv, [(.t 7)], none, 0, 0⟩,
    ⟨(.some 43), (.call 58), [(.t 41), (.t 42), (.c (.int .i64 0))], none, 0, 0⟩,
    ⟨(.some 6), .mv, [(.t 43)], none, 0, 0⟩])
  .ret)))
def c45_1 : ACode :=
  (.seq
  (.ops [0, 1, 5, 7, 8, 27] [
    ⟨(.some 27), .mv, [(.t 9)], none, 0, 0⟩])
  (.cond (.t 27)
    (.ops [0, 1, 5, 7] [
      ⟨(.some 28), .mv, [(.t 7)], none, 0, 0⟩,
      ⟨(.some 29), (.load true 33), [(.t 8)], none, 0, 0⟩,
      ⟨(.some 30), (.mkSl 1 ([(.int .i64 0)] ++ (List.replicate 32 (.int .u8 0))) [(0, 33)]), [(.t 29)], none, 0, 0⟩,
      ⟨(.some 31), (.append 33 40), [(.t 28), (.t 30)], none, 0, 0⟩,
      ⟨(.some 7), .mv, [(.t 31)], none, 0, 0⟩])
    .skip))
theorem p45 : c45 =
  (.seq
  (.ops [0, 1, 5] [
    ⟨(.some 5), .box, [(.t 2)], none, 0, 0⟩,
    ⟨(.some 6), .mv, [(.c .nils)], none, 0, 0⟩])
  (.seq
  (.seq
  (.ops [0, 1, 5, 20] [
    ⟨(.some 10), .mv, [(.t 1)], none, 0, 0⟩,
    ⟨(.some 11), (.cmp .lss), [(.t 10), (.c (.int .i64 0))], none, 0, 0⟩,
    ⟨(.some 12), .mv, [(.t 11)], none, 0, 0⟩,
    ⟨(.some 13), .mv, [(.t 1)], (.some (12, false)), 0, 0⟩,
    ⟨(.some 14), (.cmp .gtr), [(.t 13), (.c (.int .i64 63))], (.some (12, false)), 0, 0⟩,
    ⟨(.some 15), .pick, [(.t 12), (.c (.bool true)), (.t 14)], none, 0, 0⟩,
    ⟨(.some 16), .mv, [(.t 15)], none, 0, 0⟩,
    ⟨(.some 17), (.fieldAddr 0), [(.t 5)], (.some (16, false)), 0, 0⟩,
    ⟨(.some 18), (.load false 1), [(.t 17)], (.some (16, false)), 0, 0⟩,
    ⟨(.some 19), (.cmp .lss), [(.t 18), (.c (.int .i64 1))], (.some (16, false)), 0, 0⟩,
    ⟨(.some 20), .pick, [(.t 16), (.c (.bool true)), (.t 19)], none, 0, 0⟩])
  (.cond (.t 20)
    (.seq
    (.ops [6] [
      ⟨(.some 6), .mv, [(.c .nils)], none, 0, 0⟩])
    .ret)
    .skip))
  (.seq
  (.ops [0, 1, 5, 7] [
    ⟨(.some 7), .mv, [(.c .nils)], none, 0, 0⟩])
  (.seq
  (.ops [0, 1, 5, 7, 8, 9] [
    ⟨(.some 22), .mv, [(.t 0)], none, 0, 0⟩,
    ⟨(.some 23), .mv, [(.t 1)], none, 0, 0⟩,
    ⟨(.some 24), (.call 44), [(.t 22), (.t 23)], none, 0, 0⟩,
    ⟨(.some 21), .mv, [(.t 24)], none, 0, 0⟩,
    ⟨(.some 25), (.extract 0), [(.t 21)], none, 0, 0⟩,
    ⟨(.some 26), (.extract 1), [(.t 21)], none, 0, 0⟩,
    ⟨(.some 8), (.alloc ([(.int .i64 0)] ++ (List.replicate 32 (.int .u8 0)))), [], none, 0, 0⟩,
    ⟨none, (.store 33), [(.t 8), (.t 25)], none, 0, 0⟩,
    ⟨(.some 9), .mv, [(.t 26)], none, 0, 0⟩])
  (.seq c45_1 c45_2))))) := by kernel_rfl
/-- (*rill/rillref18.Tree).put -/
def c57_2 : ACode :=
  (.seq
  (.ops [0, 1, 5, 6, 7, 8, 50] [
    ⟨(.some 41), .mv, [(.t 0)], none, 0, 0⟩,
    ⟨(.some 42), .nilCheck, [(.t 41)], none, 0, 0⟩,
    ⟨(.some 43), (.fieldAddr 0), [(.t 42)], none, 0, 0⟩,
    ⟨(.some 44), (.load false 1), [(.t 43)], none, 0, 0⟩,
    ⟨(.some 45), .mv, [(.t 8)], none, 0, 0⟩,
    ⟨(.some 46), (.idxAddr 34), [(.t 44), (.t 45)], none, 0, 0⟩,
    ⟨(.some 47), (.fieldAddr 0), [(.t 46)], none, 0, 0⟩,
    ⟨(.some 48), (.load false 1), [(.t 47)], none, 0, 0⟩,
    ⟨(.some 49), .mv, [(.t 1)], none, 0, 0⟩,
    ⟨(.some 50), (.eq true .int), [(.t 48), (.t 49)], none, 0, 0⟩])
  (.cond (.t 50)
    (.ops [0, 1, 5, 6, 7, 8] [
      ⟨(.some 51), .mv, [(.t 6)], none, 0, 0⟩,
      ⟨(.some 52), .mv, [(.t 0)], none, 0, 0⟩,
      ⟨(.some 53), .nilCheck, [(.t 52)], none, 0, 0⟩,
      ⟨(.some 54), (.fieldAddr 0), [(.t 53)], none, 0, 0⟩,
      ⟨(.some 55), (.load false 1), [(.t 54)], none, 0, 0⟩,
      ⟨(.some 56), .mv, [(.t 8)], none, 0, 0⟩,
      ⟨(.some 57), (.idxAddr 34), [(.t 55), (.t 56)], none, 0, 0⟩,
      ⟨(.some 58), (.load true 34), [(.t 57)], none, 0, 0⟩,
      ⟨(.some 59), (.mkSl 1 ([(.int .i64 0), (.int .i64 0)] ++ (List.replicate 32 (.int .u8 0))) [(0, 34)]), [(.t 58)], none, 0, 0⟩,
      ⟨(.some 60), (.append 34 48), [(.t 51), (.t 59)], none, 0, 0⟩,
      ⟨(.some 6), .mv, [(.t 60)], none, 0, 0⟩])
    .skip))
def c57_1 : ACode :=
  (.seq
  (.ops [0, 1, 5, 6, 7, 8, 34] [
    ⟨(.some 21), .mv, [(.t 7)], none, 0, 0⟩,
    ⟨(.some 22), .not, [(.t 21)], none, 0, 0⟩,
    ⟨(.some 23), .mv, [(.t 22)], none, 0, 0⟩,
    ⟨(.some 24), .mv, [(.t 0)], (.some (23, true)), 0, 0⟩,
    ⟨(.some 25), .nilCheck, [(.t 24)], (.some (23, true)), 0, 0⟩,
    ⟨(.some 26), (.fieldAddr 0), [(.t 25)], (.some (23, true)), 0, 0⟩,
    ⟨(.some 27), (.load false 1), [(.t 26)], (.some (23, true)), 0, 0⟩,
    ⟨(.some 28), .mv, [(.t 8)], (.some (23, true)), 0, 0⟩,
    ⟨(.some 29), (.idxAddr 34), [(.t 27), (.t 28)], (.some (23, true)), 0, 0⟩,
    ⟨(.some 30), (.fieldAddr 0), [(.t 29)], (.some (23, true)), 0, 0⟩,
    ⟨(.some 31), (.load false 1), [(.t 30)], (.some (23, true)), 0, 0⟩,
    ⟨(.some 32), .mv, [(.t 1)], (.some (23, true)), 0, 0⟩,
    ⟨(.some 33), (.cmp .geq), [(.t 31), (.t 32)], (.some (23, true)), 0, 0⟩,
    ⟨(.some 34), .pick, [(.t 23), (.t 33), (.c (.bool false))], none, 0, 0⟩])
  (.cond (.t 34)
    (.seq
    (.ops [0, 1, 5, 6, 8] [
      ⟨(.some 35), .mv, [(.t 6)], none, 0, 0⟩,
      ⟨(.some 36), .mv, [(.t 1)], none, 0, 0⟩,
      ⟨(.some 37), (.load true 33), [(.t 5)], none, 0, 0⟩,
      ⟨(.some 38), (.build ([(.int .i64 0), (.int .i64 0)] ++ (List.replicate 32 (.int .u8 0))) [(0, 1), (1, 33)]), [(.t 36), (.t 37)], none, 0, 0⟩,
      ⟨(.some 39), (.mkSl 1 ([(.int .i64 0), (.int .i64 0)] ++ (List.replicate 32 (.int .u8 0))) [(0, 34)]), [(.t 38)], none, 0, 0⟩,
      ⟨(.some 40), (.append 34 48), [(.t 35), (.t 39)], none, 0, 0⟩,
      ⟨(.some 6), .mv, [(.t 40)], none, 0, 0⟩])
    (.ops [0, 1, 5, 6, 7, 8] [
      ⟨(.some 7), .mv, [(.c (.bool true))], none, 0, 0⟩]))
    .skip))
theorem p57 : c57 =
  (.seq
  (.ops [0, 1, 5] [
    ⟨(.some 5), .box, [(.t 2)], none, 0, 0⟩])
  (.seq
  (.ops [0, 1, 5, 6] [
    ⟨(.some 6), .mv, [(.c .nils)], none, 0, 0⟩])
  (.seq
  (.ops [0, 1, 5, 6, 7] [
    ⟨(.some 9), (.fieldAddr 0), [(.t 5)], none, 0, 0⟩,
    ⟨(.some 10), (.load false 1), [(.t 9)], none, 0, 0⟩,
    ⟨(.some 11), (.cmp .lss), [(.t 10), (.c (.int .i64 1))], none, 0, 0⟩,
    ⟨(.some 7), .mv, [(.t 11)], none, 0, 0⟩])
  (.seq
  (.seq
  (.ops [0, 1, 5, 6, 7, 8] [
    ⟨(.some 8), .mv, [(.c (.int .i64 0))], none, 0, 0⟩])
  (.block 0
    (.loop [0, 1, 5, 6, 7, 8]
      (.seq
      (.seq
      (.ops [0, 1, 5, 6, 7, 8, 18] [
        ⟨(.some 12), .mv, [(.t 8)], none, 0, 0⟩,
        ⟨(.some 13), .mv, [(.t 0)], none, 0, 0⟩,
        ⟨(.some 14), .nilCheck, [(.t 13)], none, 0, 0⟩,
        ⟨(.some 15), (.fieldAddr 0), [(.t 14)], none, 0, 0⟩,
        ⟨(.some 16), (.load false 1), [(.t 15)], none, 0, 0⟩,
        ⟨(.some 17), .len, [(.t 16)], none, 0, 0⟩,
        ⟨(.some 18), (.cmp .lss), [(.t 12), (.t 17)], none, 0, 0⟩])
      (.cond (.t 18)
        .skip
        (.exit 0)))
      (.seq
      (.block 1
        (.seq c57_1 c57_2))
      (.ops [0, 1, 5, 6, 7, 8] [
        ⟨(.some 19), .mv, [(.t 8)], none, 0, 0⟩,
        ⟨(.some 20), (.arith .add), [(.t 19), (.c (.int .i64 1))], none, 0, 0⟩,
        ⟨(.some 8), .mv, [(.t 20)], none, 0, 0⟩]))))))
  (.seq
  (.seq
  (.ops [0, 1, 5, 6, 62] [
    ⟨(.some 61), .mv, [(.t 7)], none, 0, 0⟩,
    ⟨(.some 62), .not, [(.t 61)], none, 0, 0⟩])
  (.cond (.t 62)
    (.ops [0, 6] [
      ⟨(.some 63), .mv, [(.t 6)], none, 0, 0⟩,
      ⟨(.some 64), .mv, [(.t 1)], none, 0, 0⟩,
      ⟨(.some 65), (.load true 33), [(.t 5)], none, 0, 0⟩,
      ⟨(.some 66), (.build ([(.int .i64 0), (.int .i64 0)] ++ (List.replicate 32 (.int .u8 0))) [(0, 1), (1, 33)]), [(.t 64), (.t 65)], none, 0, 0⟩,
      ⟨(.some 67), (.mkSl 1 ([(.int .i64 0), (.int .i64 0)] ++ (List.replicate 32 (.int .u8 0))) [(0, 34)]), [(.t 66)], none, 0, 0⟩,
      ⟨(.some 68), (.append 34 48), [(.t 63), (.t 67)], none, 0, 0⟩,
      ⟨(.some 6), .mv, [(.t 68)], none, 0, 0⟩])
    .skip))
  (.ops [] [
    ⟨(.some 69), .mv, [(.t 0)], none, 0, 0⟩,
    ⟨(.some 70), .mv, [(.t 6)], none, 0, 0⟩,
    ⟨(.some 71), .nilCheck, [(.t 69)], none, 0, 0⟩,
    ⟨(.some 72), (.fieldAddr 0), [(.t 71)], none, 0, 0⟩,
    ⟨none, (.store 1), [(.t 72), (.t 70)], none, 0, 0⟩])))))) := by kernel_rfl
/-- (*rill/rillref18.Tree).spoil -/
def c58_2 : ACode :=
  (.seq
  (.ops [1] [
    ⟨(.some 25), .mv, [(.t 0)], none, 0, 0⟩,
    ⟨(.some 26), .mv, [(.t 2)], none, 0, 0⟩,
    ⟨(.some 27), (.build ([(.int .i64 0), (.bool false), (.int .i64 0)] ++ (List.replicate 32 (.int .u8 0))) [(0, 1), (1, 1)]), [(.t 26), (.c (.bool true))], none, 0, 0⟩,
    ⟨(.some 28), (.call 62), [(.t 25), (.t 27)], none, 0, 0⟩])
  (.seq
  (.ops [6] [
    ⟨(.some 29), .mv, [(.t 1)], none, 0, 0⟩,
    ⟨(.some 6), .mv, [(.t 29)], none, 0, 0⟩])
  .ret))
def c58_1 : ACode :=
  (.seq
  (.ops [0, 1, 2, 7, 20] [
    ⟨(.some 15), .mv, [(.t 8)], none, 0, 0⟩,
    ⟨(.some 16), .mv, [(.t 15)], none, 0, 0⟩,
    ⟨(.some 17), (.fieldAddr 0), [(.t 7)], (.some (16, true)), 0, 0⟩,
    ⟨(.some 18), (.load false 1), [(.t 17)], (.some (16, true)), 0, 0⟩,
    ⟨(.some 19), (.cmp .gtr), [(.t 18), (.c (.int .i64 0))], (.some (16, true)), 0, 0⟩,
    ⟨(.some 20), .pick, [(.t 16), (.t 19), (.c (.bool false))], none, 0, 0⟩])
  (.cond (.t 20)
    (.ops [0, 1, 2] [
      ⟨(.some 21), .mv, [(.t 1)], none, 0, 0⟩,
      ⟨(.some 22), (.load true 33), [(.t 7)], none, 0, 0⟩,
      ⟨(.some 23), (.mkSl 1 ([(.int .i64 0)] ++ (List.replicate 32 (.int .u8 0))) [(0, 33)]), [(.t 22)], none, 0, 0⟩,
      ⟨(.some 24), (.append 33 40), [(.t 21), (.t 23)], none, 0, 0⟩,
      ⟨(.some 1), .mv, [(.t 24)], none, 0, 0⟩])
    .skip))
theorem p58 : c58 =
  (.seq
  (.ops [0, 1, 2] [
    ⟨(.some 6), .mv, [(.c .nils)], none, 0, 0⟩])
  (.seq
  (.ops [0, 1, 2, 7, 8] [
    ⟨(.some 10), .mv, [(.t 0)], none, 0, 0⟩,
    ⟨(.some 11), .mv, [(.t 2)], none, 0, 0⟩,
    ⟨(.some 12), (.call 42), [(.t 10), (.t 11)], none, 0, 0⟩,
    ⟨(.some 9), .mv, [(.t 12)], none, 0, 0⟩,
    ⟨(.some 13), (.extract 0), [(.t 9)], none, 0, 0⟩,
    ⟨(.some 14), (.extract 1), [(.t 9)], none, 0, 0⟩,
    ⟨(.some 7), (.alloc ([(.int .i64 0)] ++ (List.replicate 32 (.int .u8 0)))), [], none, 0, 0⟩,
    ⟨none, (.store 33), [(.t 7), (.t 13)], none, 0, 0⟩,
    ⟨(.some 8), .mv, [(.t 14)], none, 0, 0⟩])
  (.seq c58_1 c58_2))) := by kernel_rfl
end Go.Proofs.Ytmklcealhjmlgaa
end
section
/- The tree of blocks: its rows in memory. -/
namespace Go.Proofs.Ytmklcealhjmlgaa
open Go Go.Adm
set_option linter.unusedSimpArgs false
set_option maxRecDepth 100000

/-- A digest of 32 bytes. -/
abbrev Sm := {l : List B8 // l.length = 32}
def Sm.zero : Sm := ⟨List.replicate 32 0#8, by simp⟩
structure Rf where
  at_ : Int
  sum : Sm
deriving DecidableEq
def Rf.zero : Rf := ⟨0, Sm.zero⟩
def Rf.cells (r : Rf) : List AV := .int .i64 r.at_ :: bys r.sum.1
theorem Rf.cells_len (r : Rf) : r.cells.length = 33 := by simp [Rf.cells, r.sum.2]
theorem rf_zero : AV.int .i64 0 :: bys (List.replicate 32 0#8) = Rf.zero.cells := rfl
theorem aEq_rf (r s : Rf) : aEqCells (.i :: List.replicate 32 .i) r.cells s.cells = some (r == s) := by
  have e := aEq_bys r.sum.1 s.sum.1 r.sum.2 s.sum.2
  simp only [Rf.cells, aEqCells, aEqCk, e, if_true, Option.bind_some, Option.map_some, Option.some.injEq]
  rw [Bool.eq_iff_iff]
  obtain ⟨a, x⟩ := r
  obtain ⟨b, y⟩ := s
  simp [Subtype.ext_iff]
structure Nd where
  st : Int
  ref : Rf
deriving DecidableEq
def Nd.cells (n : Nd) : List AV := .int .i64 n.st :: n.ref.cells
theorem Nd.cells_len (n : Nd) : n.cells.length = 34 := by simp [Nd.cells, Rf.cells_len]
theorem aEq_nd (r s : Nd) : aEqCells (.i :: .i :: List.replicate 32 .i) r.cells s.cells = some (r == s) := by
  have e := aEq_rf r.ref s.ref
  simp only [Nd.cells, aEqCells, aEqCk, e, if_true, Option.bind_some, Option.map_some, Option.some.injEq]
  rw [Bool.eq_iff_iff]
  obtain ⟨a, x⟩ := r
  obtain ⟨b, y⟩ := s
  simp
/-- A tree: 64 refs of blocks, 9 nodes. -/
structure Tr where
  bl : List Rf
  nd : List Nd
  hb : bl.length = 64
  hn : nd.length = 9
def Tr.row (t : Tr) : List AV := flatOf Rf.cells t.bl ++ flatOf Nd.cells t.nd
theorem Tr.bl_len (t : Tr) : (flatOf Rf.cells t.bl).length = 2112 := by rw [flatOf_length Rf.cells_len, t.hb]
theorem Tr.nd_len (t : Tr) : (flatOf Nd.cells t.nd).length = 306 := by rw [flatOf_length Nd.cells_len, t.hn]
theorem Tr.row_len (t : Tr) : t.row.length = 2418 := by rw [Tr.row, List.length_append, t.bl_len, t.nd_len]
def Tr.b (t : Tr) (i : Nat) : Rf := t.bl.getD i Rf.zero
def Tr.n (t : Tr) (i : Nat) : Nd := t.nd.getD i ⟨0, Rf.zero⟩
theorem Tr.b_get (t : Tr) {i : Nat} (h : i < 64) : t.bl[i]? = some (t.b i) := by simp [Tr.b, t.hb, h]
theorem Tr.n_get (t : Tr) {i : Nat} (h : i < 9) : t.nd[i]? = some (t.n i) := by simp [Tr.n, t.hn, h]
theorem Tr.b_part (t : Tr) {i : Nat} (h : i < 64) : (t.row.drop (i * 33)).take 33 = (t.b i).cells := by
  have hi : i < t.bl.length := by rw [t.hb]; exact h
  have e := flatOf_get Rf.cells_len t.bl i hi
  have hle : i * 33 + 33 ≤ (flatOf Rf.cells t.bl).length := by rw [t.bl_len]; omega
  rw [Tr.row, List.drop_append_of_le_length (by omega), List.take_append_of_le_length (by simp; omega), e]
  have := t.b_get h
  rw [List.getElem?_eq_getElem hi, Option.some.injEq] at this
  rw [this]
theorem Tr.n_part (t : Tr) {i : Nat} (h : i < 9) : (t.row.drop (2112 + i * 34)).take 34 = (t.n i).cells := by
  have hi : i < t.nd.length := by rw [t.hn]; exact h
  have e := flatOf_get Nd.cells_len t.nd i hi
  rw [Tr.row, ← t.bl_len, ← List.drop_drop, List.drop_left, e]
  have := t.n_get h
  rw [List.getElem?_eq_getElem hi, Option.some.injEq] at this
  rw [this]
theorem cell_of_part {l c : List AV} {o k j : Nat} (h : (l.drop o).take k = c) (hj : j < k) : l[o + j]? = c[j]? := by
  rw [← h, List.getElem?_take_of_lt hj, List.getElem?_drop]
theorem Tr.b_at (t : Tr) {i : Nat} (h : i < 64) : t.row[i * 33]? = some (.int .i64 (t.b i).at_) := cell_of_part (j := 0) (t.b_part h) (by omega)
theorem Tr.n_st (t : Tr) {i : Nat} (h : i < 9) : t.row[2112 + i * 34]? = some (.int .i64 (t.n i).st) := cell_of_part (j := 0) (t.n_part h) (by omega)
theorem Tr.n_ref (t : Tr) {i : Nat} (h : i < 9) : (t.row.drop (2112 + i * 34 + 1)).take 33 = (t.n i).ref.cells := by
  have := congrArg (fun l => (l.drop 1).take 33) (t.n_part h)
  simp only [List.drop_take, List.drop_drop, List.take_take] at this
  rw [show Min.min 33 (34 - 1) = 33 from rfl] at this
  rw [this]
  simp only [Nd.cells, List.drop_succ_cons, List.drop_zero]
  exact List.take_of_length_le (by rw [Rf.cells_len]; exact Nat.le_refl _)
def Tr.setB (t : Tr) (i : Nat) (r : Rf) : Tr := ⟨t.bl.set i r, t.nd, by simp [t.hb], t.hn⟩
def Tr.setN (t : Tr) (i : Nat) (r : Nd) : Tr := ⟨t.bl, t.nd.set i r, t.hb, by simp [t.hn]⟩
theorem splice_app_l {a b c : List AV} {o : Nat} (h : o + c.length ≤ a.length) : splice (a ++ b) o c = splice a o c ++ b := by
  unfold splice
  rw [List.take_append_of_le_length (by omega), List.drop_append_of_le_length (by omega), List.append_assoc, List.append_assoc, List.append_assoc]
theorem splice_app_r {a b c : List AV} {o : Nat} : splice (a ++ b) (a.length + o) c = a ++ splice b o c := by
  unfold splice
  rw [List.take_length_add_append, Nat.add_assoc, ← List.drop_drop, List.drop_left, List.append_assoc, List.append_assoc, List.append_assoc]
theorem Tr.setB_row (t : Tr) {i : Nat} (h : i < 64) (r : Rf) : splice t.row (i * 33) r.cells = (t.setB i r).row := by
  rw [Tr.row, splice_app_l (by rw [t.bl_len, Rf.cells_len]; omega), flatOf_set Rf.cells_len t.bl i r (by rw [t.hb]; exact h)]
  rfl
theorem Tr.setN_row (t : Tr) {i : Nat} (h : i < 9) (r : Nd) : splice t.row (2112 + i * 34) r.cells = (t.setN i r).row := by
  rw [Tr.row, ← t.bl_len, splice_app_r, flatOf_set Nd.cells_len t.nd i r (by rw [t.hn]; exact h)]
  rfl
theorem Tr.setB_b (t : Tr) (i j : Nat) (r : Rf) (h : i < 64) : (t.setB i r).b j = if i = j then r else t.b j := by
  simp only [Tr.b, Tr.setB, List.getD_eq_getElem?_getD, List.getElem?_set, t.hb]
  split
  · rename_i e; subst e; simp [h]
  · rfl
theorem Tr.setN_n (t : Tr) (i j : Nat) (r : Nd) (h : i < 9) : (t.setN i r).n j = if i = j then r else t.n j := by
  simp only [Tr.n, Tr.setN, List.getD_eq_getElem?_getD, List.getElem?_set, t.hn]
  split
  · rename_i e; subst e; simp [h]
  · rfl
theorem Tr.setB_n (t : Tr) (i j : Nat) (r : Rf) : (t.setB i r).n j = t.n j := rfl
theorem Tr.setN_b (t : Tr) (i j : Nat) (r : Nd) : (t.setN i r).b j = t.b j := rfl
theorem Tr.ext_ {s t : Tr} (hb : ∀ i, i < 64 → s.b i = t.b i) (hn : ∀ i, i < 9 → s.n i = t.n i) : s = t := by
  have e1 : s.bl = t.bl := List.ext_getElem? fun i => by
    by_cases h : i < 64
    · rw [s.b_get h, t.b_get h, hb i h]
    · rw [List.getElem?_eq_none (by rw [s.hb]; omega), List.getElem?_eq_none (by rw [t.hb]; omega)]
  have e2 : s.nd = t.nd := List.ext_getElem? fun i => by
    by_cases h : i < 9
    · rw [s.n_get h, t.n_get h, hn i h]
    · rw [List.getElem?_eq_none (by rw [s.hn]; omega), List.getElem?_eq_none (by rw [t.hn]; omega)]
  obtain ⟨a, b, c, d⟩ := s
  obtain ⟨a', b', c', d'⟩ := t
  simp only at e1 e2
  subst e1; subst e2; rfl
end Go.Proofs.Ytmklcealhjmlgaa
end
