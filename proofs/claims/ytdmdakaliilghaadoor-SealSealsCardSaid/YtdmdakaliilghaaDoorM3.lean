/- Texts of this seat, joined (part 3 of 5): an abstract memory for Go programs, this seat's functions as abstract code, and what each of them does. -/
import Derived.Test.YtdmdakaliilghaaDoorProg
import Derived.KernelRfl
import Derived.Test.YtdmdakaliilghaaDoorM2
set_option linter.unusedSimpArgs false
section
/- The abstract code of the functions, printed by a program of this session (gencode.py), and checked against the loaded program. -/
namespace Go.Proofs.YtdmdakaliilghaaDoor
open Go.Adm
theorem mixed : Tryd.prog.follows .mixedOrders = true := by kernel_rfl
/-- rill/rilllaw05.SealBack -/
def c3 : ACode :=
  (.seq
  (.ops [0, 2, 4] [
    ⟨(.some 4), .box, [(.t 1)], none, 0, 0⟩,
    ⟨(.some 6), .mv, [(.c (.bool false))], none, 0, 0⟩])
  (.seq
  (.seq
  (.ops [0, 2, 4, 24] [
    ⟨(.some 11), .mv, [(.t 0)], none, 0, 0⟩,
    ⟨(.some 12), .len, [(.t 11)], none, 0, 0⟩,
    ⟨(.some 13), (.cmp .gtr), [(.t 12), (.c (.int .i64 4096))], none, 0, 0⟩,
    ⟨(.some 14), .mv, [(.t 13)], none, 0, 0⟩,
    ⟨(.some 15), (.fieldAddr 2), [(.t 4)], (.some (14, false)), 0, 0⟩,
    ⟨(.some 16), (.load false 1), [(.t 15)], (.some (14, false)), 0, 0⟩,
    ⟨(.some 17), .len, [(.t 16)], (.some (14, false)), 0, 0⟩,
    ⟨(.some 18), (.cmp .gtr), [(.t 17), (.c (.int .i64 4096))], (.some (14, false)), 0, 0⟩,
    ⟨(.some 19), .pick, [(.t 14), (.c (.bool true)), (.t 18)], none, 0, 0⟩,
    ⟨(.some 20), .mv, [(.t 19)], none, 0, 0⟩,
    ⟨(.some 21), .mv, [(.t 2)], (.some (20, false)), 0, 0⟩,
    ⟨(.some 22), .len, [(.t 21)], (.some (20, false)), 0, 0⟩,
    ⟨(.some 23), (.cmp .gtr), [(.t 22), (.c (.int .i64 4096))], (.some (20, false)), 0, 0⟩,
    ⟨(.some 24), .pick, [(.t 20), (.c (.bool true)), (.t 23)], none, 0, 0⟩])
  (.cond (.t 24)
    (.seq
    (.ops [6] [
      ⟨(.some 25), (.call 8), [], none, 0, 0⟩,
      ⟨(.some 6), .mv, [(.t 25)], none, 0, 0⟩])
    .ret)
    .skip))
  (.seq
  (.ops [2, 4, 7] [
    ⟨(.some 26), .mv, [(.t 0)], none, 0, 0⟩,
    ⟨(.some 27), (.call 9), [(.t 26)], none, 0, 0⟩,
    ⟨(.some 7), .mv, [(.t 27)], none, 0, 0⟩])
  (.seq
  (.ops [2, 4, 7, 8] [
    ⟨(.some 28), .mv, [(.t 7)], none, 0, 0⟩,
    ⟨(.some 29), (.fieldAddr 0), [(.t 4)], none, 0, 0⟩,
    ⟨(.some 30), (.load false 1), [(.t 29)], none, 0, 0⟩,
    ⟨(.some 31), (.fieldAddr 1), [(.t 4)], none, 0, 0⟩,
    ⟨(.some 32), (.load false 1), [(.t 31)], none, 0, 0⟩,
    ⟨(.some 33), (.fieldAddr 2), [(.t 4)], none, 0, 0⟩,
    ⟨(.some 34), (.load false 1), [(.t 33)], none, 0, 0⟩,
    ⟨(.some 35), .mv, [(.t 2)], none, 0, 0⟩,
    ⟨(.some 36), (.call 10), [(.t 28), (.t 30), (.t 32), (.t 34), (.t 35)], none, 0, 0⟩,
    ⟨(.some 8), .mv, [(.t 36)], none, 0, 0⟩])
  (.seq
  (.ops [2, 4, 8, 9, 10] [
    ⟨(.some 38), .mv, [(.t 7)], none, 0, 0⟩,
    ⟨(.some 39), (.fieldAddr 0), [(.t 4)], none, 0, 0⟩,
    ⟨(.some 40), (.load false 1), [(.t 39)], none, 0, 0⟩,
    ⟨(.some 41), (.fieldAddr 1), [(.t 4)], none, 0, 0⟩,
    ⟨(.some 42), (.load false 1), [(.t 41)], none, 0, 0⟩,
    ⟨(.some 43), (.fieldAddr 2), [(.t 4)], none, 0, 0⟩,
    ⟨(.some 44), (.load false 1), [(.t 43)], none, 0, 0⟩,
    ⟨(.some 45), .mv, [(.t 8)], none, 0, 0⟩,
    ⟨(.some 46), (.call 11), [(.t 38), (.t 40), (.t 42), (.t 44), (.t 45)], none, 0, 0⟩,
    ⟨(.some 37), .mv, [(.t 46)], none, 0, 0⟩,
    ⟨(.some 47), (.extract 0), [(.t 37)], none, 0, 0⟩,
    ⟨(.some 48), (.extract 1), [(.t 37)], none, 0, 0⟩,
    ⟨(.some 9), .mv, [(.t 47)], none, 0, 0⟩,
    ⟨(.some 10), .mv, [(.t 48)], none, 0, 0⟩])
  (.seq
  (.seq
  (.ops [2, 8, 9, 10, 62] [
    ⟨(.some 49), (.fieldAddr 0), [(.t 4)], none, 0, 0⟩,
    ⟨(.some 50), (.load false 1), [(.t 49)], none, 0, 0⟩,
    ⟨(.some 51), (.fieldAddr 1), [(.t 4)], none, 0, 0⟩,
    ⟨(.some 52), (.load false 1), [(.t 51)], none, 0, 0⟩,
    ⟨(.some 53), .min, [(.t 50), (.t 52)], none, 0, 0⟩,
    ⟨(.some 54), (.cmp .lss), [(.t 53), (.c (.int .i64 0))], none, 0, 0⟩,
    ⟨(.some 55), .mv, [(.t 54)], none, 0, 0⟩,
    ⟨(.some 56), (.fieldAddr 0), [(.t 4)], (.some (55, false)), 0, 0⟩,
    ⟨(.some 57), (.load false 1), [(.t 56)], (.some (55, false)), 0, 0⟩,
    ⟨(.some 58), (.fieldAddr 1), [(.t 4)], (.some (55, false)), 0, 0⟩,
    ⟨(.some 59), (.load false 1), [(.t 58)], (.some (55, false)), 0, 0⟩,
    ⟨(.some 60), .max, [(.t 57), (.t 59)], (.some (55, false)), 0, 0⟩,
    ⟨(.some 61), (.cmp .gtr), [(.t 60), (.c (.int .i64 1099511627776))], (.some (55, false)), 0, 0⟩,
    ⟨(.some 62), .pick, [(.t 55), (.c (.bool true)), (.t 61)], none, 0, 0⟩])
  (.cond (.t 62)
    (.seq
    (.ops [6] [
      ⟨(.some 63), .mv, [(.t 8)], none, 0, 0⟩,
      ⟨(.some 64), .len, [(.t 63)], none, 0, 0⟩,
      ⟨(.some 65), (.eq false .int), [(.t 64), (.c (.int .i64 0))], none, 0, 0⟩,
      ⟨(.some 66), .mv, [(.t 65)], none, 0, 0⟩,
      ⟨(.some 67), .mv, [(.t 10)], (.some (66, true)), 0, 0⟩,
      ⟨(.some 68), .not, [(.t 67)], (.some (66, true)), 0, 0⟩,
      ⟨(.some 69), .pick, [(.t 66), (.t 68), (.c (.bool false))], none, 0, 0⟩,
      ⟨(.some 70), .mv, [(.t 69)], none, 0, 0⟩,
      ⟨(.some 71), .mv, [(.t 9)], (.some (70, true)), 0, 0⟩,
      ⟨(.some 72), .len, [(.t 71)], (.some (70, true)), 0, 0⟩,
      ⟨(.some 73), (.eq false .int), [(.t 72), (.c (.int .i64 0))], (.some (70, true)), 0, 0⟩,
      ⟨(.some 74), .pick, [(.t 70), (.t 73), (.c (.bool false))], none, 0, 0⟩,
      ⟨(.some 75), .mv, [(.t 74)], none, 0, 0⟩,
      ⟨(.some 76), (.call 8), [], (.some (75, true)), 0, 0⟩,
      ⟨(.some 77), .pick, [(.t 75), (.t 76), (.c (.bool false))], none, 0, 0⟩,
      ⟨(.some 6), .mv, [(.t 77)], none, 0, 0⟩])
    .ret)
    .skip))
  (.seq
  (.ops [6] [
    ⟨(.some 78), .mv, [(.t 8)], none, 0, 0⟩,
    ⟨(.some 79), .len, [(.t 78)], none, 0, 0⟩,
    ⟨(.some 80), .mv, [(.t 2)], none, 0, 0⟩,
    ⟨(.some 81), .len, [(.t 80)], none, 0, 0⟩,
    ⟨(.some 82), (.arith .add), [(.t 81), (.c (.int .i64 32))], none, 0, 0⟩,
    ⟨(.some 83), (.eq false .int), [(.t 79), (.t 82)], none, 0, 0⟩,
    ⟨(.some 84), .mv, [(.t 83)], none, 0, 0⟩,
    ⟨(.some 85), .mv, [(.t 10)], (.some (84, true)), 0, 0⟩,
    ⟨(.some 86), .pick, [(.t 84), (.t 85), (.c (.bool false))], none, 0, 0⟩,
    ⟨(.some 87), .mv, [(.t 86)], none, 0, 0⟩,
    ⟨(.some 88), .mv, [(.t 9)], (.some (87, true)), 0, 0⟩,
    ⟨(.some 89), .mv, [(.t 2)], (.some (87, true)), 0, 0⟩,
    ⟨(.some 90), (.call 12), [(.t 88), (.t 89)], (.some (87, true)), 0, 0⟩,
    ⟨(.some 91), .pick, [(.t 87), (.t 90), (.c (.bool false))], none, 0, 0⟩,
    ⟨(.some 92), .mv, [(.t 91)], none, 0, 0⟩,
    ⟨(.some 93), (.call 8), [], (.some (92, true)), 0, 0⟩,
    ⟨(.some 94), .pick, [(.t 92), (.t 93), (.c (.bool false))], none, 0, 0⟩,
    ⟨(.some 6), .mv, [(.t 94)], none, 0, 0⟩])
  .ret)))))))
def r3 : List ARes := [(.tmp 6)]
theorem ok3 : FnOk Tryd.prog 3 c3 r3 :=
  ⟨Tryd.f3, _, Tryd.func3, by kernel_rfl, rfl, by kernel_rfl, by kernel_rfl⟩
/-- rill/rilllaw05.SealOnly -/
def c4 : ACode :=
  (.seq
  (.ops [0, 2, 4] [
    ⟨(.some 4), .box, [(.t 1)], none, 0, 0⟩,
    ⟨(.some 6), .mv, [(.c (.bool false))], none, 0, 0⟩])
  (.seq
  (.seq
  (.ops [0, 2, 4, 23] [
    ⟨(.some 10), .mv, [(.t 0)], none, 0, 0⟩,
    ⟨(.some 11), .len, [(.t 10)], none, 0, 0⟩,
    ⟨(.some 12), (.cmp .gtr), [(.t 11), (.c (.int .i64 4096))], none, 0, 0⟩,
    ⟨(.some 13), .mv, [(.t 12)], none, 0, 0⟩,
    ⟨(.some 14), (.fieldAddr 2), [(.t 4)], (.some (13, false)), 0, 0⟩,
    ⟨(.some 15), (.load false 1), [(.t 14)], (.some (13, false)), 0, 0⟩,
    ⟨(.some 16), .len, [(.t 15)], (.some (13, false)), 0, 0⟩,
    ⟨(.some 17), (.cmp .gtr), [(.t 16), (.c (.int .i64 4096))], (.some (13, false)), 0, 0⟩,
    ⟨(.some 18), .pick, [(.t 13), (.c (.bool true)), (.t 17)], none, 0, 0⟩,
    ⟨(.some 19), .mv, [(.t 18)], none, 0, 0⟩,
    ⟨(.some 20), .mv, [(.t 2)], (.some (19, false)), 0, 0⟩,
    ⟨(.some 21), .len, [(.t 20)], (.some (19, false)), 0, 0⟩,
    ⟨(.some 22), (.cmp .gtr), [(.t 21), (.c (.int .i64 4096))], (.some (19, false)), 0, 0⟩,
    ⟨(.some 23), .pick, [(.t 19), (.c (.bool true)), (.t 22)], none, 0, 0⟩])
  (.cond (.t 23)
    (.seq
    (.ops [6] [
      ⟨(.some 24), (.call 8), [], none, 0, 0⟩,
      ⟨(.some 6), .mv, [(.t 24)], none, 0, 0⟩])
    .ret)
    .skip))
  (.seq
  (.ops [2, 4, 7] [
    ⟨(.some 25), .mv, [(.t 0)], none, 0, 0⟩,
    ⟨(.some 26), (.call 9), [(.t 25)], none, 0, 0⟩,
    ⟨(.some 7), .mv, [(.t 26)], none, 0, 0⟩])
  (.seq
  (.ops [2, 4, 7, 8, 9] [
    ⟨(.some 28), .mv, [(.t 7)], none, 0, 0⟩,
    ⟨(.some 29), (.fieldAddr 0), [(.t 4)], none, 0, 0⟩,
    ⟨(.some 30), (.load false 1), [(.t 29)], none, 0, 0⟩,
    ⟨(.some 31), (.fieldAddr 1), [(.t 4)], none, 0, 0⟩,
    ⟨(.some 32), (.load false 1), [(.t 31)], none, 0, 0⟩,
    ⟨(.some 33), (.fieldAddr 2), [(.t 4)], none, 0, 0⟩,
    ⟨(.some 34), (.load false 1), [(.t 33)], none, 0, 0⟩,
    ⟨(.some 35), .mv, [(.t 2)], none, 0, 0⟩,
    ⟨(.some 36), (.call 11), [(.t 28), (.t 30), (.t 32), (.t 34), (.t 35)], none, 0, 0⟩,
    ⟨(.some 27), .mv, [(.t 36)], none, 0, 0⟩,
    ⟨(.some 37), (.extract 0), [(.t 27)], none, 0, 0⟩,
    ⟨(.some 38), (.extract 1), [(.t 27)], none, 0, 0⟩,
    ⟨(.some 8), .mv, [(.t 37)], none, 0, 0⟩,
    ⟨(.some 9), .mv, [(.t 38)], none, 0, 0⟩])
  (.seq
  (.seq
  (.ops [2, 4, 7, 8, 40] [
    ⟨(.some 39), .mv, [(.t 9)], none, 0, 0⟩,
    ⟨(.some 40), .not, [(.t 39)], none, 0, 0⟩])
  (.cond (.t 40)
    (.seq
    (.ops [6] [
      ⟨(.some 41), .mv, [(.t 8)], none, 0, 0⟩,
      ⟨(.some 42), .len, [(.t 41)], none, 0, 0⟩,
      ⟨(.some 43), (.eq false .int), [(.t 42), (.c (.int .i64 0))], none, 0, 0⟩,
      ⟨(.some 44), .mv, [(.t 43)], none, 0, 0⟩,
      ⟨(.some 45), (.call 8), [], (.some (44, true)), 0, 0⟩,
      ⟨(.some 46), .pick, [(.t 44), (.t 45), (.c (.bool false))], none, 0, 0⟩,
      ⟨(.some 6), .mv, [(.t 46)], none, 0, 0⟩])
    .ret)
    .skip))
  (.seq
  (.ops [6] [
    ⟨(.some 47), .mv, [(.t 2)], none, 0, 0⟩,
    ⟨(.some 48), .len, [(.t 47)], none, 0, 0⟩,
    ⟨(.some 49), .mv, [(.t 8)], none, 0, 0⟩,
    ⟨(.some 50), .len, [(.t 49)], none, 0, 0⟩,
    ⟨(.some 51), (.arith .add), [(.t 50), (.c (.int .i64 32))], none, 0, 0⟩,
    ⟨(.some 52), (.eq false .int), [(.t 48), (.t 51)], none, 0, 0⟩,
    ⟨(.some 53), .mv, [(.t 52)], none, 0, 0⟩,
    ⟨(.some 54), .mv, [(.t 7)], (.some (53, true)), 0, 0⟩,
    ⟨(.some 55), (.fieldAddr 0), [(.t 4)], (.some (53, true)), 0, 0⟩,
    ⟨(.some 56), (.load false 1), [(.t 55)], (.some (53, true)), 0, 0⟩,
    ⟨(.some 57), (.fieldAddr 1), [(.t 4)], (.some (53, true)), 0, 0⟩,
    ⟨(.some 58), (.load false 1), [(.t 57)], (.some (53, true)), 0, 0⟩,
    ⟨(.some 59), (.fieldAddr 2), [(.t 4)], (.some (53, true)), 0, 0⟩,
    ⟨(.some 60), (.load false 1), [(.t 59)], (.some (53, true)), 0, 0⟩,
    ⟨(.some 61), .mv, [(.t 8)], (.some (53, true)), 0, 0⟩,
    ⟨(.some 62), (.call 10), [(.t 54), (.t 56), (.t 58), (.t 60), (.t 61)], (.some (53, true)), 0, 0⟩,
    ⟨(.some 63), .mv, [(.t 2)], (.some (53, true)), 0, 0⟩,
    ⟨(.some 64), (.call 12), [(.t 62), (.t 63)], (.some (53, true)), 0, 0⟩,
    ⟨(.some 65), .pick, [(.t 53), (.t 64), (.c (.bool false))], none, 0, 0⟩,
    ⟨(.some 66), .mv, [(.t 65)], none, 0, 0⟩,
    ⟨(.some 67), (.call 8), [], (.some (66, true)), 0, 0⟩,
    ⟨(.some 68), .pick, [(.t 66), (.t 67), (.c (.bool false))], none, 0, 0⟩,
    ⟨(.some 6), .mv, [(.t 68)], none, 0, 0⟩])
  .ret))))))
def r4 : List ARes := [(.tmp 6)]
theorem ok4 : FnOk Tryd.prog 4 c4 r4 :=
  ⟨Tryd.f4, _, Tryd.func4, by kernel_rfl, rfl, by kernel_rfl, by kernel_rfl⟩
/-- rill/rilllaw05.SealKnown -/
def c5 : ACode :=
  (.seq
  (.ops [] [
    ⟨(.some 0), .mv, [(.c (.bool false))], none, 0, 0⟩])
  (.seq
  (.ops [1] [
    ⟨(.some 13), (.call 9), [(.c .nils)], none, 0, 0⟩,
    ⟨(.some 1), .mv, [(.t 13)], none, 0, 0⟩])
  (.seq
  (.seq
  (.ops [1, 15] [
    ⟨(.some 14), .mv, [(.t 1)], none, 0, 0⟩,
    ⟨(.some 15), (.eq false .ptr), [(.t 14), (.c .nilp)], none, 0, 0⟩])
  (.cond (.t 15)
    (.seq
    (.ops [0] [
      ⟨(.some 0), .mv, [(.c (.bool false))], none, 0, 0⟩])
    .ret)
    .skip))
  (.seq
  (.ops [1, 2] [
    ⟨(.some 16), (.mkSl 6 [(.int .i64 0), (.int .i64 0), (.int .i64 0), (.int .i64 0), (.int .i64 0), (.int .i64 0)] [(0, 1), (1, 1), (2, 1), (3, 1), (4, 1), (5, 1)]), [(.c (.int .i64 (-9223372036854775808))), (.c (.int .i64 (-1))), (.c (.int .i64 0)), (.c (.int .i64 1099511627776)), (.c (.int .i64 1099511627777)), (.c (.int .i64 9223372036854775807))], none, 0, 0⟩,
    ⟨(.some 2), .mv, [(.t 16)], none, 0, 0⟩])
  (.seq
  (.seq
  (.ops [1, 2, 3] [
    ⟨(.some 3), .mv, [(.c (.int .i64 0))], none, 0, 0⟩])
  (.block 0
    (.loop [1, 2, 3]
      (.seq
      (.seq
      (.ops [1, 2, 3, 20] [
        ⟨(.some 17), .mv, [(.t 3)], none, 0, 0⟩,
        ⟨(.some 18), .mv, [(.t 2)], none, 0, 0⟩,
        ⟨(.some 19), .len, [(.t 18)], none, 0, 0⟩,
        ⟨(.some 20), (.cmp .lss), [(.t 17), (.t 19)], none, 0, 0⟩])
      (.cond (.t 20)
        .skip
        (.exit 0)))
      (.seq
      (.block 1
        (.seq
        (.ops [1, 2, 3, 4] [
          ⟨(.some 4), .mv, [(.c (.int .i64 0))], none, 0, 0⟩])
        (.block 2
          (.loop [1, 2, 3, 4]
            (.seq
            (.seq
            (.ops [1, 2, 3, 4, 26] [
              ⟨(.some 23), .mv, [(.t 4)], none, 0, 0⟩,
              ⟨(.some 24), .mv, [(.t 2)], none, 0, 0⟩,
              ⟨(.some 25), .len, [(.t 24)], none, 0, 0⟩,
              ⟨(.some 26), (.cmp .lss), [(.t 23), (.t 25)], none, 0, 0⟩])
            (.cond (.t 26)
              .skip
              (.exit 2)))
            (.seq
            (.block 3
              (.seq
              (.drawn [1, 2, 3, 4, 5] [
                ⟨(.some 29), .mv, [(.t 1)], none, 0, 0⟩,
                ⟨(.some 30), .mv, [(.t 2)], none, 0, 0⟩,
                ⟨(.some 31), .mv, [(.t 3)], none, 0, 0⟩,
                ⟨(.some 32), (.idxAddr 1), [(.t 30), (.t 31)], none, 0, 0⟩,
                ⟨(.some 33), (.load false 1), [(.t 32)], none, 0, 0⟩,
                ⟨(.some 34), .mv, [(.t 2)], none, 0, 0⟩,
                ⟨(.some 35), .mv, [(.t 4)], none, 0, 0⟩,
                ⟨(.some 36), (.idxAddr 1), [(.t 34), (.t 35)], none, 0, 0⟩,
                ⟨(.some 37), (.load false 1), [(.t 36)], none, 0, 0⟩,
                ⟨(.some 38), (.call 10), [(.t 29), (.t 33), (.t 37), (.c .nils), (.c .nils)], none, 0, 1⟩,
                ⟨(.some 5), .mv, [(.t 38)], none, 1, 1⟩])
              (.seq
              (.ops [1, 2, 3, 4, 5, 6] [
                ⟨(.some 39), .mv, [(.t 3)], none, 0, 0⟩,
                ⟨(.some 40), (.eq false .int), [(.t 39), (.c (.int .i64 2))], none, 0, 0⟩,
                ⟨(.some 41), .mv, [(.t 40)], none, 0, 0⟩,
                ⟨(.some 42), .mv, [(.t 3)], (.some (41, false)), 0, 0⟩,
                ⟨(.some 43), (.eq false .int), [(.t 42), (.c (.int .i64 3))], (.some (41, false)), 0, 0⟩,
                ⟨(.some 44), .pick, [(.t 41), (.c (.bool true)), (.t 43)], none, 0, 0⟩,
                ⟨(.some 45), .mv, [(.t 44)], none, 0, 0⟩,
                ⟨(.some 46), .mv, [(.t 4)], (.some (45, true)), 0, 0⟩,
                ⟨(.some 47), (.eq false .int), [(.t 46), (.c (.int .i64 2))], (.some (45, true)), 0, 0⟩,
                ⟨(.some 48), .mv, [(.t 47)], (.some (45, true)), 0, 0⟩,
                ⟨(.some 49), .mv, [(.t 4)], (.some (48, false)), 0, 0⟩,
                ⟨(.some 50), (.eq false .int), [(.t 49), (.c (.int .i64 3))], (.some (48, false)), 0, 0⟩,
                ⟨(.some 51), .pick, [(.t 48), (.c (.bool true)), (.t 50)], (.some (45, true)), 0, 0⟩,
                ⟨(.some 52), .pick, [(.t 45), (.t 51), (.c (.bool false))], none, 0, 0⟩,
                ⟨(.some 6), .mv, [(.t 52)], none, 0, 0⟩])
              (.seq
              (.seq
              (.ops [1, 2, 3, 4, 5, 6, 66] [
                ⟨(.some 53), .mv, [(.t 5)], none, 0, 0⟩,
                ⟨(.some 54), .len, [(.t 53)], none, 0, 0⟩,
                ⟨(.some 55), (.eq false .int), [(.t 54), (.c (.int .i64 32))], none, 0, 0⟩,
                ⟨(.some 56), .mv, [(.t 6)], none, 0, 0⟩,
                ⟨(.some 57), (.eq true .bool), [(.t 55), (.t 56)], none, 0, 0⟩,
                ⟨(.some 58), .mv, [(.t 57)], none, 0, 0⟩,
                ⟨(.some 59), .mv, [(.t 6)], (.some (58, false)), 0, 0⟩,
                ⟨(.some 60), .not, [(.t 59)], (.some (58, false)), 0, 0⟩,
                ⟨(.some 61), .mv, [(.t 60)], (.some (58, false)), 0, 0⟩,
                ⟨(.some 62), .mv, [(.t 5)], (.some (61, true)), 0, 0⟩,
                ⟨(.some 63), .len, [(.t 62)], (.some (61, true)), 0, 0⟩,
                ⟨(.some 64), (.eq true .int), [(.t 63), (.c (.int .i64 0))], (.some (61, true)), 0, 0⟩,
                ⟨(.some 65), .pick, [(.t 61), (.t 64), (.c (.bool false))], (.some (58, false)), 0, 0⟩,
                ⟨(.some 66), .pick, [(.t 58), (.c (.bool true)), (.t 65)], none, 0, 0⟩])
              (.cond (.t 66)
                (.seq
                (.ops [0] [
                  ⟨(.some 0), .mv, [(.c (.bool false))], none, 0, 0⟩])
                .ret)
                .skip))
              (.seq
              (.drawn [1, 2, 3, 4, 6, 8] [
                ⟨(.some 68), .mv, [(.t 1)], none, 0, 0⟩,
                ⟨(.some 69), .mv, [(.t 2)], none, 0, 0⟩,
                ⟨(.some 70), .mv, [(.t 3)], none, 0, 0⟩,
                ⟨(.some 71), (.idxAddr 1), [(.t 69), (.t 70)], none, 0, 0⟩,
                ⟨(.some 72), (.load false 1), [(.t 71)], none, 0, 0⟩,
                ⟨(.some 73), .mv, [(.t 2)], none, 0, 0⟩,
                ⟨(.some 74), .mv, [(.t 4)], none, 0, 0⟩,
                ⟨(.some 75), (.idxAddr 1), [(.t 73), (.t 74)], none, 0, 0⟩,
                ⟨(.some 76), (.load false 1), [(.t 75)], none, 0, 0⟩,
                ⟨(.some 77), .mv, [(.t 5)], none, 0, 0⟩,
                ⟨(.some 78), (.call 11), [(.t 68), (.t 72), (.t 76), (.c .nils), (.t 77)], none, 0, 1⟩,
                ⟨(.some 67), .mv, [(.t 78)], none, 1, 1⟩,
                ⟨(.some 79), (.extract 0), [(.t 67)], none, 1, 1⟩,
                ⟨(.some 80), (.extract 1), [(.t 67)], none, 1, 1⟩,
                ⟨(.some 7), .mv, [(.t 79)], none, 1, 1⟩,
                ⟨(.some 8), .mv, [(.t 80)], none, 1, 1⟩])
              (.seq
              (.ops [1, 2, 3, 4, 83] [
                ⟨(.some 81), .mv, [(.t 8)], none, 0, 0⟩,
                ⟨(.some 82), .mv, [(.t 6)], none, 0, 0⟩,
                ⟨(.some 83), (.eq true .bool), [(.t 81), (.t 82)], none, 0, 0⟩])
              (.cond (.t 83)
                (.seq
                (.ops [0] [
                  ⟨(.some 0), .mv, [(.c (.bool false))], none, 0, 0⟩])
                .ret)
                .skip)))))))
            (.ops [1, 2, 3, 4] [
              ⟨(.some 27), .mv, [(.t 4)], none, 0, 0⟩,
              ⟨(.some 28), (.arith .add), [(.t 27), (.c (.int .i64 1))], none, 0, 0⟩,
              ⟨(.some 4), .mv, [(.t 28)], none, 0, 0⟩])))))))
      (.ops [1, 2, 3] [
        ⟨(.some 21), .mv, [(.t 3)], none, 0, 0⟩,
        ⟨(.some 22), (.arith .add), [(.t 21), (.c (.int .i64 1))], none, 0, 0⟩,
        ⟨(.some 3), .mv, [(.t 22)], none, 0, 0⟩]))))))
  (.seq
  (.ops [1, 10] [
    ⟨(.some 85), .mv, [(.t 1)], none, 0, 0⟩,
    ⟨(.some 86), (.mkSlice [(.int .u8 0)] 1), [(.c (.int .i64 31)), (.c (.int .i64 31))], none, 0, 0⟩,
    ⟨(.some 87), (.call 11), [(.t 85), (.c (.int .i64 1)), (.c (.int .i64 2)), (.c .nils), (.t 86)], none, 0, 0⟩,
    ⟨(.some 84), .mv, [(.t 87)], none, 0, 0⟩,
    ⟨(.some 88), (.extract 0), [(.t 84)], none, 0, 0⟩,
    ⟨(.some 89), (.extract 1), [(.t 84)], none, 0, 0⟩,
    ⟨(.some 9), .mv, [(.t 88)], none, 0, 0⟩,
    ⟨(.some 10), .mv, [(.t 89)], none, 0, 0⟩])
  (.seq
  (.ops [10, 12] [
    ⟨(.some 91), .mv, [(.t 1)], none, 0, 0⟩,
    ⟨(.some 92), (.call 11), [(.t 91), (.c (.int .i64 1)), (.c (.int .i64 2)), (.c .nils), (.c .nils)], none, 0, 0⟩,
    ⟨(.some 90), .mv, [(.t 92)], none, 0, 0⟩,
    ⟨(.some 93), (.extract 0), [(.t 90)], none, 0, 0⟩,
    ⟨(.some 94), (.extract 1), [(.t 90)], none, 0, 0⟩,
    ⟨(.some 11), .mv, [(.t 93)], none, 0, 0⟩,
    ⟨(.some 12), .mv, [(.t 94)], none, 0, 0⟩])
  (.seq
  (.ops [0] [
    ⟨(.some 95), .mv, [(.t 10)], none, 0, 0⟩,
    ⟨(.some 96), .not, [(.t 95)], none, 0, 0⟩,
    ⟨(.some 97), .mv, [(.t 96)], none, 0, 0⟩,
    ⟨(.some 98), .mv, [(.t 12)], (.some (97, true)), 0, 0⟩,
    ⟨(.some 99), .not, [(.t 98)], (.some (97, true)), 0, 0⟩,
    ⟨(.some 100), .pick, [(.t 97), (.t 99), (.c (.bool false))], none, 0, 0⟩,
    ⟨(.some 101), .mv, [(.t 100)], none, 0, 0⟩,
    ⟨(.some 102), (.call 8), [], (.some (101, true)), 0, 0⟩,
    ⟨(.some 103), .pick, [(.t 101), (.t 102), (.c (.bool false))], none, 0, 0⟩,
    ⟨(.some 0), .mv, [(.t 103)], none, 0, 0⟩])
  .ret))))))))
def r5 : List ARes := [(.tmp 0)]
theorem ok5 : FnOk Tryd.prog 5 c5 r5 :=
  ⟨Tryd.f5, _, Tryd.func5, by kernel_rfl, rfl, by kernel_rfl, by kernel_rfl⟩
/-- rill/rilllaw05.SealSeals -/
def c6 : ACode :=
  (.seq
  (.ops [0, 2, 4] [
    ⟨(.some 4), .box, [(.t 1)], none, 0, 0⟩,
    ⟨(.some 6), .mv, [(.c (.bool false))], none, 0, 0⟩])
  (.seq
  (.seq
  (.ops [0, 2, 4, 32] [
    ⟨(.some 19), .mv, [(.t 0)], none, 0, 0⟩,
    ⟨(.some 20), .len, [(.t 19)], none, 0, 0⟩,
    ⟨(.some 21), (.cmp .gtr), [(.t 20), (.c (.int .i64 4096))], none, 0, 0⟩,
    ⟨(.some 22), .mv, [(.t 21)], none, 0, 0⟩,
    ⟨(.some 23), (.fieldAddr 2), [(.t 4)], (.some (22, false)), 0, 0⟩,
    ⟨(.some 24), (.load false 1), [(.t 23)], (.some (22, false)), 0, 0⟩,
    ⟨(.some 25), .len, [(.t 24)], (.some (22, false)), 0, 0⟩,
    ⟨(.some 26), (.cmp .gtr), [(.t 25), (.c (.int .i64 4096))], (.some (22, false)), 0, 0⟩,
    ⟨(.some 27), .pick, [(.t 22), (.c (.bool true)), (.t 26)], none, 0, 0⟩,
    ⟨(.some 28), .mv, [(.t 27)], none, 0, 0⟩,
    ⟨(.some 29), .mv, [(.t 2)], (.some (28, false)), 0, 0⟩,
    ⟨(.some 30), .len, [(.t 29)], (.some (28, false)), 0, 0⟩,
    ⟨(.some 31), (.cmp .gtr), [(.t 30), (.c (.int .i64 4096))], (.some (28, false)), 0, 0⟩,
    ⟨(.some 32), .pick, [(.t 28), (.c (.bool true)), (.t 31)], none, 0, 0⟩])
  (.cond (.t 32)
    (.seq
    (.ops [6] [
      ⟨(.some 33), (.call 8), [], none, 0, 0⟩,
      ⟨(.some 6), .mv, [(.t 33)], none, 0, 0⟩])
    .ret)
    .skip))
  (.seq
  (.ops [0, 2, 4, 7] [
    ⟨(.some 34), .mv, [(.t 0)], none, 0, 0⟩,
    ⟨(.some 35), (.call 13), [(.t 34)], none, 0, 0⟩,
    ⟨(.some 7), .mv, [(.t 35)], none, 0, 0⟩])
  (.seq
  (.ops [0, 2, 4, 7, 8] [
    ⟨(.some 36), .mv, [(.t 7)], none, 0, 0⟩,
    ⟨(.some 37), .mv, [(.t 0)], none, 0, 0⟩,
    ⟨(.some 38), .len, [(.t 37)], none, 0, 0⟩,
    ⟨(.some 39), (.slice 1 false true false), [(.t 36), (.t 38)], none, 0, 0⟩,
    ⟨(.some 40), (.call 9), [(.t 39)], none, 0, 0⟩,
    ⟨(.some 8), .mv, [(.t 40)], none, 0, 0⟩])
  (.seq
  (.ops [0, 2, 4, 7, 8, 9] [
    ⟨(.some 41), .mv, [(.t 0)], none, 0, 0⟩,
    ⟨(.some 42), (.call 14), [(.t 41)], none, 0, 0⟩,
    ⟨(.some 9), .mv, [(.t 42)], none, 0, 0⟩])
  (.seq
  (.seq
  (.ops [2, 4, 7, 8, 9, 50] [
    ⟨(.some 43), .mv, [(.t 8)], none, 0, 0⟩,
    ⟨(.some 44), (.eq false .ptr), [(.t 43), (.c .nilp)], none, 0, 0⟩,
    ⟨(.some 45), .mv, [(.t 44)], none, 0, 0⟩,
    ⟨(.some 46), .mv, [(.t 7)], (.some (45, false)), 0, 0⟩,
    ⟨(.some 47), .mv, [(.t 0)], (.some (45, false)), 0, 0⟩,
    ⟨(.some 48), (.call 15), [(.t 46), (.t 47)], (.some (45, false)), 0, 0⟩,
    ⟨(.some 49), .not, [(.t 48)], (.some (45, false)), 0, 0⟩,
    ⟨(.some 50), .pick, [(.t 45), (.c (.bool true)), (.t 49)], none, 0, 0⟩])
  (.cond (.t 50)
    (.seq
    (.ops [6] [
      ⟨(.some 6), .mv, [(.c (.bool false))], none, 0, 0⟩])
    .ret)
    .skip))
  (.seq
  (.ops [2, 4, 8, 9] [
    ⟨(.some 51), .mv, [(.t 7)], none, 0, 0⟩,
    ⟨(.some 52), (.call 16), [(.t 51)], none, 0, 0⟩])
  (.seq
  (.ops [2, 4, 8, 9, 10] [
    ⟨(.some 53), (.fieldAddr 2), [(.t 4)], none, 0, 0⟩,
    ⟨(.some 54), (.load false 1), [(.t 53)], none, 0, 0⟩,
    ⟨(.some 55), (.call 13), [(.t 54)], none, 0, 0⟩,
    ⟨(.some 10), .mv, [(.t 55)], none, 0, 0⟩])
  (.seq
  (.ops [2, 4, 8, 9, 10, 11] [
    ⟨(.some 56), .mv, [(.t 2)], none, 0, 0⟩,
    ⟨(.some 57), (.call 13), [(.t 56)], none, 0, 0⟩,
    ⟨(.some 11), .mv, [(.t 57)], none, 0, 0⟩])
  (.seq
  (.ops [2, 4, 8, 9, 10, 11, 12] [
    ⟨(.some 58), .mv, [(.t 10)], none, 0, 0⟩,
    ⟨(.some 59), (.fieldAddr 2), [(.t 4)], none, 0, 0⟩,
    ⟨(.some 60), (.load false 1), [(.t 59)], none, 0, 0⟩,
    ⟨(.some 61), .len, [(.t 60)], none, 0, 0⟩,
    ⟨(.some 62), (.slice 1 false true false), [(.t 58), (.t 61)], none, 0, 0⟩,
    ⟨(.some 12), .mv, [(.t 62)], none, 0, 0⟩])
  (.seq
  (.ops [2, 4, 8, 9, 10, 11, 12, 13] [
    ⟨(.some 63), .mv, [(.t 11)], none, 0, 0⟩,
    ⟨(.some 64), .mv, [(.t 2)], none, 0, 0⟩,
    ⟨(.some 65), .len, [(.t 64)], none, 0, 0⟩,
    ⟨(.some 66), (.slice 1 false true false), [(.t 63), (.t 65)], none, 0, 0⟩,
    ⟨(.some 13), .mv, [(.t 66)], none, 0, 0⟩])
  (.seq
  (.ops [2, 4, 8, 9, 10, 11, 12, 13, 14] [
    ⟨(.some 67), .mv, [(.t 8)], none, 0, 0⟩,
    ⟨(.some 68), (.fieldAddr 0), [(.t 4)], none, 0, 0⟩,
    ⟨(.some 69), (.load false 1), [(.t 68)], none, 0, 0⟩,
    ⟨(.some 70), (.fieldAddr 1), [(.t 4)], none, 0, 0⟩,
    ⟨(.some 71), (.load false 1), [(.t 70)], none, 0, 0⟩,
    ⟨(.some 72), .mv, [(.t 12)], none, 0, 0⟩,
    ⟨(.some 73), .mv, [(.t 13)], none, 0, 0⟩,
    ⟨(.some 74), (.call 10), [(.t 67), (.t 69), (.t 71), (.t 72), (.t 73)], none, 0, 0⟩,
    ⟨(.some 14), .mv, [(.t 74)], none, 0, 0⟩])
  (.seq
  (.ops [2, 4, 8, 9, 10, 11, 13, 14, 15, 16] [
    ⟨(.some 76), .mv, [(.t 8)], none, 0, 0⟩,
    ⟨(.some 77), (.fieldAddr 0), [(.t 4)], none, 0, 0⟩,
    ⟨(.some 78), (.load false 1), [(.t 77)], none, 0, 0⟩,
    ⟨(.some 79), (.fieldAddr 1), [(.t 4)], none, 0, 0⟩,
    ⟨(.some 80), (.load false 1), [(.t 79)], none, 0, 0⟩,
    ⟨(.some 81), .mv, [(.t 12)], none, 0, 0⟩,
    ⟨(.some 82), .mv, [(.t 13)], none, 0, 0⟩,
    ⟨(.some 83), (.call 11), [(.t 76), (.t 78), (.t 80), (.t 81), (.t 82)], none, 0, 0⟩,
    ⟨(.some 75), .mv, [(.t 83)], none, 0, 0⟩,
    ⟨(.some 84), (.extract 0), [(.t 75)], none, 0, 0⟩,
    ⟨(.some 85), (.extract 1), [(.t 75)], none, 0, 0⟩,
    ⟨(.some 15), .mv, [(.t 84)], none, 0, 0⟩,
    ⟨(.some 16), .mv, [(.t 85)], none, 0, 0⟩])
  (.seq
  (.ops [2, 4, 8, 9, 10, 11, 13, 14, 15, 16, 17, 18] [
    ⟨(.some 87), .mv, [(.t 9)], none, 0, 0⟩,
    ⟨(.some 88), (.fieldAddr 0), [(.t 4)], none, 0, 0⟩,
    ⟨(.some 89), (.load false 1), [(.t 88)], none, 0, 0⟩,
    ⟨(.some 90), (.fieldAddr 1), [(.t 4)], none, 0, 0⟩,
    ⟨(.some 91), (.load false 1), [(.t 90)], none, 0, 0⟩,
    ⟨(.some 92), (.fieldAddr 2), [(.t 4)], none, 0, 0⟩,
    ⟨(.some 93), (.load false 1), [(.t 92)], none, 0, 0⟩,
    ⟨(.some 94), .mv, [(.t 2)], none, 0, 0⟩,
    ⟨(.some 95), (.call 17), [(.t 87), (.t 89), (.t 91), (.t 93), (.t 94)], none, 0, 0⟩,
    ⟨(.some 86), .mv, [(.t 95)], none, 0, 0⟩,
    ⟨(.some 96), (.extract 0), [(.t 86)], none, 0, 0⟩,
    ⟨(.some 97), (.extract 1), [(.t 86)], none, 0, 0⟩,
    ⟨(.some 17), .mv, [(.t 96)], none, 0, 0⟩,
    ⟨(.some 18), .mv, [(.t 97)], none, 0, 0⟩])
  (.seq
  (.seq
  (.ops [2, 4, 10, 11, 14, 15, 129] [
    ⟨(.some 98), .mv, [(.t 14)], none, 0, 0⟩,
    ⟨(.some 99), .mv, [(.t 9)], none, 0, 0⟩,
    ⟨(.some 100), (.fieldAddr 0), [(.t 4)], none, 0, 0⟩,
    ⟨(.some 101), (.load false 1), [(.t 100)], none, 0, 0⟩,
    ⟨(.some 102), (.fieldAddr 1), [(.t 4)], none, 0, 0⟩,
    ⟨(.some 103), (.load false 1), [(.t 102)], none, 0, 0⟩,
    ⟨(.some 104), (.fieldAddr 2), [(.t 4)], none, 0, 0⟩,
    ⟨(.some 105), (.load false 1), [(.t 104)], none, 0, 0⟩,
    ⟨(.some 106), .mv, [(.t 2)], none, 0, 0⟩,
    ⟨(.some 107), (.call 18), [(.t 99), (.t 101), (.t 103), (.t 105), (.t 106)], none, 0, 0⟩,
    ⟨(.some 108), (.call 12), [(.t 98), (.t 107)], none, 0, 0⟩,
    ⟨(.some 109), .not, [(.t 108)], none, 0, 0⟩,
    ⟨(.some 110), .mv, [(.t 109)], none, 0, 0⟩,
    ⟨(.some 111), .mv, [(.t 16)], (.some (110, false)), 0, 0⟩,
    ⟨(.some 112), .mv, [(.t 18)], (.some (110, false)), 0, 0⟩,
    ⟨(.some 113), (.eq true .bool), [(.t 111), (.t 112)], (.some (110, false)), 0, 0⟩,
    ⟨(.some 114), .pick, [(.t 110), (.c (.bool true)), (.t 113)], none, 0, 0⟩,
    ⟨(.some 115), .mv, [(.t 114)], none, 0, 0⟩,
    ⟨(.some 116), .mv, [(.t 15)], (.some (115, false)), 0, 0⟩,
    ⟨(.some 117), .mv, [(.t 17)], (.some (115, false)), 0, 0⟩,
    ⟨(.some 118), (.call 12), [(.t 116), (.t 117)], (.some (115, false)), 0, 0⟩,
    ⟨(.some 119), .not, [(.t 118)], (.some (115, false)), 0, 0⟩,
    ⟨(.some 120), .pick, [(.t 115), (.c (.bool true)), (.t 119)], none, 0, 0⟩,
    ⟨(.some 121), .mv, [(.t 120)], none, 0, 0⟩,
    ⟨(.some 122), .mv, [(.t 8)], (.some (121, false)), 0, 0⟩,
    ⟨(.some 123), .mv, [(.t 13)], (.some (121, false)), 0, 0⟩,
    ⟨(.some 124), (.call 19), [(.t 122), (.t 123)], (.some (121, false)), 0, 0⟩,
    ⟨(.some 125), .mv, [(.t 9)], (.some (121, false)), 0, 0⟩,
    ⟨(.some 126), .mv, [(.t 2)], (.some (121, false)), 0, 0⟩,
    ⟨(.some 127), (.call 20), [(.t 125), (.t 126)], (.some (121, false)), 0, 0⟩,
    ⟨(.some 128), (.eqAgg true (List.replicate 32 .i)), [(.t 124), (.t 127)], (.some (121, false)), 0, 0⟩,
    ⟨(.some 129), .pick, [(.t 121), (.c (.bool true)), (.t 128)], none, 0, 0⟩])
  (.cond (.t 129)
    (.seq
    (.ops [6] [
      ⟨(.some 6), .mv, [(.c (.bool false))], none, 0, 0⟩])
    .ret)
    .skip))
  (.seq
  (.ops [2, 4, 10, 11, 15] [
    ⟨(.some 130), .mv, [(.t 14)], none, 0, 0⟩,
    ⟨(.some 131), (.call 16), [(.t 130)], none, 0, 0⟩])
  (.seq
  (.ops [2, 4, 10, 11] [
    ⟨(.some 132), .mv, [(.t 15)], none, 0, 0⟩,
    ⟨(.some 133), (.call 16), [(.t 132)], none, 0, 0⟩])
  (.seq
  (.ops [6] [
    ⟨(.some 134), .mv, [(.t 10)], none, 0, 0⟩,
    ⟨(.some 135), (.fieldAddr 2), [(.t 4)], none, 0, 0⟩,
    ⟨(.some 136), (.load false 1), [(.t 135)], none, 0, 0⟩,
    ⟨(.some 137), (.call 15), [(.t 134), (.t 136)], none, 0, 0⟩,
    ⟨(.some 138), .mv, [(.t 137)], none, 0, 0⟩,
    ⟨(.some 139), .mv, [(.t 11)], (.some (138, true)), 0, 0⟩,
    ⟨(.some 140), .mv, [(.t 2)], (.some (138, true)), 0, 0⟩,
    ⟨(.some 141), (.call 15), [(.t 139), (.t 140)], (.some (138, true)), 0, 0⟩,
    ⟨(.some 142), .pick, [(.t 138), (.t 141), (.c (.bool false))], none, 0, 0⟩,
    ⟨(.some 143), .mv, [(.t 142)], none, 0, 0⟩,
    ⟨(.some 144), (.call 8), [], (.some (143, true)), 0, 0⟩,
    ⟨(.some 145), .pick, [(.t 143), (.t 144), (.c (.bool false))], none, 0, 0⟩,
    ⟨(.some 6), .mv, [(.t 145)], none, 0, 0⟩])
  .ret))))))))))))))))))
def r6 : List ARes := [(.tmp 6)]
theorem ok6 : FnOk Tryd.prog 6 c6 r6 :=
  ⟨Tryd.f6, _, Tryd.func6, by kernel_rfl, rfl, by kernel_rfl, by kernel_rfl⟩
/-- rill/rilllaw05.SealEither -/
def c7 : ACode :=
  (.seq
  (.ops [0, 2, 4] [
    ⟨(.some 4), .box, [(.t 1)], none, 0, 0⟩,
    ⟨(.some 6), .mv, [(.c (.bool false))], none, 0, 0⟩])
  (.seq
  (.seq
  (.ops [0, 2, 4, 22] [
    ⟨(.some 14), .mv, [(.t 0)], none, 0, 0⟩,
    ⟨(.some 15), .len, [(.t 14)], none, 0, 0⟩,
    ⟨(.some 16), (.cmp .gtr), [(.t 15), (.c (.int .i64 4096))], none, 0, 0⟩,
    ⟨(.some 17), .mv, [(.t 16)], none, 0, 0⟩,
    ⟨(.some 18), (.fieldAddr 2), [(.t 4)], (.some (17, false)), 0, 0⟩,
    ⟨(.some 19), (.load false 1), [(.t 18)], (.some (17, false)), 0, 0⟩,
    ⟨(.some 20), .len, [(.t 19)], (.some (17, false)), 0, 0⟩,
    ⟨(.some 21), (.cmp .gtr), [(.t 20), (.c (.int .i64 4096))], (.some (17, false)), 0, 0⟩,
    ⟨(.some 22), .pick, [(.t 17), (.c (.bool true)), (.t 21)], none, 0, 0⟩])
  (.cond (.t 22)
    (.seq
    (.ops [6] [
      ⟨(.some 23), (.call 8), [], none, 0, 0⟩,
      ⟨(.some 6), .mv, [(.t 23)], none, 0, 0⟩])
    .ret)
    .skip))
  (.seq
  (.ops [0, 2, 4, 7] [
    ⟨(.some 24), .mv, [(.t 0)], none, 0, 0⟩,
    ⟨(.some 25), (.call 9), [(.t 24)], none, 0, 0⟩,
    ⟨(.some 7), .mv, [(.t 25)], none, 0, 0⟩])
  (.seq
  (.ops [2, 4, 7, 8] [
    ⟨(.some 26), .mv, [(.t 0)], none, 0, 0⟩,
    ⟨(.some 27), (.call 21), [(.t 26)], none, 0, 0⟩,
    ⟨(.some 28), (.call 9), [(.t 27)], none, 0, 0⟩,
    ⟨(.some 8), .mv, [(.t 28)], none, 0, 0⟩])
  (.seq
  (.seq
  (.ops [2, 4, 7, 8, 9] [
    ⟨(.some 9), .mv, [(.c (.int .i64 0))], none, 0, 0⟩])
  (.block 0
    (.loop [2, 4, 7, 8, 9]
      (.seq
      (.seq
      (.ops [2, 4, 7, 8, 9, 36] [
        ⟨(.some 29), .mv, [(.t 9)], none, 0, 0⟩,
        ⟨(.some 30), .mv, [(.t 2)], none, 0, 0⟩,
        ⟨(.some 31), .len, [(.t 30)], none, 0, 0⟩,
        ⟨(.some 32), (.cmp .lss), [(.t 29), (.t 31)], none, 0, 0⟩,
        ⟨(.some 33), .mv, [(.t 32)], none, 0, 0⟩,
        ⟨(.some 34), .mv, [(.t 9)], (.some (33, true)), 0, 0⟩,
        ⟨(.some 35), (.cmp .lss), [(.t 34), (.c (.int .i64 10))], (.some (33, true)), 0, 0⟩,
        ⟨(.some 36), .pick, [(.t 33), (.t 35), (.c (.bool false))], none, 0, 0⟩])
      (.cond (.t 36)
        .skip
        (.exit 0)))
      (.seq
      (.block 1
        (.seq
        (.seq
        (.ops [2, 4, 7, 8, 9, 44] [
          ⟨(.some 39), .mv, [(.t 2)], none, 0, 0⟩,
          ⟨(.some 40), .mv, [(.t 9)], none, 0, 0⟩,
          ⟨(.some 41), (.idxAddr 1), [(.t 39), (.t 40)], none, 0, 0⟩,
          ⟨(.some 42), (.load false 1), [(.t 41)], none, 0, 0⟩,
          ⟨(.some 43), .len, [(.t 42)], none, 0, 0⟩,
          ⟨(.some 44), (.cmp .gtr), [(.t 43), (.c (.int .i64 4096))], none, 0, 0⟩])
        (.cond (.t 44)
          (.seq
          (.ops [6] [
            ⟨(.some 45), (.call 8), [], none, 0, 0⟩,
            ⟨(.some 6), .mv, [(.t 45)], none, 0, 0⟩])
          .ret)
          .skip))
        (.seq
        (.drawn [2, 4, 7, 8, 9, 10] [
          ⟨(.some 46), .mv, [(.t 7)], none, 0, 0⟩,
          ⟨(.some 47), (.fieldAddr 0), [(.t 4)], none, 0, 0⟩,
          ⟨(.some 48), (.load false 1), [(.t 47)], none, 0, 0⟩,
          ⟨(.some 49), (.fieldAddr 1), [(.t 4)], none, 0, 0⟩,
          ⟨(.some 50), (.load false 1), [(.t 49)], none, 0, 0⟩,
          ⟨(.some 51), (.fieldAddr 2), [(.t 4)], none, 0, 0⟩,
          ⟨(.some 52), (.load false 1), [(.t 51)], none, 0, 0⟩,
          ⟨(.some 53), .mv, [(.t 2)], none, 0, 0⟩,
          ⟨(.some 54), .mv, [(.t 9)], none, 0, 0⟩,
          ⟨(.some 55), (.idxAddr 1), [(.t 53), (.t 54)], none, 0, 0⟩,
          ⟨(.some 56), (.load false 1), [(.t 55)], none, 0, 0⟩,
          ⟨(.some 57), (.call 10), [(.t 46), (.t 48), (.t 50), (.t 52), (.t 56)], none, 0, 1⟩,
          ⟨(.some 10), .mv, [(.t 57)], none, 1, 1⟩])
        (.seq
        (.ops [2, 4, 7, 8, 9, 10] [
          ⟨(.some 58), .mv, [(.t 8)], none, 0, 0⟩,
          ⟨(.some 59), .mv, [(.t 9)], none, 0, 0⟩,
          ⟨(.some 60), .mv, [(.t 9)], none, 0, 0⟩,
          ⟨(.some 61), .mv, [(.t 2)], none, 0, 0⟩,
          ⟨(.some 62), .mv, [(.t 9)], none, 0, 0⟩,
          ⟨(.some 63), (.idxAddr 1), [(.t 61), (.t 62)], none, 0, 0⟩,
          ⟨(.some 64), (.load false 1), [(.t 63)], none, 0, 0⟩,
          ⟨(.some 65), (.call 11), [(.t 58), (.t 59), (.t 60), (.c .nils), (.t 64)], none, 0, 0⟩])
        (.seq
        (.drawn [2, 4, 7, 8, 9, 10, 11] [
          ⟨(.some 66), .mv, [(.t 8)], none, 0, 0⟩,
          ⟨(.some 67), (.fieldAddr 0), [(.t 4)], none, 0, 0⟩,
          ⟨(.some 68), (.load false 1), [(.t 67)], none, 0, 0⟩,
          ⟨(.some 69), (.fieldAddr 1), [(.t 4)], none, 0, 0⟩,
          ⟨(.some 70), (.load false 1), [(.t 69)], none, 0, 0⟩,
          ⟨(.some 71), (.fieldAddr 2), [(.t 4)], none, 0, 0⟩,
          ⟨(.some 72), (.load false 1), [(.t 71)], none, 0, 0⟩,
          ⟨(.some 73), .mv, [(.t 2)], none, 0, 0⟩,
          ⟨(.some 74), .mv, [(.t 9)], none, 0, 0⟩,
          ⟨(.some 75), (.idxAddr 1), [(.t 73), (.t 74)], none, 0, 0⟩,
          ⟨(.some 76), (.load false 1), [(.t 75)], none, 0, 0⟩,
          ⟨(.some 77), (.call 10), [(.t 66), (.t 68), (.t 70), (.t 72), (.t 76)], none, 0, 1⟩,
          ⟨(.some 11), .mv, [(.t 77)], none, 1, 1⟩])
        (.seq
        (.ops [2, 4, 7, 8, 9, 10, 11, 12, 13] [
          ⟨(.some 79), .mv, [(.t 8)], none, 0, 0⟩,
          ⟨(.some 80), (.fieldAddr 0), [(.t 4)], none, 0, 0⟩,
          ⟨(.some 81), (.load false 1), [(.t 80)], none, 0, 0⟩,
          ⟨(.some 82), (.fieldAddr 1), [(.t 4)], none, 0, 0⟩,
          ⟨(.some 83), (.load false 1), [(.t 82)], none, 0, 0⟩,
          ⟨(.some 84), (.fieldAddr 2), [(.t 4)], none, 0, 0⟩,
          ⟨(.some 85), (.load false 1), [(.t 84)], none, 0, 0⟩,
          ⟨(.some 86), .mv, [(.t 10)], none, 0, 0⟩,
          ⟨(.some 87), (.call 11), [(.t 79), (.t 81), (.t 83), (.t 85), (.t 86)], none, 0, 0⟩,
          ⟨(.some 78), .mv, [(.t 87)], none, 0, 0⟩,
          ⟨(.some 88), (.extract 0), [(.t 78)], none, 0, 0⟩,
          ⟨(.some 89), (.extract 1), [(.t 78)], none, 0, 0⟩,
          ⟨(.some 12), .mv, [(.t 88)], none, 0, 0⟩,
          ⟨(.some 13), .mv, [(.t 89)], none, 0, 0⟩])
        (.seq
        (.drawn [2, 4, 7, 8, 9, 127] [
          ⟨(.some 90), .mv, [(.t 10)], none, 0, 0⟩,
          ⟨(.some 91), .mv, [(.t 11)], none, 0, 0⟩,
          ⟨(.some 92), (.call 12), [(.t 90), (.t 91)], none, 0, 1⟩,
          ⟨(.some 93), .not, [(.t 92)], none, 1, 1⟩,
          ⟨(.some 94), .mv, [(.t 93)], none, 1, 1⟩,
          ⟨(.some 95), .mv, [(.t 13)], (.some (94, false)), 1, 1⟩,
          ⟨(.some 96), .mv, [(.t 10)], (.some (94, false)), 1, 1⟩,
          ⟨(.some 97), .len, [(.t 96)], (.some (94, false)), 1, 1⟩,
          ⟨(.some 98), (.cmp .gtr), [(.t 97), (.c (.int .i64 0))], (.some (94, false)), 1, 1⟩,
          ⟨(.some 99), (.eq true .bool), [(.t 95), (.t 98)], (.some (94, false)), 1, 1⟩,
          ⟨(.some 100), .pick, [(.t 94), (.c (.bool true)), (.t 99)], none, 1, 1⟩,
          ⟨(.some 101), .mv, [(.t 100)], none, 1, 1⟩,
          ⟨(.some 102), .mv, [(.t 13)], (.some (101, false)), 1, 1⟩,
          ⟨(.some 103), .mv, [(.t 102)], (.some (101, false)), 1, 1⟩,
          ⟨(.some 104), .mv, [(.t 12)], (.some (103, true)), 1, 1⟩,
          ⟨(.some 105), .mv, [(.t 2)], (.some (103, true)), 1, 1⟩,
          ⟨(.some 106), .mv, [(.t 9)], (.some (103, true)), 1, 1⟩,
          ⟨(.some 107), (.idxAddr 1), [(.t 105), (.t 106)], (.some (103, true)), 1, 1⟩,
          ⟨(.some 108), (.load false 1), [(.t 107)], (.some (103, true)), 1, 1⟩,
          ⟨(.some 109), (.call 12), [(.t 104), (.t 108)], (.some (103, true)), 1, 2⟩,
          ⟨(.some 110), .not, [(.t 109)], (.some (103, true)), 2, 2⟩,
          ⟨(.some 111), .pick, [(.t 103), (.t 110), (.c (.bool false))], (.some (101, false)), 2, 2⟩,
          ⟨(.some 112), .pick, [(.t 101), (.c (.bool true)), (.t 111)], none, 2, 2⟩,
          ⟨(.some 113), .mv, [(.t 112)], none, 2, 2⟩,
          ⟨(.some 114), .mv, [(.t 7)], (.some (113, false)), 2, 2⟩,
          ⟨(.some 115), .mv, [(.t 2)], (.some (113, false)), 2, 2⟩,
          ⟨(.some 116), .mv, [(.t 9)], (.some (113, false)), 2, 2⟩,
          ⟨(.some 117), (.idxAddr 1), [(.t 115), (.t 116)], (.some (113, false)), 2, 2⟩,
          ⟨(.some 118), (.load false 1), [(.t 117)], (.some (113, false)), 2, 2⟩,
          ⟨(.some 119), (.call 19), [(.t 114), (.t 118)], (.some (113, false)), 2, 3⟩,
          ⟨(.some 120), .mv, [(.t 8)], (.some (113, false)), 2, 3⟩,
          ⟨(.some 121), .mv, [(.t 2)], (.some (113, false)), 2, 3⟩,
          ⟨(.some 122), .mv, [(.t 9)], (.some (113, false)), 2, 3⟩,
          ⟨(.some 123), (.idxAddr 1), [(.t 121), (.t 122)], (.some (113, false)), 2, 3⟩,
          ⟨(.some 124), (.load false 1), [(.t 123)], (.some (113, false)), 2, 3⟩,
          ⟨(.some 125), (.call 19), [(.t 120), (.t 124)], (.some (113, false)), 3, 4⟩,
          ⟨(.some 126), (.eqAgg true (List.replicate 32 .i)), [(.t 119), (.t 125)], (.some (113, false)), 4, 4⟩,
          ⟨(.some 127), .pick, [(.t 113), (.c (.bool true)), (.t 126)], none, 4, 4⟩])
        (.cond (.t 127)
          (.seq
          (.ops [6] [
            ⟨(.some 6), .mv, [(.c (.bool false))], none, 0, 0⟩])
          .ret)
          .skip))))))))
      (.ops [2, 4, 7, 8, 9] [
        ⟨(.some 37), .mv, [(.t 9)], none, 0, 0⟩,
        ⟨(.some 38), (.arith .add), [(.t 37), (.c (.int .i64 1))], none, 0, 0⟩,
        ⟨(.some 9), .mv, [(.t 38)], none, 0, 0⟩]))))))
  (.seq
  (.ops [6] [
    ⟨(.some 128), (.call 8), [], none, 0, 0⟩,
    ⟨(.some 6), .mv, [(.t 128)], none, 0, 0⟩])
  .ret))))))
def r7 : List ARes := [(.tmp 6)]
theorem ok7 : FnOk Tryd.prog 7 c7 r7 :=
  ⟨Tryd.f7, _, Tryd.func7, by kernel_rfl, rfl, by kernel_rfl, by kernel_rfl⟩
/-- rill/rilllaw05.known -/
def c8 : ACode :=
  (.seq
  (.ops [] [
    ⟨(.some 0), .mv, [(.c (.bool false))], none, 0, 0⟩])
  (.seq
  (.ops [1] [
    ⟨(.some 5), (.mkSl 3 [(.int .u8 0), (.int .u8 0), (.int .u8 0)] [(0, 1), (1, 1), (2, 1)]), [(.c (.int .u8 107)), (.c (.int .u8 101)), (.c (.int .u8 121))], none, 0, 0⟩,
    ⟨(.some 6), .mark, [(.t 5)], none, 0, 0⟩,
    ⟨(.some 7), (.call 9), [(.t 6)], none, 0, 0⟩,
    ⟨(.some 8), (.iface 26), [(.t 7)], none, 0, 0⟩,
    ⟨(.some 1), .mv, [(.t 8)], none, 0, 0⟩])
  (.seq
  (.ops [1, 2] [
    ⟨(.some 9), .mv, [(.t 1)], none, 0, 0⟩,
    ⟨(.some 10), (.mkSl 4 [(.int .u8 0), (.int .u8 0), (.int .u8 0), (.int .u8 0)] [(0, 1), (1, 1), (2, 1), (3, 1)]), [(.c (.int .u8 104)), (.c (.int .u8 101)), (.c (.int .u8 97)), (.c (.int .u8 100))], none, 0, 0⟩,
    ⟨(.some 11), .mark, [(.t 10)], none, 0, 0⟩,
    ⟨(.some 12), (.mkSl 5 [(.int .u8 0), (.int .u8 0), (.int .u8 0), (.int .u8 0), (.int .u8 0)] [(0, 1), (1, 1), (2, 1), (3, 1), (4, 1)]), [(.c (.int .u8 112)), (.c (.int .u8 108)), (.c (.int .u8 97)), (.c (.int .u8 105)), (.c (.int .u8 110))], none, 0, 0⟩,
    ⟨(.some 13), .mark, [(.t 12)], none, 0, 0⟩,
    ⟨(.some 14), (.invoke "Seal"), [(.t 9), (.c (.int .i64 1)), (.c (.int .i64 2)), (.t 11), (.t 13)], none, 0, 0⟩,
    ⟨(.some 2), .mv, [(.t 14)], none, 0, 0⟩])
  (.seq
  (.ops [1, 2, 3, 4] [
    ⟨(.some 16), .mv, [(.t 1)], none, 0, 0⟩,
    ⟨(.some 17), (.mkSl 4 [(.int .u8 0), (.int .u8 0), (.int .u8 0), (.int .u8 0)] [(0, 1), (1, 1), (2, 1), (3, 1)]), [(.c (.int .u8 104)), (.c (.int .u8 101)), (.c (.int .u8 97)), (.c (.int .u8 100))], none, 0, 0⟩,
    ⟨(.some 18), .mark, [(.t 17)], none, 0, 0⟩,
    ⟨(.some 19), .mv, [(.t 2)], none, 0, 0⟩,
    ⟨(.some 20), (.invoke "Open"), [(.t 16), (.c (.int .i64 1)), (.c (.int .i64 2)), (.t 18), (.t 19)], none, 0, 0⟩,
    ⟨(.some 15), .mv, [(.t 20)], none, 0, 0⟩,
    ⟨(.some 21), (.extract 0), [(.t 15)], none, 0, 0⟩,
    ⟨(.some 22), (.extract 1), [(.t 15)], none, 0, 0⟩,
    ⟨(.some 3), .mv, [(.t 21)], none, 0, 0⟩,
    ⟨(.some 4), .mv, [(.t 22)], none, 0, 0⟩])
  (.seq
  (.ops [0] [
    ⟨(.some 23), .mv, [(.t 2)], none, 0, 0⟩,
    ⟨(.some 24), .len, [(.t 23)], none, 0, 0⟩,
    ⟨(.some 25), (.eq false .int), [(.t 24), (.c (.int .i64 37))], none, 0, 0⟩,
    ⟨(.some 26), .mv, [(.t 25)], none, 0, 0⟩,
    ⟨(.some 27), .mv, [(.t 4)], (.some (26, true)), 0, 0⟩,
    ⟨(.some 28), .pick, [(.t 26), (.t 27), (.c (.bool false))], none, 0, 0⟩,
    ⟨(.some 29), .mv, [(.t 28)], none, 0, 0⟩,
    ⟨(.some 30), .mv, [(.t 3)], (.some (29, true)), 0, 0⟩,
    ⟨(.some 31), (.mkSl 5 [(.int .u8 0), (.int .u8 0), (.int .u8 0), (.int .u8 0), (.int .u8 0)] [(0, 1), (1, 1), (2, 1), (3, 1), (4, 1)]), [(.c (.int .u8 112)), (.c (.int .u8 108)), (.c (.int .u8 97)), (.c (.int .u8 105)), (.c (.int .u8 110))], (.some (29, true)), 0, 0⟩,
    ⟨(.some 32), .mark, [(.t 31)], (.some (29, true)), 0, 0⟩,
    ⟨(.some 33), (.call 12), [(.t 30), (.t 32)], (.some (29, true)), 0, 0⟩,
    ⟨(.some 34), .pick, [(.t 29), (.t 33), (.c (.bool false))], none, 0, 0⟩,
    ⟨(.some 35), .mv, [(.t 34)], none, 0, 0⟩,
    ⟨(.some 36), .mv, [(.t 1)], (.some (35, true)), 0, 0⟩,
    ⟨(.some 37), (.invoke "Seal"), [(.t 36), (.c (.int .i64 1)), (.c (.int .i64 1099511627777)), (.c .nils), (.c .nils)], (.some (35, true)), 0, 0⟩,
    ⟨(.some 38), .len, [(.t 37)], (.some (35, true)), 0, 0⟩,
    ⟨(.some 39), (.eq false .int), [(.t 38), (.c (.int .i64 0))], (.some (35, true)), 0, 0⟩,
    ⟨(.some 40), .pick, [(.t 35), (.t 39), (.c (.bool false))], none, 0, 0⟩,
    ⟨(.some 0), .mv, [(.t 40)], none, 0, 0⟩])
  .ret)))))
def r8 : List ARes := [(.tmp 0)]
theorem ok8 : FnOk Tryd.prog 8 c8 r8 :=
  ⟨Tryd.f8, _, Tryd.func8, by kernel_rfl, rfl, by kernel_rfl, by kernel_rfl⟩
/-- rill/seal.New -/
def c9 : ACode :=
  (.seq
  (.ops [0] [
    ⟨(.some 2), .mv, [(.c .nilp)], none, 0, 0⟩])
  (.seq
  (.ops [3, 4] [
    ⟨(.some 7), .mv, [(.t 0)], none, 0, 0⟩,
    ⟨(.some 8), (.call 22), [(.t 7), (.c (.str ⟨#[101, 110, 99, 114, 121, 112, 116]⟩))], none, 0, 0⟩,
    ⟨(.some 9), .mv, [(.t 0)], none, 0, 0⟩,
    ⟨(.some 10), (.call 22), [(.t 9), (.c (.str ⟨#[97, 117, 116, 104, 101, 110, 116, 105, 99, 97, 116, 101]⟩))], none, 0, 0⟩,
    ⟨(.some 3), (.alloc (List.replicate 32 (.int .u8 0))), [], none, 0, 0⟩,
    ⟨(.some 4), (.alloc (List.replicate 32 (.int .u8 0))), [], none, 0, 0⟩,
    ⟨none, (.store 32), [(.t 3), (.t 8)], none, 0, 0⟩,
    ⟨none, (.store 32), [(.t 4), (.t 10)], none, 0, 0⟩])
  (.seq
  (.ops [4, 5] [
    ⟨(.some 12), (.sliceArr 32 1 false true false), [(.t 3), (.c (.int .i64 16))], none, 0, 0⟩,
    ⟨(.some 13), (.call 23), [(.t 12)], none, 0, 0⟩,
    ⟨(.some 11), .mv, [(.t 13)], none, 0, 0⟩,
    ⟨(.some 14), (.extract 0), [(.t 11)], none, 0, 0⟩,
    ⟨(.some 15), (.extract 1), [(.t 11)], none, 0, 0⟩,
    ⟨(.some 5), .mv, [(.t 14)], none, 0, 0⟩,
    ⟨(.some 6), .mv, [(.t 15)], none, 0, 0⟩])
  (.seq
  (.ops [2] [
    ⟨(.some 16), .mv, [(.t 5)], none, 0, 0⟩,
    ⟨(.some 17), (.sliceArr 32 1 false false false), [(.t 4)], none, 0, 0⟩,
    ⟨(.some 18), (.build [.nilp, .nils] [(0, 1), (1, 1)]), [(.t 16), (.t 17)], none, 0, 0⟩,
    ⟨(.some 19), .box, [(.t 18)], none, 0, 0⟩,
    ⟨(.some 2), .mv, [(.t 19)], none, 0, 0⟩])
  .ret))))
def r9 : List ARes := [(.tmp 2)]
theorem ok9 : FnOk Tryd.prog 9 c9 r9 :=
  ⟨Tryd.f9, _, Tryd.func9, by kernel_rfl, rfl, by kernel_rfl, by kernel_rfl⟩
/-- (*rill/seal.Box).Seal -/
def c10 : ACode :=
  (.seq
  (.ops [0, 1, 2, 3, 4] [
    ⟨(.some 10), .mv, [(.c .nils)], none, 0, 0⟩])
  (.seq
  (.seq
  (.ops [0, 1, 2, 3, 4, 17] [
    ⟨(.some 13), .mv, [(.t 1)], none, 0, 0⟩,
    ⟨(.some 14), .mv, [(.t 2)], none, 0, 0⟩,
    ⟨(.some 15), (.mkSl 2 [(.int .i64 0), (.int .i64 0)] [(0, 1), (1, 1)]), [(.t 13), (.t 14)], none, 0, 0⟩,
    ⟨(.some 16), (.call 24), [(.t 15)], none, 0, 0⟩,
    ⟨(.some 17), .not, [(.t 16)], none, 0, 0⟩])
  (.cond (.t 17)
    (.seq
    (.ops [10] [
      ⟨(.some 10), .mv, [(.c .nils)], none, 0, 0⟩])
    .ret)
    .skip))
  (.seq
  (.ops [0, 1, 2, 3, 11] [
    ⟨(.some 18), .mv, [(.t 0)], none, 0, 0⟩,
    ⟨(.some 19), .nilCheck, [(.t 18)], none, 0, 0⟩,
    ⟨(.some 20), (.fieldAddr 0), [(.t 19)], none, 0, 0⟩,
    ⟨(.some 21), (.load false 1), [(.t 20)], none, 0, 0⟩,
    ⟨(.some 22), .mv, [(.t 1)], none, 0, 0⟩,
    ⟨(.some 23), .mv, [(.t 2)], none, 0, 0⟩,
    ⟨(.some 24), .mv, [(.t 4)], none, 0, 0⟩,
    ⟨(.some 25), (.call 25), [(.t 21), (.t 22), (.t 23), (.t 24)], none, 0, 0⟩,
    ⟨(.some 11), .mv, [(.t 25)], none, 0, 0⟩])
  (.seq
  (.ops [11, 12] [
    ⟨(.some 26), .mv, [(.t 0)], none, 0, 0⟩,
    ⟨(.some 27), .mv, [(.t 1)], none, 0, 0⟩,
    ⟨(.some 28), .mv, [(.t 2)], none, 0, 0⟩,
    ⟨(.some 29), .mv, [(.t 3)], none, 0, 0⟩,
    ⟨(.some 30), .mv, [(.t 11)], none, 0, 0⟩,
    ⟨(.some 31), (.call 26), [(.t 26), (.t 27), (.t 28), (.t 29), (.t 30)], none, 0, 0⟩,
    ⟨(.some 12), (.alloc (List.replicate 32 (.int .u8 0))), [], none, 0, 0⟩,
    ⟨none, (.store 32), [(.t 12), (.t 31)], none, 0, 0⟩])
  (.seq
  (.ops [10] [
    ⟨(.some 32), .mv, [(.t 11)], none, 0, 0⟩,
    ⟨(.some 33), (.sliceArr 32 1 false false false), [(.t 12)], none, 0, 0⟩,
    ⟨(.some 34), (.mkSl 2 [.nils, .nils] [(0, 1), (1, 1)]), [(.t 32), (.t 33)], none, 0, 0⟩,
    ⟨(.some 35), (.call 27), [(.t 34)], none, 0, 0⟩,
    ⟨(.some 10), .mv, [(.t 35)], none, 0, 0⟩])
  .ret)))))
def r10 : List ARes := [(.tmp 10)]
theorem ok10 : FnOk Tryd.prog 10 c10 r10 :=
  ⟨Tryd.f10, _, Tryd.func10, by kernel_rfl, rfl, by kernel_rfl, by kernel_rfl⟩
/-- (*rill/seal.Box).Open -/
def c11 : ACode :=
  (.seq
  (.ops [0, 1, 2, 3, 4] [
    ⟨(.some 10), .mv, [(.c .nils)], none, 0, 0⟩,
    ⟨(.some 11), .mv, [(.c (.bool false))], none, 0, 0⟩])
  (.seq
  (.ops [0, 1, 2, 3, 4, 12] [
    ⟨(.some 13), .mv, [(.t 4)], none, 0, 0⟩,
    ⟨(.some 14), .len, [(.t 13)], none, 0, 0⟩,
    ⟨(.some 15), (.arith .sub), [(.t 14), (.c (.int .i64 32))], none, 0, 0⟩,
    ⟨(.some 12), .mv, [(.t 15)], none, 0, 0⟩])
  (.seq
  (.seq
  (.ops [0, 1, 2, 3, 4, 12, 24] [
    ⟨(.some 16), .mv, [(.t 1)], none, 0, 0⟩,
    ⟨(.some 17), .mv, [(.t 2)], none, 0, 0⟩,
    ⟨(.some 18), (.mkSl 2 [(.int .i64 0), (.int .i64 0)] [(0, 1), (1, 1)]), [(.t 16), (.t 17)], none, 0, 0⟩,
    ⟨(.some 19), (.call 24), [(.t 18)], none, 0, 0⟩,
    ⟨(.some 20), .not, [(.t 19)], none, 0, 0⟩,
    ⟨(.some 21), .mv, [(.t 20)], none, 0, 0⟩,
    ⟨(.some 22), .mv, [(.t 12)], (.some (21, false)), 0, 0⟩,
    ⟨(.some 23), (.cmp .lss), [(.t 22), (.c (.int .i64 0))], (.some (21, false)), 0, 0⟩,
    ⟨(.some 24), .pick, [(.t 21), (.c (.bool true)), (.t 23)], none, 0, 0⟩])
  (.cond (.t 24)
    (.seq
    (.ops [10, 11] [
      ⟨(.some 10), .mv, [(.c .nils)], none, 0, 0⟩,
      ⟨(.some 11), .mv, [(.c (.bool false))], none, 0, 0⟩])
    .ret)
    .skip))
  (.seq
  (.seq
  (.drawn [0, 1, 2, 4, 12, 39] [
    ⟨(.some 25), .mv, [(.t 0)], none, 0, 0⟩,
    ⟨(.some 26), .mv, [(.t 1)], none, 0, 0⟩,
    ⟨(.some 27), .mv, [(.t 2)], none, 0, 0⟩,
    ⟨(.some 28), .mv, [(.t 3)], none, 0, 0⟩,
    ⟨(.some 29), .mv, [(.t 4)], none, 0, 0⟩,
    ⟨(.some 30), .mv, [(.t 12)], none, 0, 0⟩,
    ⟨(.some 31), (.slice 1 false true false), [(.t 29), (.t 30)], none, 0, 0⟩,
    ⟨(.some 32), (.call 26), [(.t 25), (.t 26), (.t 27), (.t 28), (.t 31)], none, 0, 1⟩,
    ⟨(.some 33), .mv, [(.t 4)], none, 0, 1⟩,
    ⟨(.some 34), .mv, [(.t 12)], none, 0, 1⟩,
    ⟨(.some 35), (.slice 1 true false false), [(.t 33), (.t 34)], none, 0, 1⟩,
    ⟨(.some 36), (.arrPtr 32), [(.t 35)], none, 0, 1⟩,
    ⟨(.some 37), (.load true 32), [(.t 36)], none, 0, 1⟩,
    ⟨(.some 38), (.call 28), [(.t 32), (.t 37)], none, 1, 2⟩,
    ⟨(.some 39), .not, [(.t 38)], none, 2, 2⟩])
  (.cond (.t 39)
    (.seq
    (.ops [10, 11] [
      ⟨(.some 10), .mv, [(.c .nils)], none, 0, 0⟩,
      ⟨(.some 11), .mv, [(.c (.bool false))], none, 0, 0⟩])
    .ret)
    .skip))
  (.seq
  (.drawn [10, 11] [
    ⟨(.some 40), .mv, [(.t 0)], none, 0, 0⟩,
    ⟨(.some 41), .nilCheck, [(.t 40)], none, 0, 0⟩,
    ⟨(.some 42), (.fieldAddr 0), [(.t 41)], none, 0, 0⟩,
    ⟨(.some 43), (.load false 1), [(.t 42)], none, 0, 0⟩,
    ⟨(.some 44), .mv, [(.t 1)], none, 0, 0⟩,
    ⟨(.some 45), .mv, [(.t 2)], none, 0, 0⟩,
    ⟨(.some 46), .mv, [(.t 4)], none, 0, 0⟩,
    ⟨(.some 47), .mv, [(.t 12)], none, 0, 0⟩,
    ⟨(.some 48), (.slice 1 false true false), [(.t 46), (.t 47)], none, 0, 0⟩,
    ⟨(.some 49), (.call 25), [(.t 43), (.t 44), (.t 45), (.t 48)], none, 0, 1⟩,
    ⟨(.some 10), .mv, [(.t 49)], none, 1, 1⟩,
    ⟨(.some 11), .mv, [(.c (.bool true))], none, 1, 1⟩])
  .ret)))))
def r11 : List ARes := [(.tmp 10), (.tmp 11)]
theorem ok11 : FnOk Tryd.prog 11 c11 r11 :=
  ⟨Tryd.f11, _, Tryd.func11, by kernel_rfl, rfl, by kernel_rfl, by kernel_rfl⟩
/-- rill/rillkit.SameBytes -/
def c12 : ACode :=
  (.seq
  (.ops [0, 1] [
    ⟨(.some 4), .mv, [(.c (.bool false))], none, 0, 0⟩])
  (.seq
  (.seq
  (.ops [0, 1, 10] [
    ⟨(.some 6), .mv, [(.t 0)], none, 0, 0⟩,
    ⟨(.some 7), .len, [(.t 6)], none, 0, 0⟩,
    ⟨(.some 8), .mv, [(.t 1)], none, 0, 0⟩,
    ⟨(.some 9), .len, [(.t 8)], none, 0, 0⟩,
    ⟨(.some 10), (.eq true .int), [(.t 7), (.t 9)], none, 0, 0⟩])
  (.cond (.t 10)
    (.seq
    (.ops [4] [
      ⟨(.some 4), .mv, [(.c (.bool false))], none, 0, 0⟩])
    .ret)
    .skip))
  (.seq
  (.seq
  (.ops [0, 1, 5] [
    ⟨(.some 5), .mv, [(.c (.int .i64 0))], none, 0, 0⟩])
  (.block 0
    (.loop [0, 1, 5]
      (.seq
      (.seq
      (.ops [0, 1, 5, 14] [
        ⟨(.some 11), .mv, [(.t 5)], none, 0, 0⟩,
        ⟨(.some 12), .mv, [(.t 0)], none, 0, 0⟩,
        ⟨(.some 13), .len, [(.t 12)], none, 0, 0⟩,
        ⟨(.some 14), (.cmp .lss), [(.t 11), (.t 13)], none, 0, 0⟩])
      (.cond (.t 14)
        .skip
        (.exit 0)))
      (.seq
      (.block 1
        (.seq
        (.drawn [0, 1, 5, 25] [
          ⟨(.some 17), .mv, [(.t 0)], none, 0, 0⟩,
          ⟨(.some 18), .mv, [(.t 5)], none, 0, 0⟩,
          ⟨(.some 19), (.idxAddr 1), [(.t 17), (.t 18)], none, 0, 0⟩,
          ⟨(.some 20), (.load false 1), [(.t 19)], none, 0, 0⟩,
          ⟨(.some 21), .mv, [(.t 1)], none, 0, 0⟩,
          ⟨(.some 22), .mv, [(.t 5)], none, 0, 0⟩,
          ⟨(.some 23), (.idxAddr 1), [(.t 21), (.t 22)], none, 0, 0⟩,
          ⟨(.some 24), (.load false 1), [(.t 23)], none, 0, 0⟩,
          ⟨(.some 25), (.eq true .int), [(.t 20), (.t 24)], none, 0, 0⟩])
        (.cond (.t 25)
          (.seq
          (.ops [4] [
            ⟨(.some 4), .mv, [(.c (.bool false))], none, 0, 0⟩])
          .ret)
          .skip)))
      (.ops [0, 1, 5] [
        ⟨(.some 15), .mv, [(.t 5)], none, 0, 0⟩,
        ⟨(.some 16), (.arith .add), [(.t 15), (.c (.int .i64 1))], none, 0, 0⟩,
        ⟨(.some 5), .mv, [(.t 16)], none, 0, 0⟩]))))))
  (.seq
  (.ops [4] [
    ⟨(.some 4), .mv, [(.c (.bool true))], none, 0, 0⟩])
  .ret))))
def r12 : List ARes := [(.tmp 4)]
theorem ok12 : FnOk Tryd.prog 12 c12 r12 :=
  ⟨Tryd.f12, _, Tryd.func12, by kernel_rfl, rfl, by kernel_rfl, by kernel_rfl⟩
/-- rill/rillkit.LentBytes -/
def c13 : ACode :=
  (.seq
  (.ops [0] [
    ⟨(.some 2), .mv, [(.c .nils)], none, 0, 0⟩])
  (.seq
  (.ops [0, 3] [
    ⟨(.some 5), .mv, [(.t 0)], none, 0, 0⟩,
    ⟨(.some 6), .len, [(.t 5)], none, 0, 0⟩,
    ⟨(.some 7), (.arith .add), [(.t 6), (.c (.int .i64 5))], none, 0, 0⟩,
    ⟨(.some 8), (.mkSlice [(.int .u8 0)] 1), [(.t 7), (.t 7)], none, 0, 0⟩,
    ⟨(.some 3), .mv, [(.t 8)], none, 0, 0⟩])
  (.seq
  (.seq
  (.ops [0, 3, 4] [
    ⟨(.some 4), .mv, [(.c (.int .i64 0))], none, 0, 0⟩])
  (.block 0
    (.loop [0, 3, 4]
      (.seq
      (.seq
      (.ops [0, 3, 4, 12] [
        ⟨(.some 9), .mv, [(.t 4)], none, 0, 0⟩,
        ⟨(.some 10), .mv, [(.t 3)], none, 0, 0⟩,
        ⟨(.some 11), .len, [(.t 10)], none, 0, 0⟩,
        ⟨(.some 12), (.cmp .lss), [(.t 9), (.t 11)], none, 0, 0⟩])
      (.cond (.t 12)
        .skip
        (.exit 0)))
      (.seq
      (.block 1
        (.seq
        (.ops [0, 3, 4] [
          ⟨(.some 15), .mv, [(.t 3)], none, 0, 0⟩,
          ⟨(.some 16), .mv, [(.t 4)], none, 0, 0⟩,
          ⟨(.some 17), (.idxAddr 1), [(.t 15), (.t 16)], none, 0, 0⟩,
          ⟨none, (.store 1), [(.t 17), (.c (.int .u8 165))], none, 0, 0⟩])
        (.seq
        (.ops [0, 3, 4, 21] [
          ⟨(.some 18), .mv, [(.t 4)], none, 0, 0⟩,
          ⟨(.some 19), .mv, [(.t 0)], none, 0, 0⟩,
          ⟨(.some 20), .len, [(.t 19)], none, 0, 0⟩,
          ⟨(.some 21), (.cmp .lss), [(.t 18), (.t 20)], none, 0, 0⟩])
        (.cond (.t 21)
          (.ops [0, 3, 4] [
            ⟨(.some 22), .mv, [(.t 3)], none, 0, 0⟩,
            ⟨(.some 23), .mv, [(.t 4)], none, 0, 0⟩,
            ⟨(.some 24), .mv, [(.t 0)], none, 0, 0⟩,
            ⟨(.some 25), .mv, [(.t 4)], none, 0, 0⟩,
            ⟨(.some 26), (.idxAddr 1), [(.t 24), (.t 25)], none, 0, 0⟩,
            ⟨(.some 27), (.load false 1), [(.t 26)], none, 0, 0⟩,
            ⟨(.some 28), (.idxAddr 1), [(.t 22), (.t 23)], none, 0, 0⟩,
            ⟨none, (.store 1), [(.t 28), (.t 27)], none, 0, 0⟩])
          .skip))))
      (.ops [0, 3, 4] [
        ⟨(.some 13), .mv, [(.t 4)], none, 0, 0⟩,
        ⟨(.some 14), (.arith .add), [(.t 13), (.c (.int .i64 1))], none, 0, 0⟩,
        ⟨(.some 4), .mv, [(.t 14)], none, 0, 0⟩]))))))
  (.seq
  (.ops [2] [
    ⟨(.some 29), .mv, [(.t 3)], none, 0, 0⟩,
    ⟨(.some 2), .mv, [(.t 29)], none, 0, 0⟩])
  .ret))))
def r13 : List ARes := [(.tmp 2)]
theorem ok13 : FnOk Tryd.prog 13 c13 r13 :=
  ⟨Tryd.f13, _, Tryd.func13, by kernel_rfl, rfl, by kernel_rfl, by kernel_rfl⟩
/-- rill/rillref05.New -/
def c14 : ACode :=
  (.seq
  (.ops [0] [
    ⟨(.some 2), .mv, [(.c .nilp)], none, 0, 0⟩])
  (.seq
  (.ops [0, 3] [
    ⟨(.some 7), .mv, [(.t 0)], none, 0, 0⟩,
    ⟨(.some 8), (.call 29), [(.t 7), (.c (.str ⟨#[101, 110, 99, 114, 121, 112, 116]⟩))], none, 0, 0⟩,
    ⟨(.some 3), (.alloc (List.replicate 32 (.int .u8 0))), [], none, 0, 0⟩,
    ⟨none, (.store 32), [(.t 3), (.t 8)], none, 0, 0⟩])
  (.seq
  (.ops [3, 4] [
    ⟨(.some 9), .mv, [(.t 0)], none, 0, 0⟩,
    ⟨(.some 10), (.call 29), [(.t 9), (.c (.str ⟨#[97, 117, 116, 104, 101, 110, 116, 105, 99, 97, 116, 101]⟩))], none, 0, 0⟩,
    ⟨(.some 4), (.alloc (List.replicate 32 (.int .u8 0))), [], none, 0, 0⟩,
    ⟨none, (.store 32), [(.t 4), (.t 10)], none, 0, 0⟩])
  (.seq
  (.ops [4, 5] [
    ⟨(.some 12), (.sliceArr 32 1 false true false), [(.t 3), (.c (.int .i64 16))], none, 0, 0⟩,
    ⟨(.some 13), (.call 30), [(.t 12)], none, 0, 0⟩,
    ⟨(.some 11), .mv, [(.t 13)], none, 0, 0⟩,
    ⟨(.some 14), (.extract 0), [(.t 11)], none, 0, 0⟩,
    ⟨(.some 15), (.extract 1), [(.t 11)], none, 0, 0⟩,
    ⟨(.some 5), .mv, [(.t 14)], none, 0, 0⟩,
    ⟨(.some 6), .mv, [(.t 15)], none, 0, 0⟩])
  (.seq
  (.ops [2] [
    ⟨(.some 16), .mv, [(.t 5)], none, 0, 0⟩,
    ⟨(.some 17), (.mkSl 0 [] []), [], none, 0, 0⟩,
    ⟨(.some 18), (.sliceArr 32 1 false false false), [(.t 4)], none, 0, 0⟩,
    ⟨(.some 19), (.append 1 1), [(.t 17), (.t 18)], none, 0, 0⟩,
    ⟨(.some 20), (.build [.nilp, .nils] [(0, 1), (1, 1)]), [(.t 16), (.t 19)], none, 0, 0⟩,
    ⟨(.some 21), .box, [(.t 20)], none, 0, 0⟩,
    ⟨(.some 2), .mv, [(.t 21)], none, 0, 0⟩])
  .ret)))))
def r14 : List ARes := [(.tmp 2)]
theorem ok14 : FnOk Tryd.prog 14 c14 r14 :=
  ⟨Tryd.f14, _, Tryd.func14, by kernel_rfl, rfl, by kernel_rfl, by kernel_rfl⟩
/-- rill/rillkit.KeptBytes -/
def c15 : ACode :=
  (.seq
  (.ops [0, 1] [
    ⟨(.some 4), .mv, [(.c (.bool false))], none, 0, 0⟩])
  (.seq
  (.seq
  (.ops [0, 1, 20] [
    ⟨(.some 6), .mv, [(.t 0)], none, 0, 0⟩,
    ⟨(.some 7), .len, [(.t 6)], none, 0, 0⟩,
    ⟨(.some 8), .mv, [(.t 1)], none, 0, 0⟩,
    ⟨(.some 9), .len, [(.t 8)], none, 0, 0⟩,
    ⟨(.some 10), (.arith .add), [(.t 9), (.c (.int .i64 5))], none, 0, 0⟩,
    ⟨(.some 11), (.eq true .int), [(.t 7), (.t 10)], none, 0, 0⟩,
    ⟨(.some 12), .mv, [(.t 11)], none, 0, 0⟩,
    ⟨(.some 13), .mv, [(.t 0)], (.some (12, false)), 0, 0⟩,
    ⟨(.some 14), .mv, [(.t 1)], (.some (12, false)), 0, 0⟩,
    ⟨(.some 15), .len, [(.t 14)], (.some (12, false)), 0, 0⟩,
    ⟨(.some 16), (.slice 1 false true false), [(.t 13), (.t 15)], (.some (12, false)), 0, 0⟩,
    ⟨(.some 17), .mv, [(.t 1)], (.some (12, false)), 0, 0⟩,
    ⟨(.some 18), (.call 12), [(.t 16), (.t 17)], (.some (12, false)), 0, 0⟩,
    ⟨(.some 19), .not, [(.t 18)], (.some (12, false)), 0, 0⟩,
    ⟨(.some 20), .pick, [(.t 12), (.c (.bool true)), (.t 19)], none, 0, 0⟩])
  (.cond (.t 20)
    (.seq
    (.ops [4] [
      ⟨(.some 4), .mv, [(.c (.bool false))], none, 0, 0⟩])
    .ret)
    .skip))
  (.seq
  (.seq
  (.ops [0, 5] [
    ⟨(.some 21), .mv, [(.t 1)], none, 0, 0⟩,
    ⟨(.some 22), .len, [(.t 21)], none, 0, 0⟩,
    ⟨(.some 5), .mv, [(.t 22)], none, 0, 0⟩])
  (.block 0
    (.loop [0, 5]
      (.seq
      (.seq
      (.ops [0, 5, 26] [
        ⟨(.some 23), .mv, [(.t 5)], none, 0, 0⟩,
        ⟨(.some 24), .mv, [(.t 0)], none, 0, 0⟩,
        ⟨(.some 25), .len, [(.t 24)], none, 0, 0⟩,
        ⟨(.some 26), (.cmp .lss), [(.t 23), (.t 25)], none, 0, 0⟩])
      (.cond (.t 26)
        .skip
        (.exit 0)))
      (.seq
      (.block 1
        (.seq
        (.ops [0, 5, 33] [
          ⟨(.some 29), .mv, [(.t 0)], none, 0, 0⟩,
          ⟨(.some 30), .mv, [(.t 5)], none, 0, 0⟩,
          ⟨(.some 31), (.idxAddr 1), [(.t 29), (.t 30)], none, 0, 0⟩,
          ⟨(.some 32), (.load false 1), [(.t 31)], none, 0, 0⟩,
          ⟨(.some 33), (.eq true .int), [(.t 32), (.c (.int .u8 165))], none, 0, 0⟩])
        (.cond (.t 33)
          (.seq
          (.ops [4] [
            ⟨(.some 4), .mv, [(.c (.bool false))], none, 0, 0⟩])
          .ret)
          .skip)))
      (.ops [0, 5] [
        ⟨(.some 27), .mv, [(.t 5)], none, 0, 0⟩,
        ⟨(.some 28), (.arith .add), [(.t 27), (.c (.int .i64 1))], none, 0, 0⟩,
        ⟨(.some 5), .mv, [(.t 28)], none, 0, 0⟩]))))))
  (.seq
  (.ops [4] [
    ⟨(.some 4), .mv, [(.c (.bool true))], none, 0, 0⟩])
  .ret))))
def r15 : List ARes := [(.tmp 4)]
theorem ok15 : FnOk Tryd.prog 15 c15 r15 :=
  ⟨Tryd.f15, _, Tryd.func15, by kernel_rfl, rfl, by kernel_rfl, by kernel_rfl⟩
/-- rill/rillkit.SpoilBytes -/
def c16 : ACode :=
  (.seq
  (.ops [0, 2] [
    ⟨(.some 2), .mv, [(.c (.int .i64 0))], none, 0, 0⟩])
  (.block 0
    (.loop [0, 2]
      (.seq
      (.seq
      (.ops [0, 2, 6] [
        ⟨(.some 3), .mv, [(.t 2)], none, 0, 0⟩,
        ⟨(.some 4), .mv, [(.t 0)], none, 0, 0⟩,
        ⟨(.some 5), .len, [(.t 4)], none, 0, 0⟩,
        ⟨(.some 6), (.cmp .lss), [(.t 3), (.t 5)], none, 0, 0⟩])
      (.cond (.t 6)
        .skip
        (.exit 0)))
      (.seq
      (.block 1
        (.ops [0, 2] [
          ⟨(.some 9), .mv, [(.t 0)], none, 0, 0⟩,
          ⟨(.some 10), .mv, [(.t 2)], none, 0, 0⟩,
          ⟨(.some 11), .mv, [(.t 0)], none, 0, 0⟩,
          ⟨(.some 12), .mv, [(.t 2)], none, 0, 0⟩,
          ⟨(.some 13), (.idxAddr 1), [(.t 11), (.t 12)], none, 0, 0⟩,
          ⟨(.some 14), (.load false 1), [(.t 13)], none, 0, 0⟩,
          ⟨(.some 15), (.arith .xor), [(.t 14), (.c (.int .u8 90))], none, 0, 0⟩,
          ⟨(.some 16), (.idxAddr 1), [(.t 9), (.t 10)], none, 0, 0⟩,
          ⟨none, (.store 1), [(.t 16), (.t 15)], none, 0, 0⟩]))
      (.ops [0, 2] [
        ⟨(.some 7), .mv, [(.t 2)], none, 0, 0⟩,
        ⟨(.some 8), (.arith .add), [(.t 7), (.c (.int .i64 1))], none, 0, 0⟩,
        ⟨(.some 2), .mv, [(.t 8)], none, 0, 0⟩]))))))
def r16 : List ARes := []
theorem ok16 : FnOk Tryd.prog 16 c16 r16 :=
  ⟨Tryd.f16, _, Tryd.func16, by kernel_rfl, rfl, by kernel_rfl, by kernel_rfl⟩
/-- (*rill/rillref05.Box).Open -/
def c17 : ACode :=
  (.seq
  (.ops [0, 1, 2, 3, 4] [
    ⟨(.some 10), .mv, [(.c .nils)], none, 0, 0⟩,
    ⟨(.some 11), .mv, [(.c (.bool false))], none, 0, 0⟩])
  (.seq
  (.ops [0, 1, 2, 3, 4, 12] [
    ⟨(.some 14), .mv, [(.t 4)], none, 0, 0⟩,
    ⟨(.some 15), .len, [(.t 14)], none, 0, 0⟩,
    ⟨(.some 16), (.arith .sub), [(.t 15), (.c (.int .i64 32))], none, 0, 0⟩,
    ⟨(.some 12), .mv, [(.t 16)], none, 0, 0⟩])
  (.seq
  (.seq
  (.ops [0, 1, 2, 3, 4, 12, 24] [
    ⟨(.some 17), .mv, [(.t 1)], none, 0, 0⟩,
    ⟨(.some 18), .mv, [(.t 2)], none, 0, 0⟩,
    ⟨(.some 19), (.call 31), [(.t 17), (.t 18)], none, 0, 0⟩,
    ⟨(.some 20), .not, [(.t 19)], none, 0, 0⟩,
    ⟨(.some 21), .mv, [(.t 20)], none, 0, 0⟩,
    ⟨(.some 22), .mv, [(.t 12)], (.some (21, false)), 0, 0⟩,
    ⟨(.some 23), (.cmp .lss), [(.t 22), (.c (.int .i64 0))], (.some (21, false)), 0, 0⟩,
    ⟨(.some 24), .pick, [(.t 21), (.c (.bool true)), (.t 23)], none, 0, 0⟩])
  (.cond (.t 24)
    (.seq
    (.ops [10, 11] [
      ⟨(.some 10), .mv, [(.c .nils)], none, 0, 0⟩,
      ⟨(.some 11), .mv, [(.c (.bool false))], none, 0, 0⟩])
    .ret)
    .skip))
  (.seq
  (.ops [0, 1, 2, 4, 12, 13] [
    ⟨(.some 25), .mv, [(.t 0)], none, 0, 0⟩,
    ⟨(.some 26), .mv, [(.t 1)], none, 0, 0⟩,
    ⟨(.some 27), .mv, [(.t 2)], none, 0, 0⟩,
    ⟨(.some 28), .mv, [(.t 3)], none, 0, 0⟩,
    ⟨(.some 29), .mv, [(.t 4)], none, 0, 0⟩,
    ⟨(.some 30), .mv, [(.t 12)], none, 0, 0⟩,
    ⟨(.some 31), (.slice 1 false true false), [(.t 29), (.t 30)], none, 0, 0⟩,
    ⟨(.some 32), (.call 32), [(.t 25), (.t 26), (.t 27), (.t 28), (.t 31)], none, 0, 0⟩,
    ⟨(.some 13), (.alloc (List.replicate 32 (.int .u8 0))), [], none, 0, 0⟩,
    ⟨none, (.store 32), [(.t 13), (.t 32)], none, 0, 0⟩])
  (.seq
  (.seq
  (.drawn [0, 1, 2, 4, 12, 38] [
    ⟨(.some 33), (.sliceArr 32 1 false false false), [(.t 13)], none, 0, 0⟩,
    ⟨(.some 34), .mv, [(.t 4)], none, 0, 0⟩,
    ⟨(.some 35), .mv, [(.t 12)], none, 0, 0⟩,
    ⟨(.some 36), (.slice 1 true false false), [(.t 34), (.t 35)], none, 0, 0⟩,
    ⟨(.some 37), (.call 12), [(.t 33), (.t 36)], none, 0, 1⟩,
    ⟨(.some 38), .not, [(.t 37)], none, 1, 1⟩])
  (.cond (.t 38)
    (.seq
    (.ops [10, 11] [
      ⟨(.some 10), .mv, [(.c .nils)], none, 0, 0⟩,
      ⟨(.some 11), .mv, [(.c (.bool false))], none, 0, 0⟩])
    .ret)
    .skip))
  (.seq
  (.drawn [10, 11] [
    ⟨(.some 39), .mv, [(.t 0)], none, 0, 0⟩,
    ⟨(.some 40), .nilCheck, [(.t 39)], none, 0, 0⟩,
    ⟨(.some 41), (.fieldAddr 0), [(.t 40)], none, 0, 0⟩,
    ⟨(.some 42), (.load false 1), [(.t 41)], none, 0, 0⟩,
    ⟨(.some 43), .mv, [(.t 1)], none, 0, 0⟩,
    ⟨(.some 44), .mv, [(.t 2)], none, 0, 0⟩,
    ⟨(.some 45), .mv, [(.t 4)], none, 0, 0⟩,
    ⟨(.some 46), .mv, [(.t 12)], none, 0, 0⟩,
    ⟨(.some 47), (.slice 1 false true false), [(.t 45), (.t 46)], none, 0, 0⟩,
    ⟨(.some 48), (.call 33), [(.t 42), (.t 43), (.t 44), (.t 47)], none, 0, 1⟩,
    ⟨(.some 10), .mv, [(.t 48)], none, 1, 1⟩,
    ⟨(.some 11), .mv, [(.c (.bool true))], none, 1, 1⟩])
  .ret))))))
def r17 : List ARes := [(.tmp 10), (.tmp 11)]
theorem ok17 : FnOk Tryd.prog 17 c17 r17 :=
  ⟨Tryd.f17, _, Tryd.func17, by kernel_rfl, rfl, by kernel_rfl, by kernel_rfl⟩
/-- (*rill/rillref05.Box).Seal -/
def c18 : ACode :=
  (.seq
  (.ops [0, 1, 2, 3, 4] [
    ⟨(.some 10), .mv, [(.c .nils)], none, 0, 0⟩])
  (.seq
  (.seq
  (.ops [0, 1, 2, 3, 4, 16] [
    ⟨(.some 13), .mv, [(.t 1)], none, 0, 0⟩,
    ⟨(.some 14), .mv, [(.t 2)], none, 0, 0⟩,
    ⟨(.some 15), (.call 31), [(.t 13), (.t 14)], none, 0, 0⟩,
    ⟨(.some 16), .not, [(.t 15)], none, 0, 0⟩])
  (.cond (.t 16)
    (.seq
    (.ops [10] [
      ⟨(.some 10), .mv, [(.c .nils)], none, 0, 0⟩])
    .ret)
    .skip))
  (.seq
  (.ops [0, 1, 2, 3, 11] [
    ⟨(.some 17), .mv, [(.t 0)], none, 0, 0⟩,
    ⟨(.some 18), .nilCheck, [(.t 17)], none, 0, 0⟩,
    ⟨(.some 19), (.fieldAddr 0), [(.t 18)], none, 0, 0⟩,
    ⟨(.some 20), (.load false 1), [(.t 19)], none, 0, 0⟩,
    ⟨(.some 21), .mv, [(.t 1)], none, 0, 0⟩,
    ⟨(.some 22), .mv, [(.t 2)], none, 0, 0⟩,
    ⟨(.some 23), .mv, [(.t 4)], none, 0, 0⟩,
    ⟨(.some 24), (.call 33), [(.t 20), (.t 21), (.t 22), (.t 23)], none, 0, 0⟩,
    ⟨(.some 11), .mv, [(.t 24)], none, 0, 0⟩])
  (.seq
  (.ops [11, 12] [
    ⟨(.some 25), .mv, [(.t 0)], none, 0, 0⟩,
    ⟨(.some 26), .mv, [(.t 1)], none, 0, 0⟩,
    ⟨(.some 27), .mv, [(.t 2)], none, 0, 0⟩,
    ⟨(.some 28), .mv, [(.t 3)], none, 0, 0⟩,
    ⟨(.some 29), .mv, [(.t 11)], none, 0, 0⟩,
    ⟨(.some 30), (.call 32), [(.t 25), (.t 26), (.t 27), (.t 28), (.t 29)], none, 0, 0⟩,
    ⟨(.some 12), (.alloc (List.replicate 32 (.int .u8 0))), [], none, 0, 0⟩,
    ⟨none, (.store 32), [(.t 12), (.t 30)], none, 0, 0⟩])
  (.seq
  (.drawn [10] [
    ⟨(.some 31), (.mkSl 0 [] []), [], none, 0, 0⟩,
    ⟨(.some 32), .mv, [(.t 11)], none, 0, 0⟩,
    ⟨(.some 33), (.append 1 1), [(.t 31), (.t 32)], none, 0, 1⟩,
    ⟨(.some 34), (.sliceArr 32 1 false false false), [(.t 12)], none, 0, 1⟩,
    ⟨(.some 35), (.append 1 1), [(.t 33), (.t 34)], none, 1, 2⟩,
    ⟨(.some 10), .mv, [(.t 35)], none, 2, 2⟩])
  .ret)))))
def r18 : List ARes := [(.tmp 10)]
theorem ok18 : FnOk Tryd.prog 18 c18 r18 :=
  ⟨Tryd.f18, _, Tryd.func18, by kernel_rfl, rfl, by kernel_rfl, by kernel_rfl⟩
/-- (*rill/seal.Box).Sum -/
def c19 : ACode :=
  (.seq
  (.ops [1, 4] [
    ⟨(.some 4), (.alloc (List.replicate 32 (.int .u8 0))), [], none, 0, 0⟩])
  (.seq
  (.ops [4] [
    ⟨(.some 5), .mv, [(.t 1)], none, 0, 0⟩,
    ⟨(.some 6), (.call 34), [(.t 5)], none, 0, 0⟩,
    ⟨none, (.store 32), [(.t 4), (.t 6)], none, 0, 0⟩])
  .ret))
def r19 : List ARes := [(.cell 4 true 32)]
theorem ok19 : FnOk Tryd.prog 19 c19 r19 :=
  ⟨Tryd.f19, _, Tryd.func19, by kernel_rfl, rfl, by kernel_rfl, by kernel_rfl⟩
/-- (*rill/rillref05.Box).Sum -/
def c20 : ACode :=
  (.seq
  (.ops [1, 4] [
    ⟨(.some 4), (.alloc (List.replicate 32 (.int .u8 0))), [], none, 0, 0⟩])
  (.seq
  (.ops [4] [
    ⟨(.some 5), .mv, [(.t 1)], none, 0, 0⟩,
    ⟨(.some 6), (.call 35), [(.t 5)], none, 0, 0⟩,
    ⟨none, (.store 32), [(.t 4), (.t 6)], none, 0, 0⟩])
  .ret))
def r20 : List ARes := [(.cell 4 true 32)]
theorem ok20 : FnOk Tryd.prog 20 c20 r20 :=
  ⟨Tryd.f20, _, Tryd.func20, by kernel_rfl, rfl, by kernel_rfl, by kernel_rfl⟩
/-- rill/rillkit.CopyBytes -/
def c21 : ACode :=
  (.seq
  (.ops [0] [
    ⟨(.some 2), .mv, [(.c .nils)], none, 0, 0⟩])
  (.seq
  (.ops [0, 3] [
    ⟨(.some 3), .mv, [(.c .nils)], none, 0, 0⟩])
  (.seq
  (.seq
  (.ops [0, 3, 4] [
    ⟨(.some 4), .mv, [(.c (.int .i64 0))], none, 0, 0⟩])
  (.block 0
    (.loop [0, 3, 4]
      (.seq
      (.seq
      (.ops [0, 3, 4, 8] [
        ⟨(.some 5), .mv, [(.t 4)], none, 0, 0⟩,
        ⟨(.some 6), .mv, [(.t 0)], none, 0, 0⟩,
        ⟨(.some 7), .len, [(.t 6)], none, 0, 0⟩,
        ⟨(.some 8), (.cmp .lss), [(.t 5), (.t 7)], none, 0, 0⟩])
      (.cond (.t 8)
        .skip
        (.exit 0)))
      (.seq
      (.block 1
        (.ops [0, 3, 4] [
          ⟨(.some 11), .mv, [(.t 3)], none, 0, 0⟩,
          ⟨(.some 12), .mv, [(.t 0)], none, 0, 0⟩,
          ⟨(.some 13), .mv, [(.t 4)], none, 0, 0⟩,
          ⟨(.some 14), (.idxAddr 1), [(.t 12), (.t 13)], none, 0, 0⟩,
          ⟨(.some 15), (.load false 1), [(.t 14)], none, 0, 0⟩,
          ⟨(.some 16), (.mkSl 1 [(.int .u8 0)] [(0, 1)]), [(.t 15)], none, 0, 0⟩,
          ⟨(.some 17), (.append 1 1), [(.t 11), (.t 16)], none, 0, 0⟩,
          ⟨(.some 3), .mv, [(.t 17)], none, 0, 0⟩]))
      (.ops [0, 3, 4] [
        ⟨(.some 9), .mv, [(.t 4)], none, 0, 0⟩,
        ⟨(.some 10), (.arith .add), [(.t 9), (.c (.int .i64 1))], none, 0, 0⟩,
        ⟨(.some 4), .mv, [(.t 10)], none, 0, 0⟩]))))))
  (.seq
  (.ops [2] [
    ⟨(.some 18), .mv, [(.t 3)], none, 0, 0⟩,
    ⟨(.some 2), .mv, [(.t 18)], none, 0, 0⟩])
  .ret))))
def r21 : List ARes := [(.tmp 2)]
theorem ok21 : FnOk Tryd.prog 21 c21 r21 :=
  ⟨Tryd.f21, _, Tryd.func21, by kernel_rfl, rfl, by kernel_rfl, by kernel_rfl⟩
/-- rill/mac.Derive -/
def c22 : ACode :=
  (.seq
  (.ops [0, 1, 4] [
    ⟨(.some 4), (.alloc (List.replicate 32 (.int .u8 0))), [], none, 0, 0⟩])
  (.seq
  (.ops [4] [
    ⟨(.some 5), .mv, [(.t 0)], none, 0, 0⟩,
    ⟨(.some 6), .mv, [(.t 1)], none, 0, 0⟩,
    ⟨(.some 7), .s2b, [(.t 6)], none, 0, 0⟩,
    ⟨(.some 8), (.call 36), [(.t 5), (.t 7)], none, 0, 0⟩,
    ⟨none, (.store 32), [(.t 4), (.t 8)], none, 0, 0⟩])
  .ret))
def r22 : List ARes := [(.cell 4 true 32)]
theorem ok22 : FnOk Tryd.prog 22 c22 r22 :=
  ⟨Tryd.f22, _, Tryd.func22, by kernel_rfl, rfl, by kernel_rfl, by kernel_rfl⟩
/-- rill/aes.New -/
def c23 : ACode :=
  (.seq
  (.ops [0] [
    ⟨(.some 2), .mv, [(.c .nilp)], none, 0, 0⟩,
    ⟨(.some 3), .mv, [(.c (.int .i64 0))], none, 0, 0⟩])
  (.seq
  (.ops [0, 4] [
    ⟨(.some 11), .mv, [(.t 0)], none, 0, 0⟩,
    ⟨(.some 12), .len, [(.t 11)], none, 0, 0⟩,
    ⟨(.some 4), .mv, [(.t 12)], none, 0, 0⟩])
  (.seq
  (.seq
  (.ops [0, 4, 22] [
    ⟨(.some 13), .mv, [(.t 4)], none, 0, 0⟩,
    ⟨(.some 14), (.eq true .int), [(.t 13), (.c (.int .i64 16))], none, 0, 0⟩,
    ⟨(.some 15), .mv, [(.t 14)], none, 0, 0⟩,
    ⟨(.some 16), .mv, [(.t 4)], (.some (15, true)), 0, 0⟩,
    ⟨(.some 17), (.eq true .int), [(.t 16), (.c (.int .i64 24))], (.some (15, true)), 0, 0⟩,
    ⟨(.some 18), .pick, [(.t 15), (.t 17), (.c (.bool false))], none, 0, 0⟩,
    ⟨(.some 19), .mv, [(.t 18)], none, 0, 0⟩,
    ⟨(.some 20), .mv, [(.t 4)], (.some (19, true)), 0, 0⟩,
    ⟨(.some 21), (.eq true .int), [(.t 20), (.c (.int .i64 32))], (.some (19, true)), 0, 0⟩,
    ⟨(.some 22), .pick, [(.t 19), (.t 21), (.c (.bool false))], none, 0, 0⟩])
  (.cond (.t 22)
    (.seq
    (.ops [2, 3] [
      ⟨(.some 2), .mv, [(.c .nilp)], none, 0, 0⟩,
      ⟨(.some 3), .mv, [(.c (.int .i64 1))], none, 0, 0⟩])
    .ret)
    .skip))
  (.seq
  (.ops [0, 4, 5] [
    ⟨(.some 23), (.call 37), [], none, 0, 0⟩,
    ⟨(.some 24), (.build ([.nils] ++ (List.replicate 256 (.int .u8 0))) [(1, 256)]), [(.t 23)], none, 0, 0⟩,
    ⟨(.some 25), .box, [(.t 24)], none, 0, 0⟩,
    ⟨(.some 5), .mv, [(.t 25)], none, 0, 0⟩])
  (.seq
  (.ops [4, 5, 6] [
    ⟨(.some 26), (.mkSl 0 [] []), [], none, 0, 0⟩,
    ⟨(.some 27), .mv, [(.t 0)], none, 0, 0⟩,
    ⟨(.some 28), (.append 1 1), [(.t 26), (.t 27)], none, 0, 0⟩,
    ⟨(.some 6), .mv, [(.t 28)], none, 0, 0⟩])
  (.seq
  (.ops [4, 5, 6, 7] [
    ⟨(.some 7), .mv, [(.c (.int .u8 1))], none, 0, 0⟩])
  (.seq
  (.seq
  (.ops [4, 5, 6, 7, 8] [
    ⟨(.some 29), .mv, [(.t 4)], none, 0, 0⟩,
    ⟨(.some 8), .mv, [(.t 29)], none, 0, 0⟩])
  (.block 0
    (.loop [4, 5, 6, 7, 8]
      (.seq
      (.seq
      (.ops [4, 5, 6, 7, 8, 35] [
        ⟨(.some 30), .mv, [(.t 8)], none, 0, 0⟩,
        ⟨(.some 31), .mv, [(.t 4)], none, 0, 0⟩,
        ⟨(.some 32), (.arith .quo), [(.t 31), (.c (.int .i64 4))], none, 0, 0⟩,
        ⟨(.some 33), (.arith .add), [(.t 32), (.c (.int .i64 7))], none, 0, 0⟩,
        ⟨(.some 34), (.arith .mul), [(.c (.int .i64 16)), (.t 33)], none, 0, 0⟩,
        ⟨(.some 35), (.cmp .lss), [(.t 30), (.t 34)], none, 0, 0⟩])
      (.cond (.t 35)
        .skip
        (.exit 0)))
      (.seq
      (.block 1
        (.seq
        (.ops [4, 5, 6, 7, 8, 9] [
          ⟨(.some 38), .mv, [(.t 6)], none, 0, 0⟩,
          ⟨(.some 39), .mv, [(.t 8)], none, 0, 0⟩,
          ⟨(.some 40), (.arith .sub), [(.t 39), (.c (.int .i64 4))], none, 0, 0⟩,
          ⟨(.some 41), .mv, [(.t 8)], none, 0, 0⟩,
          ⟨(.some 42), (.slice 1 true true false), [(.t 38), (.t 40), (.t 41)], none, 0, 0⟩,
          ⟨(.some 43), (.arrPtr 4), [(.t 42)], none, 0, 0⟩,
          ⟨(.some 44), (.load true 4), [(.t 43)], none, 0, 0⟩,
          ⟨(.some 9), (.alloc [(.int .u8 0), (.int .u8 0), (.int .u8 0), (.int .u8 0)]), [], none, 0, 0⟩,
          ⟨none, (.store 4), [(.t 9), (.t 44)], none, 0, 0⟩])
        (.seq
        (.block 2
          (.seq
          (.ops [4, 5, 6, 7, 8, 9, 45] [
            ⟨(.some 46), .mv, [(.t 8)], none, 0, 0⟩,
            ⟨(.some 47), .mv, [(.t 4)], none, 0, 0⟩,
            ⟨(.some 48), (.arith .rem), [(.t 46), (.t 47)], none, 0, 0⟩,
            ⟨(.some 49), (.eq false .int), [(.t 48), (.c (.int .i64 0))], none, 0, 0⟩,
            ⟨(.some 45), .mv, [(.t 49)], none, 0, 0⟩])
          (.cond (.t 45)
            (.seq
            (.drawn [4, 5, 6, 7, 8, 9] [
              ⟨(.some 50), .mv, [(.t 5)], none, 0, 0⟩,
              ⟨(.some 51), (.idxAddrArr 4 1), [(.t 9), (.c (.int .i64 1))], none, 0, 0⟩,
              ⟨(.some 52), (.load false 1), [(.t 51)], none, 0, 0⟩,
              ⟨(.some 53), .nilCheck, [(.t 50)], none, 0, 0⟩,
              ⟨(.some 54), (.fieldAddr 1), [(.t 53)], none, 0, 0⟩,
              ⟨(.some 55), (.idxAddrArr 256 1), [(.t 54), (.t 52)], none, 0, 0⟩,
              ⟨(.some 56), (.load false 1), [(.t 55)], none, 0, 0⟩,
              ⟨(.some 57), .mv, [(.t 7)], none, 0, 0⟩,
              ⟨(.some 58), (.arith .xor), [(.t 56), (.t 57)], none, 0, 0⟩,
              ⟨(.some 59), .mv, [(.t 5)], none, 0, 0⟩,
              ⟨(.some 60), (.idxAddrArr 4 1), [(.t 9), (.c (.int .i64 2))], none, 0, 0⟩,
              ⟨(.some 61), (.load false 1), [(.t 60)], none, 0, 0⟩,
              ⟨(.some 62), .nilCheck, [(.t 59)], none, 0, 0⟩,
              ⟨(.some 63), (.fieldAddr 1), [(.t 62)], none, 0, 0⟩,
              ⟨(.some 64), (.idxAddrArr 256 1), [(.t 63), (.t 61)], none, 0, 0⟩,
              ⟨(.some 65), (.load false 1), [(.t 64)], none, 0, 0⟩,
              ⟨(.some 66), .mv, [(.t 5)], none, 0, 0⟩,
              ⟨(.some 67), (.idxAddrArr 4 1), [(.t 9), (.c (.int .i64 3))], none, 0, 0⟩,
              ⟨(.some 68), (.load false 1), [(.t 67)], none, 0, 0⟩,
              ⟨(.some 69), .nilCheck, [(.t 66)], none, 0, 0⟩,
              ⟨(.some 70), (.fieldAddr 1), [(.t 69)], none, 0, 0⟩,
              ⟨(.some 71), (.idxAddrArr 256 1), [(.t 70), (.t 68)], none, 0, 0⟩,
              ⟨(.some 72), (.load false 1), [(.t 71)], none, 0, 0⟩,
              ⟨(.some 73), .mv, [(.t 5)], none, 0, 0⟩,
              ⟨(.some 74), (.idxAddrArr 4 1), [(.t 9), (.c (.int .i64 0))], none, 0, 0⟩,
              ⟨(.some 75), (.load false 1), [(.t 74)], none, 0, 0⟩,
              ⟨(.some 76), .nilCheck, [(.t 73)], none, 0, 0⟩,
              ⟨(.some 77), (.fieldAddr 1), [(.t 76)], none, 0, 0⟩,
              ⟨(.some 78), (.idxAddrArr 256 1), [(.t 77), (.t 75)], none, 0, 0⟩,
              ⟨(.some 79), (.load false 1), [(.t 78)], none, 0, 0⟩,
              ⟨(.some 80), (.build [(.int .u8 0), (.int .u8 0), (.int .u8 0), (.int .u8 0)] [(0, 1), (1, 1), (2, 1), (3, 1)]), [(.t 58), (.t 65), (.t 72), (.t 79)], none, 0, 0⟩,
              ⟨none, (.store 4), [(.t 9), (.t 80)], none, 0, 1⟩])
            (.ops [4, 5, 6, 7, 8, 9] [
              ⟨(.some 81), .mv, [(.t 7)], none, 0, 0⟩,
              ⟨(.some 82), (.call 38), [(.t 81)], none, 0, 0⟩,
              ⟨(.some 7), .mv, [(.t 82)], none, 0, 0⟩]))
            (.seq
            (.ops [4, 5, 6, 7, 8, 9, 83] [
              ⟨(.some 84), .mv, [(.t 4)], none, 0, 0⟩,
              ⟨(.some 85), (.eq false .int), [(.t 84), (.c (.int .i64 32))], none, 0, 0⟩,
              ⟨(.some 86), .mv, [(.t 85)], none, 0, 0⟩,
              ⟨(.some 87), .mv, [(.t 8)], (.some (86, true)), 0, 0⟩,
              ⟨(.some 88), .mv, [(.t 4)], (.some (86, true)), 0, 0⟩,
              ⟨(.some 89), (.arith .rem), [(.t 87), (.t 88)], (.some (86, true)), 0, 0⟩,
              ⟨(.some 90), (.eq false .int), [(.t 89), (.c (.int .i64 16))], (.some (86, true)), 0, 0⟩,
              ⟨(.some 91), .pick, [(.t 86), (.t 90), (.c (.bool false))], none, 0, 0⟩,
              ⟨(.some 83), .mv, [(.t 91)], none, 0, 0⟩])
            (.cond (.t 83)
              (.drawn [4, 5, 6, 7, 8, 9] [
                ⟨(.some 92), .mv, [(.t 5)], none, 0, 0⟩,
                ⟨(.some 93), (.idxAddrArr 4 1), [(.t 9), (.c (.int .i64 0))], none, 0, 0⟩,
                ⟨(.some 94), (.load false 1), [(.t 93)], none, 0, 0⟩,
                ⟨(.some 95), .nilCheck, [(.t 92)], none, 0, 0⟩,
                ⟨(.some 96), (.fieldAddr 1), [(.t 95)], none, 0, 0⟩,
                ⟨(.some 97), (.idxAddrArr 256 1), [(.t 96), (.t 94)], none, 0, 0⟩,
                ⟨(.some 98), (.load false 1), [(.t 97)], none, 0, 0⟩,
                ⟨(.some 99), .mv, [(.t 5)], none, 0, 0⟩,
                ⟨(.some 100), (.idxAddrArr 4 1), [(.t 9), (.c (.int .i64 1))], none, 0, 0⟩,
                ⟨(.some 101), (.load false 1), [(.t 100)], none, 0, 0⟩,
                ⟨(.some 102), .nilCheck, [(.t 99)], none, 0, 0⟩,
                ⟨(.some 103), (.fieldAddr 1), [(.t 102)], none, 0, 0⟩,
                ⟨(.some 104), (.idxAddrArr 256 1), [(.t 103), (.t 101)], none, 0, 0⟩,
                ⟨(.some 105), (.load false 1), [(.t 104)], none, 0, 0⟩,
                ⟨(.some 106), .mv, [(.t 5)], none, 0, 0⟩,
                ⟨(.some 107), (.idxAddrArr 4 1), [(.t 9), (.c (.int .i64 2))], none, 0, 0⟩,
                ⟨(.some 108), (.load false 1), [(.t 107)], none, 0, 0⟩,
                ⟨(.some 109), .nilCheck, [(.t 106)], none, 0, 0⟩,
                ⟨(.some 110), (.fieldAddr 1), [(.t 109)], none, 0, 0⟩,
                ⟨(.some 111), (.idxAddrArr 256 1), [(.t 110), (.t 108)], none, 0, 0⟩,
                ⟨(.some 112), (.load false 1), [(.t 111)], none, 0, 0⟩,
                ⟨(.some 113), .mv, [(.t 5)], none, 0, 0⟩,
                ⟨(.some 114), (.idxAddrArr 4 1), [(.t 9), (.c (.int .i64 3))], none, 0, 0⟩,
                ⟨(.some 115), (.load false 1), [(.t 114)], none, 0, 0⟩,
                ⟨(.some 116), .nilCheck, [(.t 113)], none, 0, 0⟩,
                ⟨(.some 117), (.fieldAddr 1), [(.t 116)], none, 0, 0⟩,
                ⟨(.some 118), (.idxAddrArr 256 1), [(.t 117), (.t 115)], none, 0, 0⟩,
                ⟨(.some 119), (.load false 1), [(.t 118)], none, 0, 0⟩,
                ⟨(.some 120), (.build [(.int .u8 0), (.int .u8 0), (.int .u8 0), (.int .u8 0)] [(0, 1), (1, 1), (2, 1), (3, 1)]), [(.t 98), (.t 105), (.t 112), (.t 119)], none, 0, 0⟩,
                ⟨none, (.store 4), [(.t 9), (.t 120)], none, 0, 1⟩])
              .skip)))))
        (.seq
        (.ops [4, 5, 6, 7, 8, 9, 121] [
          ⟨(.some 121), .mv, [(.c (.int .i64 0))], none, 0, 0⟩])
        (.block 3
          (.loop [4, 5, 6, 7, 8, 9, 121]
            (.seq
            (.ops [4, 5, 6, 7, 8, 9, 121, 122] [
              ⟨(.some 122), (.cmp .lss), [(.t 121), (.c (.int .i64 4))], none, 0, 0⟩])
            (.seq
            (.cond (.t 122)
              .skip
              (.exit 3))
            (.seq
            (.block 4
              (.seq
              (.ops [4, 5, 6, 7, 8, 9, 10, 121] [
                ⟨(.some 123), .mv, [(.t 121)], none, 0, 0⟩,
                ⟨(.some 10), .mv, [(.t 123)], none, 0, 0⟩])
              (.drawn [4, 5, 6, 7, 8, 9, 121] [
                ⟨(.some 124), .mv, [(.t 6)], none, 0, 0⟩,
                ⟨(.some 125), .mv, [(.t 6)], none, 0, 0⟩,
                ⟨(.some 126), .mv, [(.t 8)], none, 0, 0⟩,
                ⟨(.some 127), .mv, [(.t 4)], none, 0, 0⟩,
                ⟨(.some 128), (.arith .sub), [(.t 126), (.t 127)], none, 0, 0⟩,
                ⟨(.some 129), .mv, [(.t 10)], none, 0, 0⟩,
                ⟨(.some 130), (.arith .add), [(.t 128), (.t 129)], none, 0, 0⟩,
                ⟨(.some 131), (.idxAddr 1), [(.t 125), (.t 130)], none, 0, 0⟩,
                ⟨(.some 132), (.load false 1), [(.t 131)], none, 0, 0⟩,
                ⟨(.some 133), .mv, [(.t 10)], none, 0, 0⟩,
                ⟨(.some 134), (.idxAddrArr 4 1), [(.t 9), (.t 133)], none, 0, 0⟩,
                ⟨(.some 135), (.load false 1), [(.t 134)], none, 0, 0⟩,
                ⟨(.some 136), (.arith .xor), [(.t 132), (.t 135)], none, 0, 0⟩,
                ⟨(.some 137), (.mkSl 1 [(.int .u8 0)] [(0, 1)]), [(.t 136)], none, 0, 0⟩,
                ⟨(.some 138), (.append 1 1), [(.t 124), (.t 137)], none, 0, 1⟩,
                ⟨(.some 6), .mv, [(.t 138)], none, 1, 1⟩])))
            (.ops [4, 5, 6, 7, 8, 9, 121] [
              ⟨(.some 139), (.arith .add), [(.t 121), (.c (.int .i64 1))], none, 0, 0⟩,
              ⟨(.some 121), .mv, [(.t 139)], none, 0, 0⟩]))))))))))
      (.ops [4, 5, 6, 7, 8] [
        ⟨(.some 36), .mv, [(.t 8)], none, 0, 0⟩,
        ⟨(.some 37), (.arith .add), [(.t 36), (.c (.int .i64 4))], none, 0, 0⟩,
        ⟨(.some 8), .mv, [(.t 37)], none, 0, 0⟩]))))))
  (.seq
  (.block 5
    (.loop [5, 6]
      (.seq
      (.seq
      (.ops [5, 6, 142] [
        ⟨(.some 140), .mv, [(.t 6)], none, 0, 0⟩,
        ⟨(.some 141), .len, [(.t 140)], none, 0, 0⟩,
        ⟨(.some 142), (.cmp .gtr), [(.t 141), (.c (.int .i64 0))], none, 0, 0⟩])
      (.cond (.t 142)
        .skip
        (.exit 5)))
      (.seq
      (.block 6
        (.drawn [5, 6] [
          ⟨(.some 145), .mv, [(.t 5)], none, 0, 1⟩,
          ⟨(.some 146), .mv, [(.t 5)], none, 0, 0⟩,
          ⟨(.some 147), .nilCheck, [(.t 146)], none, 0, 0⟩,
          ⟨(.some 148), (.fieldAddr 0), [(.t 147)], none, 0, 0⟩,
          ⟨(.some 149), (.load false 1), [(.t 148)], none, 0, 0⟩,
          ⟨(.some 150), .mv, [(.t 6)], none, 0, 0⟩,
          ⟨(.some 151), (.slice 1 false true false), [(.t 150), (.c (.int .i64 16))], none, 0, 0⟩,
          ⟨(.some 152), (.arrPtr 16), [(.t 151)], none, 0, 0⟩,
          ⟨(.some 153), (.load true 16), [(.t 152)], none, 0, 0⟩,
          ⟨(.some 154), (.mkSl 1 (List.replicate 16 (.int .u8 0)) [(0, 16)]), [(.t 153)], none, 0, 0⟩,
          ⟨(.some 155), (.append 16 16), [(.t 149), (.t 154)], none, 0, 1⟩,
          ⟨(.some 156), .nilCheck, [(.t 145)], none, 1, 1⟩,
          ⟨(.some 157), (.fieldAddr 0), [(.t 156)], none, 1, 1⟩,
          ⟨none, (.store 1), [(.t 157), (.t 155)], none, 1, 2⟩]))
      (.ops [5, 6] [
        ⟨(.some 143), .mv, [(.t 6)], none, 0, 0⟩,
        ⟨(.some 144), (.slice 1 true false false), [(.t 143), (.c (.int .i64 16))], none, 0, 0⟩,
        ⟨(.some 6), .mv, [(.t 144)], none, 0, 0⟩])))))
  (.seq
  (.ops [2, 3] [
    ⟨(.some 158), .mv, [(.t 5)], none, 0, 0⟩,
    ⟨(.some 2), .mv, [(.t 158)], none, 0, 0⟩,
    ⟨(.some 3), .mv, [(.c (.int .i64 0))], none, 0, 0⟩])
  .ret)))))))))
def r23 : List ARes := [(.tmp 2), (.tmp 3)]
theorem ok23 : FnOk Tryd.prog 23 c23 r23 :=
  ⟨Tryd.f23, _, Tryd.func23, by kernel_rfl, rfl, by kernel_rfl, by kernel_rfl⟩
/-- rill/seal.placed -/
def c24 : ACode :=
  (.seq
  (.ops [0] [
    ⟨(.some 2), .mv, [(.c (.bool false))], none, 0, 0⟩])
  (.seq
  (.seq
  (.ops [5, 6, 7] [
    ⟨(.some 5), .mv, [(.t 0)], none, 0, 0⟩,
    ⟨(.some 6), .len, [(.t 5)], none, 0, 0⟩,
    ⟨(.some 7), .mv, [(.c (.int .i64 0))], none, 0, 0⟩])
  (.block 0
    (.loop [5, 6, 7]
      (.seq
      (.ops [5, 6, 7, 8] [
        ⟨(.some 8), (.cmp .lss), [(.t 7), (.t 6)], none, 0, 0⟩])
      (.seq
      (.cond (.t 8)
        .skip
        (.exit 0))
      (.seq
      (.block 1
        (.seq
        (.ops [4, 5, 6, 7] [
          ⟨(.some 9), (.idxAddr 1), [(.t 5), (.t 7)], none, 0, 0⟩,
          ⟨(.some 10), (.load false 1), [(.t 9)], none, 0, 0⟩,
          ⟨(.some 4), .mv, [(.t 10)], none, 0, 0⟩])
        (.seq
        (.ops [5, 6, 7, 16] [
          ⟨(.some 11), .mv, [(.t 4)], none, 0, 0⟩,
          ⟨(.some 12), (.cmp .lss), [(.t 11), (.c (.int .i64 0))], none, 0, 0⟩,
          ⟨(.some 13), .mv, [(.t 12)], none, 0, 0⟩,
          ⟨(.some 14), .mv, [(.t 4)], (.some (13, false)), 0, 0⟩,
          ⟨(.some 15), (.cmp .gtr), [(.t 14), (.c (.int .i64 1099511627776))], (.some (13, false)), 0, 0⟩,
          ⟨(.some 16), .pick, [(.t 13), (.c (.bool true)), (.t 15)], none, 0, 0⟩])
        (.cond (.t 16)
          (.seq
          (.ops [2] [
            ⟨(.some 2), .mv, [(.c (.bool false))], none, 0, 0⟩])
          .ret)
          .skip))))
      (.ops [5, 6, 7] [
        ⟨(.some 17), (.arith .add), [(.t 7), (.c (.int .i64 1))], none, 0, 0⟩,
        ⟨(.some 7), .mv, [(.t 17)], none, 0, 0⟩])))))))
  (.seq
  (.ops [2] [
    ⟨(.some 2), .mv, [(.c (.bool true))], none, 0, 0⟩])
  .ret)))
def r24 : List ARes := [(.tmp 2)]
theorem ok24 : FnOk Tryd.prog 24 c24 r24 :=
  ⟨Tryd.f24, _, Tryd.func24, by kernel_rfl, rfl, by kernel_rfl, by kernel_rfl⟩
/-- rill/ctr.Xor -/
def c25 : ACode :=
  (.seq
  (.ops [0, 1, 2, 3] [
    ⟨(.some 8), .mv, [(.c .nils)], none, 0, 0⟩])
  (.seq
  (.ops [3, 9] [
    ⟨(.some 13), .mv, [(.t 0)], none, 0, 0⟩,
    ⟨(.some 14), .mv, [(.t 1)], none, 0, 0⟩,
    ⟨(.some 15), .mv, [(.t 2)], none, 0, 0⟩,
    ⟨(.some 16), (.call 39), [(.t 13), (.t 14), (.t 15)], none, 0, 0⟩,
    ⟨(.some 9), .mv, [(.t 16)], none, 0, 0⟩])
  (.seq
  (.ops [3, 9, 10] [
    ⟨(.some 17), .mv, [(.t 3)], none, 0, 0⟩,
    ⟨(.some 18), .len, [(.t 17)], none, 0, 0⟩,
    ⟨(.some 19), (.mkSlice [(.int .u8 0)] 1), [(.t 18), (.t 18)], none, 0, 0⟩,
    ⟨(.some 10), .mv, [(.t 19)], none, 0, 0⟩])
  (.seq
  (.seq
  (.ops [9, 10, 20, 21, 22] [
    ⟨(.some 20), .mv, [(.t 3)], none, 0, 0⟩,
    ⟨(.some 21), .len, [(.t 20)], none, 0, 0⟩,
    ⟨(.some 22), .mv, [(.c (.int .i64 0))], none, 0, 0⟩])
  (.block 0
    (.loop [9, 10, 20, 21, 22]
      (.seq
      (.ops [9, 10, 20, 21, 22, 23] [
        ⟨(.some 23), (.cmp .lss), [(.t 22), (.t 21)], none, 0, 0⟩])
      (.seq
      (.cond (.t 23)
        .skip
        (.exit 0))
      (.seq
      (.block 1
        (.seq
        (.ops [9, 10, 11, 12, 20, 21, 22] [
          ⟨(.some 24), .mv, [(.t 22)], none, 0, 0⟩,
          ⟨(.some 25), (.idxAddr 1), [(.t 20), (.t 22)], none, 0, 0⟩,
          ⟨(.some 26), (.load false 1), [(.t 25)], none, 0, 0⟩,
          ⟨(.some 11), .mv, [(.t 24)], none, 0, 0⟩,
          ⟨(.some 12), .mv, [(.t 26)], none, 0, 0⟩])
        (.ops [9, 10, 20, 21, 22] [
          ⟨(.some 27), .mv, [(.t 10)], none, 0, 0⟩,
          ⟨(.some 28), .mv, [(.t 11)], none, 0, 0⟩,
          ⟨(.some 29), .mv, [(.t 12)], none, 0, 0⟩,
          ⟨(.some 30), .mv, [(.t 9)], none, 0, 0⟩,
          ⟨(.some 31), .callv, [(.t 30)], none, 0, 0⟩,
          ⟨(.some 32), (.arith .xor), [(.t 29), (.t 31)], none, 0, 0⟩,
          ⟨(.some 33), (.idxAddr 1), [(.t 27), (.t 28)], none, 0, 0⟩,
          ⟨none, (.store 1), [(.t 33), (.t 32)], none, 0, 0⟩])))
      (.ops [9, 10, 20, 21, 22] [
        ⟨(.some 34), (.arith .add), [(.t 22), (.c (.int .i64 1))], none, 0, 0⟩,
        ⟨(.some 22), .mv, [(.t 34)], none, 0, 0⟩])))))))
  (.seq
  (.ops [8] [
    ⟨(.some 35), .mv, [(.t 10)], none, 0, 0⟩,
    ⟨(.some 8), .mv, [(.t 35)], none, 0, 0⟩])
  .ret)))))
def r25 : List ARes := [(.tmp 8)]
theorem ok25 : FnOk Tryd.prog 25 c25 r25 :=
  ⟨Tryd.f25, _, Tryd.func25, by kernel_rfl, rfl, by kernel_rfl, by kernel_rfl⟩
/-- (*rill/seal.Box).tag -/
def c26 : ACode :=
  (.seq
  (.ops [0, 1, 2, 3, 4, 10] [
    ⟨(.some 10), (.alloc (List.replicate 32 (.int .u8 0))), [], none, 0, 0⟩])
  (.seq
  (.drawn [10] [
    ⟨(.some 11), .mv, [(.t 0)], none, 0, 4⟩,
    ⟨(.some 12), .nilCheck, [(.t 11)], none, 0, 4⟩,
    ⟨(.some 13), (.fieldAddr 1), [(.t 12)], none, 0, 4⟩,
    ⟨(.some 14), (.load false 1), [(.t 13)], none, 0, 4⟩,
    ⟨(.some 15), .mv, [(.t 3)], none, 0, 0⟩,
    ⟨(.some 16), .len, [(.t 15)], none, 0, 0⟩,
    ⟨(.some 17), (.call 40), [(.t 16)], none, 0, 1⟩,
    ⟨(.some 18), .mv, [(.t 3)], none, 0, 3⟩,
    ⟨(.some 19), .mv, [(.t 1)], none, 0, 1⟩,
    ⟨(.some 20), (.call 40), [(.t 19)], none, 1, 2⟩,
    ⟨(.some 21), .mv, [(.t 2)], none, 0, 2⟩,
    ⟨(.some 22), (.call 40), [(.t 21)], none, 2, 3⟩,
    ⟨(.some 23), .mv, [(.t 4)], none, 0, 3⟩,
    ⟨(.some 24), (.mkSl 5 [.nils, .nils, .nils, .nils, .nils] [(0, 1), (1, 1), (2, 1), (3, 1), (4, 1)]), [(.t 17), (.t 18), (.t 20), (.t 22), (.t 23)], none, 3, 3⟩,
    ⟨(.some 25), (.call 27), [(.t 24)], none, 3, 4⟩,
    ⟨(.some 26), (.call 36), [(.t 14), (.t 25)], none, 4, 5⟩,
    ⟨none, (.store 32), [(.t 10), (.t 26)], none, 5, 6⟩])
  .ret))
def r26 : List ARes := [(.cell 10 true 32)]
theorem ok26 : FnOk Tryd.prog 26 c26 r26 :=
  ⟨Tryd.f26, _, Tryd.func26, by kernel_rfl, rfl, by kernel_rfl, by kernel_rfl⟩
/-- rill/seal.join -/
def c27 : ACode :=
  (.seq
  (.ops [0] [
    ⟨(.some 2), .mv, [(.c .nils)], none, 0, 0⟩])
  (.seq
  (.ops [0, 3] [
    ⟨(.some 3), .mv, [(.c .nils)], none, 0, 0⟩])
  (.seq
  (.seq
  (.ops [3, 6, 7, 8] [
    ⟨(.some 6), .mv, [(.t 0)], none, 0, 0⟩,
    ⟨(.some 7), .len, [(.t 6)], none, 0, 0⟩,
    ⟨(.some 8), .mv, [(.c (.int .i64 0))], none, 0, 0⟩])
  (.block 0
    (.loop [3, 6, 7, 8]
      (.seq
      (.ops [3, 6, 7, 8, 9] [
        ⟨(.some 9), (.cmp .lss), [(.t 8), (.t 7)], none, 0, 0⟩])
      (.seq
      (.cond (.t 9)
        .skip
        (.exit 0))
      (.seq
      (.block 1
        (.seq
        (.ops [3, 5, 6, 7, 8] [
          ⟨(.some 10), (.idxAddr 1), [(.t 6), (.t 8)], none, 0, 0⟩,
          ⟨(.some 11), (.load false 1), [(.t 10)], none, 0, 0⟩,
          ⟨(.some 5), .mv, [(.t 11)], none, 0, 0⟩])
        (.ops [3, 6, 7, 8] [
          ⟨(.some 12), .mv, [(.t 3)], none, 0, 0⟩,
          ⟨(.some 13), .mv, [(.t 5)], none, 0, 0⟩,
          ⟨(.some 14), (.append 1 1), [(.t 12), (.t 13)], none, 0, 0⟩,
          ⟨(.some 3), .mv, [(.t 14)], none, 0, 0⟩])))
      (.ops [3, 6, 7, 8] [
        ⟨(.some 15), (.arith .add), [(.t 8), (.c (.int .i64 1))], none, 0, 0⟩,
        ⟨(.some 8), .mv, [(.t 15)], none, 0, 0⟩])))))))
  (.seq
  (.ops [2] [
    ⟨(.some 16), .mv, [(.t 3)], none, 0, 0⟩,
    ⟨(.some 2), .mv, [(.t 16)], none, 0, 0⟩])
  .ret))))
def r27 : List ARes := [(.tmp 2)]
theorem ok27 : FnOk Tryd.prog 27 c27 r27 :=
  ⟨Tryd.f27, _, Tryd.func27, by kernel_rfl, rfl, by kernel_rfl, by kernel_rfl⟩
/-- rill/mac.Same -/
def c28 : ACode :=
  (.seq
  (.ops [2, 3] [
    ⟨(.some 2), .box, [(.t 0)], none, 0, 0⟩,
    ⟨(.some 3), .box, [(.t 1)], none, 0, 0⟩,
    ⟨(.some 4), .mv, [(.c (.bool false))], none, 0, 0⟩])
  (.seq
  (.ops [2, 3, 5] [
    ⟨(.some 5), .mv, [(.c (.int .u8 0))], none, 0, 0⟩])
  (.seq
  (.seq
  (.ops [2, 3, 5, 7] [
    ⟨(.some 7), .mv, [(.c (.int .i64 0))], none, 0, 0⟩])
  (.block 0
    (.loop [2, 3, 5, 7]
      (.seq
      (.ops [2, 3, 5, 7, 8] [
        ⟨(.some 8), (.cmp .lss), [(.t 7), (.c (.int .i64 32))], none, 0, 0⟩])
      (.seq
      (.cond (.t 8)
        .skip
        (.exit 0))
      (.seq
      (.block 1
        (.seq
        (.ops [2, 3, 5, 6, 7] [
          ⟨(.some 9), .mv, [(.t 7)], none, 0, 0⟩,
          ⟨(.some 6), .mv, [(.t 9)], none, 0, 0⟩])
        (.drawn [2, 3, 5, 7] [
          ⟨(.some 10), .mv, [(.t 5)], none, 0, 0⟩,
          ⟨(.some 11), .mv, [(.t 6)], none, 0, 0⟩,
          ⟨(.some 12), (.idxAddrArr 32 1), [(.t 2), (.t 11)], none, 0, 0⟩,
          ⟨(.some 13), (.load false 1), [(.t 12)], none, 0, 0⟩,
          ⟨(.some 14), .mv, [(.t 6)], none, 0, 0⟩,
          ⟨(.some 15), (.idxAddrArr 32 1), [(.t 3), (.t 14)], none, 0, 0⟩,
          ⟨(.some 16), (.load false 1), [(.t 15)], none, 0, 0⟩,
          ⟨(.some 17), (.arith .xor), [(.t 13), (.t 16)], none, 0, 0⟩,
          ⟨(.some 18), (.arith .or), [(.t 10), (.t 17)], none, 0, 0⟩,
          ⟨(.some 5), .mv, [(.t 18)], none, 0, 0⟩])))
      (.ops [2, 3, 5, 7] [
        ⟨(.some 19), (.arith .add), [(.t 7), (.c (.int .i64 1))], none, 0, 0⟩,
        ⟨(.some 7), .mv, [(.t 19)], none, 0, 0⟩])))))))
  (.seq
  (.ops [4] [
    ⟨(.some 20), .mv, [(.t 5)], none, 0, 0⟩,
    ⟨(.some 21), (.eq false .int), [(.t 20), (.c (.int .u8 0))], none, 0, 0⟩,
    ⟨(.some 4), .mv, [(.t 21)], none, 0, 0⟩])
  .ret))))
def r28 : List ARes := [(.tmp 4)]
theorem ok28 : FnOk Tryd.prog 28 c28 r28 :=
  ⟨Tryd.f28, _, Tryd.func28, by kernel_rfl, rfl, by kernel_rfl, by kernel_rfl⟩
/-- rill/rillref02.Derive -/
def c29 : ACode :=
  (.seq
  (.ops [0, 1, 4] [
    ⟨(.some 4), (.alloc (List.replicate 32 (.int .u8 0))), [], none, 0, 0⟩])
  (.seq
  (.ops [4] [
    ⟨(.some 5), .mv, [(.t 0)], none, 0, 0⟩,
    ⟨(.some 6), .mv, [(.t 1)], none, 0, 0⟩,
    ⟨(.some 7), .s2b, [(.t 6)], none, 0, 0⟩,
    ⟨(.some 8), (.call 41), [(.t 5), (.t 7)], none, 0, 0⟩,
    ⟨none, (.store 32), [(.t 4), (.t 8)], none, 0, 0⟩])
  .ret))
def r29 : List ARes := [(.cell 4 true 32)]
theorem ok29 : FnOk Tryd.prog 29 c29 r29 :=
  ⟨Tryd.f29, _, Tryd.func29, by kernel_rfl, rfl, by kernel_rfl, by kernel_rfl⟩
/-- rill/rillref03.New -/
def c30 : ACode :=
  (.seq
  (.ops [0] [
    ⟨(.some 2), .mv, [(.c .nilp)], none, 0, 0⟩,
    ⟨(.some 3), .mv, [(.c (.int .i64 0))], none, 0, 0⟩])
  (.seq
  (.seq
  (.ops [0, 23] [
    ⟨(.some 11), .mv, [(.t 0)], none, 0, 0⟩,
    ⟨(.some 12), .len, [(.t 11)], none, 0, 0⟩,
    ⟨(.some 13), (.eq true .int), [(.t 12), (.c (.int .i64 16))], none, 0, 0⟩,
    ⟨(.some 14), .mv, [(.t 13)], none, 0, 0⟩,
    ⟨(.some 15), .mv, [(.t 0)], (.some (14, true)), 0, 0⟩,
    ⟨(.some 16), .len, [(.t 15)], (.some (14, true)), 0, 0⟩,
    ⟨(.some 17), (.eq true .int), [(.t 16), (.c (.int .i64 24))], (.some (14, true)), 0, 0⟩,
    ⟨(.some 18), .pick, [(.t 14), (.t 17), (.c (.bool false))], none, 0, 0⟩,
    ⟨(.some 19), .mv, [(.t 18)], none, 0, 0⟩,
    ⟨(.some 20), .mv, [(.t 0)], (.some (19, true)), 0, 0⟩,
    ⟨(.some 21), .len, [(.t 20)], (.some (19, true)), 0, 0⟩,
    ⟨(.some 22), (.eq true .int), [(.t 21), (.c (.int .i64 32))], (.some (19, true)), 0, 0⟩,
    ⟨(.some 23), .pick, [(.t 19), (.t 22), (.c (.bool false))], none, 0, 0⟩])
  (.cond (.t 23)
    (.seq
    (.ops [2, 3] [
      ⟨(.some 2), .mv, [(.c .nilp)], none, 0, 0⟩,
      ⟨(.some 3), .mv, [(.c (.int .i64 1))], none, 0, 0⟩])
    .ret)
    .skip))
  (.seq
  (.ops [0, 4] [
    ⟨(.some 24), (.call 42), [], none, 0, 0⟩,
    ⟨(.some 25), (.build [.nils, .nils] [(1, 1)]), [(.t 24)], none, 0, 0⟩,
    ⟨(.some 26), .box, [(.t 25)], none, 0, 0⟩,
    ⟨(.some 4), .mv, [(.t 26)], none, 0, 0⟩])
  (.seq
  (.ops [0, 4, 5] [
    ⟨(.some 27), .mv, [(.t 0)], none, 0, 0⟩,
    ⟨(.some 28), .len, [(.t 27)], none, 0, 0⟩,
    ⟨(.some 29), (.arith .quo), [(.t 28), (.c (.int .i64 4))], none, 0, 0⟩,
    ⟨(.some 5), .mv, [(.t 29)], none, 0, 0⟩])
  (.seq
  (.seq
  (.ops [0, 4, 5, 6] [
    ⟨(.some 6), .mv, [(.c (.int .i64 0))], none, 0, 0⟩])
  (.block 0
    (.loop [0, 4, 5, 6]
      (.seq
      (.seq
      (.ops [0, 4, 5, 6, 32] [
        ⟨(.some 30), .mv, [(.t 6)], none, 0, 0⟩,
        ⟨(.some 31), .mv, [(.t 5)], none, 0, 0⟩,
        ⟨(.some 32), (.cmp .lss), [(.t 30), (.t 31)], none, 0, 0⟩])
      (.cond (.t 32)
        .skip
        (.exit 0)))
      (.seq
      (.block 1
        (.drawn [0, 4, 5, 6] [
          ⟨(.some 35), .mv, [(.t 4)], none, 0, 2⟩,
          ⟨(.some 36), .mv, [(.t 4)], none, 0, 1⟩,
          ⟨(.some 37), .nilCheck, [(.t 36)], none, 0, 1⟩,
          ⟨(.some 38), (.fieldAddr 0), [(.t 37)], none, 0, 1⟩,
          ⟨(.some 39), (.load false 1), [(.t 38)], none, 0, 1⟩,
          ⟨(.some 40), (.mkSl 0 [] []), [], none, 0, 0⟩,
          ⟨(.some 41), .mv, [(.t 0)], none, 0, 0⟩,
          ⟨(.some 42), .mv, [(.t 6)], none, 0, 0⟩,
          ⟨(.some 43), (.arith .mul), [(.c (.int .i64 4)), (.t 42)], none, 0, 0⟩,
          ⟨(.some 44), .mv, [(.t 6)], none, 0, 0⟩,
          ⟨(.some 45), (.arith .mul), [(.c (.int .i64 4)), (.t 44)], none, 0, 0⟩,
          ⟨(.some 46), (.arith .add), [(.t 45), (.c (.int .i64 4))], none, 0, 0⟩,
          ⟨(.some 47), (.slice 1 true true false), [(.t 41), (.t 43), (.t 46)], none, 0, 0⟩,
          ⟨(.some 48), (.append 1 1), [(.t 40), (.t 47)], none, 0, 1⟩,
          ⟨(.some 49), (.mkSl 1 [.nils] [(0, 1)]), [(.t 48)], none, 1, 1⟩,
          ⟨(.some 50), (.append 1 24), [(.t 39), (.t 49)], none, 1, 2⟩,
          ⟨(.some 51), .nilCheck, [(.t 35)], none, 2, 2⟩,
          ⟨(.some 52), (.fieldAddr 0), [(.t 51)], none, 2, 2⟩,
          ⟨none, (.store 1), [(.t 52), (.t 50)], none, 2, 3⟩]))
      (.ops [0, 4, 5, 6] [
        ⟨(.some 33), .mv, [(.t 6)], none, 0, 0⟩,
        ⟨(.some 34), (.arith .add), [(.t 33), (.c (.int .i64 1))], none, 0, 0⟩,
        ⟨(.some 6), .mv, [(.t 34)], none, 0, 0⟩]))))))
  (.seq
  (.ops [4, 5, 7] [
    ⟨(.some 7), .mv, [(.c (.int .u8 1))], none, 0, 0⟩])
  (.seq
  (.seq
  (.ops [4, 5, 7, 8] [
    ⟨(.some 53), .mv, [(.t 5)], none, 0, 0⟩,
    ⟨(.some 8), .mv, [(.t 53)], none, 0, 0⟩])
  (.block 2
    (.loop [4, 5, 7, 8]
      (.seq
      (.seq
      (.ops [4, 5, 7, 8, 58] [
        ⟨(.some 54), .mv, [(.t 8)], none, 0, 0⟩,
        ⟨(.some 55), .mv, [(.t 5)], none, 0, 0⟩,
        ⟨(.some 56), (.arith .add), [(.t 55), (.c (.int .i64 7))], none, 0, 0⟩,
        ⟨(.some 57), (.arith .mul), [(.c (.int .i64 4)), (.t 56)], none, 0, 0⟩,
        ⟨(.some 58), (.cmp .lss), [(.t 54), (.t 57)], none, 0, 0⟩])
      (.cond (.t 58)
        .skip
        (.exit 2)))
      (.seq
      (.block 3
        (.seq
        (.ops [4, 5, 7, 8, 9] [
          ⟨(.some 61), (.mkSl 0 [] []), [], none, 0, 0⟩,
          ⟨(.some 62), .mv, [(.t 4)], none, 0, 0⟩,
          ⟨(.some 63), .nilCheck, [(.t 62)], none, 0, 0⟩,
          ⟨(.some 64), (.fieldAddr 0), [(.t 63)], none, 0, 0⟩,
          ⟨(.some 65), (.load false 1), [(.t 64)], none, 0, 0⟩,
          ⟨(.some 66), .mv, [(.t 8)], none, 0, 0⟩,
          ⟨(.some 67), (.arith .sub), [(.t 66), (.c (.int .i64 1))], none, 0, 0⟩,
          ⟨(.some 68), (.idxAddr 1), [(.t 65), (.t 67)], none, 0, 0⟩,
          ⟨(.some 69), (.load false 1), [(.t 68)], none, 0, 0⟩,
          ⟨(.some 70), (.append 1 1), [(.t 61), (.t 69)], none, 0, 0⟩,
          ⟨(.some 9), .mv, [(.t 70)], none, 0, 0⟩])
        (.seq
        (.seq
        (.ops [4, 5, 7, 8, 9, 74] [
          ⟨(.some 71), .mv, [(.t 8)], none, 0, 0⟩,
          ⟨(.some 72), .mv, [(.t 5)], none, 0, 0⟩,
          ⟨(.some 73), (.arith .rem), [(.t 71), (.t 72)], none, 0, 0⟩,
          ⟨(.some 74), (.eq false .int), [(.t 73), (.c (.int .i64 0))], none, 0, 0⟩])
        (.cond (.t 74)
          (.seq
          (.drawn [4, 5, 7, 8, 9] [
            ⟨(.some 75), .mv, [(.t 4)], none, 0, 0⟩,
            ⟨(.some 76), .nilCheck, [(.t 75)], none, 0, 0⟩,
            ⟨(.some 77), (.fieldAddr 1), [(.t 76)], none, 0, 0⟩,
            ⟨(.some 78), (.load false 1), [(.t 77)], none, 0, 0⟩,
            ⟨(.some 79), .mv, [(.t 9)], none, 0, 0⟩,
            ⟨(.some 80), (.idxAddr 1), [(.t 79), (.c (.int .i64 1))], none, 0, 0⟩,
            ⟨(.some 81), (.load false 1), [(.t 80)], none, 0, 0⟩,
            ⟨(.some 82), (.idxAddr 1), [(.t 78), (.t 81)], none, 0, 0⟩,
            ⟨(.some 83), (.load false 1), [(.t 82)], none, 0, 0⟩,
            ⟨(.some 84), .mv, [(.t 7)], none, 0, 0⟩,
            ⟨(.some 85), (.arith .xor), [(.t 83), (.t 84)], none, 0, 0⟩,
            ⟨(.some 86), .mv, [(.t 4)], none, 0, 0⟩,
            ⟨(.some 87), .nilCheck, [(.t 86)], none, 0, 0⟩,
            ⟨(.some 88), (.fieldAddr 1), [(.t 87)], none, 0, 0⟩,
            ⟨(.some 89), (.load false 1), [(.t 88)], none, 0, 0⟩,
            ⟨(.some 90), .mv, [(.t 9)], none, 0, 0⟩,
            ⟨(.some 91), (.idxAddr 1), [(.t 90), (.c (.int .i64 2))], none, 0, 0⟩,
            ⟨(.some 92), (.load false 1), [(.t 91)], none, 0, 0⟩,
            ⟨(.some 93), (.idxAddr 1), [(.t 89), (.t 92)], none, 0, 0⟩,
            ⟨(.some 94), (.load false 1), [(.t 93)], none, 0, 0⟩,
            ⟨(.some 95), .mv, [(.t 4)], none, 0, 0⟩,
            ⟨(.some 96), .nilCheck, [(.t 95)], none, 0, 0⟩,
            ⟨(.some 97), (.fieldAddr 1), [(.t 96)], none, 0, 0⟩,
            ⟨(.some 98), (.load false 1), [(.t 97)], none, 0, 0⟩,
            ⟨(.some 99), .mv, [(.t 9)], none, 0, 0⟩,
            ⟨(.some 100), (.idxAddr 1), [(.t 99), (.c (.int .i64 3))], none, 0, 0⟩,
            ⟨(.some 101), (.load false 1), [(.t 100)], none, 0, 0⟩,
            ⟨(.some 102), (.idxAddr 1), [(.t 98), (.t 101)], none, 0, 0⟩,
            ⟨(.some 103), (.load false 1), [(.t 102)], none, 0, 0⟩,
            ⟨(.some 104), .mv, [(.t 4)], none, 0, 0⟩,
            ⟨(.some 105), .nilCheck, [(.t 104)], none, 0, 0⟩,
            ⟨(.some 106), (.fieldAddr 1), [(.t 105)], none, 0, 0⟩,
            ⟨(.some 107), (.load false 1), [(.t 106)], none, 0, 0⟩,
            ⟨(.some 108), .mv, [(.t 9)], none, 0, 0⟩,
            ⟨(.some 109), (.idxAddr 1), [(.t 108), (.c (.int .i64 0))], none, 0, 0⟩,
            ⟨(.some 110), (.load false 1), [(.t 109)], none, 0, 0⟩,
            ⟨(.some 111), (.idxAddr 1), [(.t 107), (.t 110)], none, 0, 0⟩,
            ⟨(.some 112), (.load false 1), [(.t 111)], none, 0, 0⟩,
            ⟨(.some 113), (.mkSl 4 [(.int .u8 0), (.int .u8 0), (.int .u8 0), (.int .u8 0)] [(0, 1), (1, 1), (2, 1), (3, 1)]), [(.t 85), (.t 94), (.t 103), (.t 112)], none, 0, 0⟩,
            ⟨(.some 9), .mv, [(.t 113)], none, 0, 0⟩])
          (.ops [4, 5, 7, 8, 9] [
            ⟨(.some 114), .mv, [(.t 7)], none, 0, 0⟩,
            ⟨(.some 115), (.call 43), [(.t 114)], none, 0, 0⟩,
            ⟨(.some 7), .mv, [(.t 115)], none, 0, 0⟩]))
          (.seq
          (.ops [4, 5, 7, 8, 9, 122] [
            ⟨(.some 116), .mv, [(.t 5)], none, 0, 0⟩,
            ⟨(.some 117), (.eq false .int), [(.t 116), (.c (.int .i64 8))], none, 0, 0⟩,
            ⟨(.some 118), .mv, [(.t 117)], none, 0, 0⟩,
            ⟨(.some 119), .mv, [(.t 8)], (.some (118, true)), 0, 0⟩,
            ⟨(.some 120), (.arith .rem), [(.t 119), (.c (.int .i64 8))], (.some (118, true)), 0, 0⟩,
            ⟨(.some 121), (.eq false .int), [(.t 120), (.c (.int .i64 4))], (.some (118, true)), 0, 0⟩,
            ⟨(.some 122), .pick, [(.t 118), (.t 121), (.c (.bool false))], none, 0, 0⟩])
          (.cond (.t 122)
            (.drawn [4, 5, 7, 8, 9] [
              ⟨(.some 123), .mv, [(.t 4)], none, 0, 0⟩,
              ⟨(.some 124), .nilCheck, [(.t 123)], none, 0, 0⟩,
              ⟨(.some 125), (.fieldAddr 1), [(.t 124)], none, 0, 0⟩,
              ⟨(.some 126), (.load false 1), [(.t 125)], none, 0, 0⟩,
              ⟨(.some 127), .mv, [(.t 9)], none, 0, 0⟩,
              ⟨(.some 128), (.idxAddr 1), [(.t 127), (.c (.int .i64 0))], none, 0, 0⟩,
              ⟨(.some 129), (.load false 1), [(.t 128)], none, 0, 0⟩,
              ⟨(.some 130), (.idxAddr 1), [(.t 126), (.t 129)], none, 0, 0⟩,
              ⟨(.some 131), (.load false 1), [(.t 130)], none, 0, 0⟩,
              ⟨(.some 132), .mv, [(.t 4)], none, 0, 0⟩,
              ⟨(.some 133), .nilCheck, [(.t 132)], none, 0, 0⟩,
              ⟨(.some 134), (.fieldAddr 1), [(.t 133)], none, 0, 0⟩,
              ⟨(.some 135), (.load false 1), [(.t 134)], none, 0, 0⟩,
              ⟨(.some 136), .mv, [(.t 9)], none, 0, 0⟩,
              ⟨(.some 137), (.idxAddr 1), [(.t 136), (.c (.int .i64 1))], none, 0, 0⟩,
              ⟨(.some 138), (.load false 1), [(.t 137)], none, 0, 0⟩,
              ⟨(.some 139), (.idxAddr 1), [(.t 135), (.t 138)], none, 0, 0⟩,
              ⟨(.some 140), (.load false 1), [(.t 139)], none, 0, 0⟩,
              ⟨(.some 141), .mv, [(.t 4)], none, 0, 0⟩,
              ⟨(.some 142), .nilCheck, [(.t 141)], none, 0, 0⟩,
              ⟨(.some 143), (.fieldAddr 1), [(.t 142)], none, 0, 0⟩,
              ⟨(.some 144), (.load false 1), [(.t 143)], none, 0, 0⟩,
              ⟨(.some 145), .mv, [(.t 9)], none, 0, 0⟩,
              ⟨(.some 146), (.idxAddr 1), [(.t 145), (.c (.int .i64 2))], none, 0, 0⟩,
              ⟨(.some 147), (.load false 1), [(.t 146)], none, 0, 0⟩,
              ⟨(.some 148), (.idxAddr 1), [(.t 144), (.t 147)], none, 0, 0⟩,
              ⟨(.some 149), (.load false 1), [(.t 148)], none, 0, 0⟩,
              ⟨(.some 150), .mv, [(.t 4)], none, 0, 0⟩,
              ⟨(.some 151), .nilCheck, [(.t 150)], none, 0, 0⟩,
              ⟨(.some 152), (.fieldAddr 1), [(.t 151)], none, 0, 0⟩,
              ⟨(.some 153), (.load false 1), [(.t 152)], none, 0, 0⟩,
              ⟨(.some 154), .mv, [(.t 9)], none, 0, 0⟩,
              ⟨(.some 155), (.idxAddr 1), [(.t 154), (.c (.int .i64 3))], none, 0, 0⟩,
              ⟨(.some 156), (.load false 1), [(.t 155)], none, 0, 0⟩,
              ⟨(.some 157), (.idxAddr 1), [(.t 153), (.t 156)], none, 0, 0⟩,
              ⟨(.some 158), (.load false 1), [(.t 157)], none, 0, 0⟩,
              ⟨(.some 159), (.mkSl 4 [(.int .u8 0), (.int .u8 0), (.int .u8 0), (.int .u8 0)] [(0, 1), (1, 1), (2, 1), (3, 1)]), [(.t 131), (.t 140), (.t 149), (.t 158)], none, 0, 0⟩,
              ⟨(.some 9), .mv, [(.t 159)], none, 0, 0⟩])
            .skip))))
        (.seq
        (.ops [4, 5, 7, 8, 9, 10] [
          ⟨(.some 160), .mv, [(.t 4)], none, 0, 0⟩,
          ⟨(.some 161), .nilCheck, [(.t 160)], none, 0, 0⟩,
          ⟨(.some 162), (.fieldAddr 0), [(.t 161)], none, 0, 0⟩,
          ⟨(.some 163), (.load false 1), [(.t 162)], none, 0, 0⟩,
          ⟨(.some 164), .mv, [(.t 8)], none, 0, 0⟩,
          ⟨(.some 165), .mv, [(.t 5)], none, 0, 0⟩,
          ⟨(.some 166), (.arith .sub), [(.t 164), (.t 165)], none, 0, 0⟩,
          ⟨(.some 167), (.idxAddr 1), [(.t 163), (.t 166)], none, 0, 0⟩,
          ⟨(.some 168), (.load false 1), [(.t 167)], none, 0, 0⟩,
          ⟨(.some 10), .mv, [(.t 168)], none, 0, 0⟩])
        (.drawn [4, 5, 7, 8] [
          ⟨(.some 169), .mv, [(.t 4)], none, 0, 1⟩,
          ⟨(.some 170), .mv, [(.t 4)], none, 0, 0⟩,
          ⟨(.some 171), .nilCheck, [(.t 170)], none, 0, 0⟩,
          ⟨(.some 172), (.fieldAddr 0), [(.t 171)], none, 0, 0⟩,
          ⟨(.some 173), (.load false 1), [(.t 172)], none, 0, 0⟩,
          ⟨(.some 174), .mv, [(.t 10)], none, 0, 0⟩,
          ⟨(.some 175), (.idxAddr 1), [(.t 174), (.c (.int .i64 0))], none, 0, 0⟩,
          ⟨(.some 176), (.load false 1), [(.t 175)], none, 0, 0⟩,
          ⟨(.some 177), .mv, [(.t 9)], none, 0, 0⟩,
          ⟨(.some 178), (.idxAddr 1), [(.t 177), (.c (.int .i64 0))], none, 0, 0⟩,
          ⟨(.some 179), (.load false 1), [(.t 178)], none, 0, 0⟩,
          ⟨(.some 180), (.arith .xor), [(.t 176), (.t 179)], none, 0, 0⟩,
          ⟨(.some 181), .mv, [(.t 10)], none, 0, 0⟩,
          ⟨(.some 182), (.idxAddr 1), [(.t 181), (.c (.int .i64 1))], none, 0, 0⟩,
          ⟨(.some 183), (.load false 1), [(.t 182)], none, 0, 0⟩,
          ⟨(.some 184), .mv, [(.t 9)], none, 0, 0⟩,
          ⟨(.some 185), (.idxAddr 1), [(.t 184), (.c (.int .i64 1))], none, 0, 0⟩,
          ⟨(.some 186), (.load false 1), [(.t 185)], none, 0, 0⟩,
          ⟨(.some 187), (.arith .xor), [(.t 183), (.t 186)], none, 0, 0⟩,
          ⟨(.some 188), .mv, [(.t 10)], none, 0, 0⟩,
          ⟨(.some 189), (.idxAddr 1), [(.t 188), (.c (.int .i64 2))], none, 0, 0⟩,
          ⟨(.some 190), (.load false 1), [(.t 189)], none, 0, 0⟩,
          ⟨(.some 191), .mv, [(.t 9)], none, 0, 0⟩,
          ⟨(.some 192), (.idxAddr 1), [(.t 191), (.c (.int .i64 2))], none, 0, 0⟩,
          ⟨(.some 193), (.load false 1), [(.t 192)], none, 0, 0⟩,
          ⟨(.some 194), (.arith .xor), [(.t 190), (.t 193)], none, 0, 0⟩,
          ⟨(.some 195), .mv, [(.t 10)], none, 0, 0⟩,
          ⟨(.some 196), (.idxAddr 1), [(.t 195), (.c (.int .i64 3))], none, 0, 0⟩,
          ⟨(.some 197), (.load false 1), [(.t 196)], none, 0, 0⟩,
          ⟨(.some 198), .mv, [(.t 9)], none, 0, 0⟩,
          ⟨(.some 199), (.idxAddr 1), [(.t 198), (.c (.int .i64 3))], none, 0, 0⟩,
          ⟨(.some 200), (.load false 1), [(.t 199)], none, 0, 0⟩,
          ⟨(.some 201), (.arith .xor), [(.t 197), (.t 200)], none, 0, 0⟩,
          ⟨(.some 202), (.mkSl 4 [(.int .u8 0), (.int .u8 0), (.int .u8 0), (.int .u8 0)] [(0, 1), (1, 1), (2, 1), (3, 1)]), [(.t 180), (.t 187), (.t 194), (.t 201)], none, 0, 0⟩,
          ⟨(.some 203), (.mkSl 1 [.nils] [(0, 1)]), [(.t 202)], none, 0, 0⟩,
          ⟨(.some 204), (.append 1 24), [(.t 173), (.t 203)], none, 0, 1⟩,
          ⟨(.some 205), .nilCheck, [(.t 169)], none, 1, 1⟩,
          ⟨(.some 206), (.fieldAddr 0), [(.t 205)], none, 1, 1⟩,
          ⟨none, (.store 1), [(.t 206), (.t 204)], none, 1, 2⟩])))))
      (.ops [4, 5, 7, 8] [
        ⟨(.some 59), .mv, [(.t 8)], none, 0, 0⟩,
        ⟨(.some 60), (.arith .add), [(.t 59), (.c (.int .i64 1))], none, 0, 0⟩,
        ⟨(.some 8), .mv, [(.t 60)], none, 0, 0⟩]))))))
  (.seq
  (.ops [2, 3] [
    ⟨(.some 207), .mv, [(.t 4)], none, 0, 0⟩,
    ⟨(.some 2), .mv, [(.t 207)], none, 0, 0⟩,
    ⟨(.some 3), .mv, [(.c (.int .i64 0))], none, 0, 0⟩])
  .ret))))))))
def r30 : List ARes := [(.tmp 2), (.tmp 3)]
theorem ok30 : FnOk Tryd.prog 30 c30 r30 :=
  ⟨Tryd.f30, _, Tryd.func30, by kernel_rfl, rfl, by kernel_rfl, by kernel_rfl⟩
/-- rill/rillref05.right -/
def c31 : ACode :=
  (.seq
  (.ops [0, 1] [
    ⟨(.some 4), .mv, [(.c (.bool false))], none, 0, 0⟩])
  (.seq
  (.ops [4] [
    ⟨(.some 5), .mv, [(.t 0)], none, 0, 0⟩,
    ⟨(.some 6), (.cmp .geq), [(.t 5), (.c (.int .i64 0))], none, 0, 0⟩,
    ⟨(.some 7), .mv, [(.t 6)], none, 0, 0⟩,
    ⟨(.some 8), .mv, [(.t 0)], (.some (7, true)), 0, 0⟩,
    ⟨(.some 9), (.cmp .leq), [(.t 8), (.c (.int .i64 1099511627776))], (.some (7, true)), 0, 0⟩,
    ⟨(.some 10), .pick, [(.t 7), (.t 9), (.c (.bool false))], none, 0, 0⟩,
    ⟨(.some 11), .mv, [(.t 10)], none, 0, 0⟩,
    ⟨(.some 12), .mv, [(.t 1)], (.some (11, true)), 0, 0⟩,
    ⟨(.some 13), (.cmp .geq), [(.t 12), (.c (.int .i64 0))], (.some (11, true)), 0, 0⟩,
    ⟨(.some 14), .pick, [(.t 11), (.t 13), (.c (.bool false))], none, 0, 0⟩,
    ⟨(.some 15), .mv, [(.t 14)], none, 0, 0⟩,
    ⟨(.some 16), .mv, [(.t 1)], (.some (15, true)), 0, 0⟩,
    ⟨(.some 17), (.cmp .leq), [(.t 16), (.c (.int .i64 1099511627776))], (.some (15, true)), 0, 0⟩,
    ⟨(.some 18), .pick, [(.t 15), (.t 17), (.c (.bool false))], none, 0, 0⟩,
    ⟨(.some 4), .mv, [(.t 18)], none, 0, 0⟩])
  .ret))
def r31 : List ARes := [(.tmp 4)]
theorem ok31 : FnOk Tryd.prog 31 c31 r31 :=
  ⟨Tryd.f31, _, Tryd.func31, by kernel_rfl, rfl, by kernel_rfl, by kernel_rfl⟩
/-- (*rill/rillref05.Box).Tag -/
def c32 : ACode :=
  (.seq
  (.ops [0, 1, 2, 3, 4, 10] [
    ⟨(.some 10), (.alloc (List.replicate 32 (.int .u8 0))), [], none, 0, 0⟩])
  (.seq
  (.ops [0, 1, 2, 4, 10, 11] [
    ⟨(.some 12), .mv, [(.t 3)], none, 0, 0⟩,
    ⟨(.some 13), .len, [(.t 12)], none, 0, 0⟩,
    ⟨(.some 14), (.call 44), [(.t 13)], none, 0, 0⟩,
    ⟨(.some 15), .mv, [(.t 3)], none, 0, 0⟩,
    ⟨(.some 16), (.append 1 1), [(.t 14), (.t 15)], none, 0, 0⟩,
    ⟨(.some 11), .mv, [(.t 16)], none, 0, 0⟩])
  (.seq
  (.ops [0, 4, 10, 11] [
    ⟨(.some 17), .mv, [(.t 11)], none, 0, 0⟩,
    ⟨(.some 18), .mv, [(.t 1)], none, 0, 0⟩,
    ⟨(.some 19), (.call 44), [(.t 18)], none, 0, 0⟩,
    ⟨(.some 20), (.append 1 1), [(.t 17), (.t 19)], none, 0, 0⟩,
    ⟨(.some 21), .mv, [(.t 2)], none, 0, 0⟩,
    ⟨(.some 22), (.call 44), [(.t 21)], none, 0, 0⟩,
    ⟨(.some 23), (.append 1 1), [(.t 20), (.t 22)], none, 0, 0⟩,
    ⟨(.some 11), .mv, [(.t 23)], none, 0, 0⟩])
  (.seq
  (.drawn [10] [
    ⟨(.some 24), .mv, [(.t 0)], none, 0, 1⟩,
    ⟨(.some 25), .nilCheck, [(.t 24)], none, 0, 1⟩,
    ⟨(.some 26), (.fieldAddr 1), [(.t 25)], none, 0, 1⟩,
    ⟨(.some 27), (.load false 1), [(.t 26)], none, 0, 1⟩,
    ⟨(.some 28), .mv, [(.t 11)], none, 0, 0⟩,
    ⟨(.some 29), .mv, [(.t 4)], none, 0, 0⟩,
    ⟨(.some 30), (.append 1 1), [(.t 28), (.t 29)], none, 0, 1⟩,
    ⟨(.some 31), (.call 41), [(.t 27), (.t 30)], none, 1, 2⟩,
    ⟨none, (.store 32), [(.t 10), (.t 31)], none, 2, 3⟩])
  .ret))))
def r32 : List ARes := [(.cell 10 true 32)]
theorem ok32 : FnOk Tryd.prog 32 c32 r32 :=
  ⟨Tryd.f32, _, Tryd.func32, by kernel_rfl, rfl, by kernel_rfl, by kernel_rfl⟩
/-- rill/rillref04.Xor -/
def c33 : ACode :=
  (.seq
  (.ops [0, 1, 2, 3] [
    ⟨(.some 8), .mv, [(.c .nils)], none, 0, 0⟩])
  (.seq
  (.ops [0, 1, 2, 3, 9] [
    ⟨(.some 9), .mv, [(.c .nils)], none, 0, 0⟩])
  (.seq
  (.seq
  (.ops [0, 1, 2, 3, 9, 10] [
    ⟨(.some 10), .mv, [(.c (.int .i64 0))], none, 0, 0⟩])
  (.block 0
    (.loop [0, 1, 2, 3, 9, 10]
      (.seq
      (.seq
      (.ops [0, 1, 2, 3, 9, 10, 16] [
        ⟨(.some 13), .mv, [(.t 10)], none, 0, 0⟩,
        ⟨(.some 14), .mv, [(.t 3)], none, 0, 0⟩,
        ⟨(.some 15), .len, [(.t 14)], none, 0, 0⟩,
        ⟨(.some 16), (.cmp .lss), [(.t 13), (.t 15)], none, 0, 0⟩])
      (.cond (.t 16)
        .skip
        (.exit 0)))
      (.seq
      (.block 1
        (.seq
        (.ops [0, 1, 2, 3, 9, 10, 11] [
          ⟨(.some 19), .mv, [(.t 0)], none, 0, 0⟩,
          ⟨(.some 20), .mv, [(.t 1)], none, 0, 0⟩,
          ⟨(.some 21), .mv, [(.t 2)], none, 0, 0⟩,
          ⟨(.some 22), .mv, [(.t 10)], none, 0, 0⟩,
          ⟨(.some 23), (.arith .quo), [(.t 22), (.c (.int .i64 16))], none, 0, 0⟩,
          ⟨(.some 24), (.call 45), [(.t 19), (.t 20), (.t 21), (.t 23)], none, 0, 0⟩,
          ⟨(.some 11), (.alloc (List.replicate 16 (.int .u8 0))), [], none, 0, 0⟩,
          ⟨none, (.store 16), [(.t 11), (.t 24)], none, 0, 0⟩])
        (.seq
        (.ops [0, 1, 2, 3, 9, 10, 11, 12] [
          ⟨(.some 12), .mv, [(.c (.int .i64 0))], none, 0, 0⟩])
        (.block 2
          (.loop [0, 1, 2, 3, 9, 10, 11, 12]
            (.seq
            (.seq
            (.ops [0, 1, 2, 3, 9, 10, 11, 12, 34] [
              ⟨(.some 25), .mv, [(.t 12)], none, 0, 0⟩,
              ⟨(.some 26), (.cmp .lss), [(.t 25), (.c (.int .i64 16))], none, 0, 0⟩,
              ⟨(.some 27), .mv, [(.t 26)], none, 0, 0⟩,
              ⟨(.some 28), .mv, [(.t 10)], (.some (27, true)), 0, 0⟩,
              ⟨(.some 29), .mv, [(.t 12)], (.some (27, true)), 0, 0⟩,
              ⟨(.some 30), (.arith .add), [(.t 28), (.t 29)], (.some (27, true)), 0, 0⟩,
              ⟨(.some 31), .mv, [(.t 3)], (.some (27, true)), 0, 0⟩,
              ⟨(.some 32), .len, [(.t 31)], (.some (27, true)), 0, 0⟩,
              ⟨(.some 33), (.cmp .lss), [(.t 30), (.t 32)], (.some (27, true)), 0, 0⟩,
              ⟨(.some 34), .pick, [(.t 27), (.t 33), (.c (.bool false))], none, 0, 0⟩])
            (.cond (.t 34)
              .skip
              (.exit 2)))
            (.seq
            (.block 3
              (.drawn [0, 1, 2, 3, 9, 10, 11, 12] [
                ⟨(.some 37), .mv, [(.t 9)], none, 0, 0⟩,
                ⟨(.some 38), .mv, [(.t 3)], none, 0, 0⟩,
                ⟨(.some 39), .mv, [(.t 10)], none, 0, 0⟩,
                ⟨(.some 40), .mv, [(.t 12)], none, 0, 0⟩,
                ⟨(.some 41), (.arith .add), [(.t 39), (.t 40)], none, 0, 0⟩,
                ⟨(.some 42), (.idxAddr 1), [(.t 38), (.t 41)], none, 0, 0⟩,
                ⟨(.some 43), (.load false 1), [(.t 42)], none, 0, 0⟩,
                ⟨(.some 44), .mv, [(.t 12)], none, 0, 0⟩,
                ⟨(.some 45), (.idxAddrArr 16 1), [(.t 11), (.t 44)], none, 0, 0⟩,
                ⟨(.some 46), (.load false 1), [(.t 45)], none, 0, 0⟩,
                ⟨(.some 47), (.arith .xor), [(.t 43), (.t 46)], none, 0, 0⟩,
                ⟨(.some 48), (.mkSl 1 [(.int .u8 0)] [(0, 1)]), [(.t 47)], none, 0, 0⟩,
                ⟨(.some 49), (.append 1 1), [(.t 37), (.t 48)], none, 0, 1⟩,
                ⟨(.some 9), .mv, [(.t 49)], none, 1, 1⟩]))
            (.ops [0, 1, 2, 3, 9, 10, 11, 12] [
              ⟨(.some 35), .mv, [(.t 12)], none, 0, 0⟩,
              ⟨(.some 36), (.arith .add), [(.t 35), (.c (.int .i64 1))], none, 0, 0⟩,
              ⟨(.some 12), .mv, [(.t 36)], none, 0, 0⟩]))))))))
      (.ops [0, 1, 2, 3, 9, 10] [
        ⟨(.some 17), .mv, [(.t 10)], none, 0, 0⟩,
        ⟨(.some 18), (.arith .add), [(.t 17), (.c (.int .i64 16))], none, 0, 0⟩,
        ⟨(.some 10), .mv, [(.t 18)], none, 0, 0⟩]))))))
  (.seq
  (.ops [8] [
    ⟨(.some 50), .mv, [(.t 9)], none, 0, 0⟩,
    ⟨(.some 8), .mv, [(.t 50)], none, 0, 0⟩])
  .ret))))
def r33 : List ARes := [(.tmp 8)]
theorem ok33 : FnOk Tryd.prog 33 c33 r33 :=
  ⟨Tryd.f33, _, Tryd.func33, by kernel_rfl, rfl, by kernel_rfl, by kernel_rfl⟩
/-- rill/sha.Of -/
def c34 : ACode :=
  (.seq
  (.ops [0, 2] [
    ⟨(.some 2), (.alloc (List.replicate 32 (.int .u8 0))), [], none, 0, 0⟩])
  (.seq
  (.ops [0, 2, 3] [
    ⟨(.some 4), (.call 46), [], none, 0, 0⟩,
    ⟨(.some 3), .mv, [(.t 4)], none, 0, 0⟩])
  (.seq
  (.ops [2, 3] [
    ⟨(.some 5), .mv, [(.t 3)], none, 0, 0⟩,
    ⟨(.some 6), .mv, [(.t 0)], none, 0, 0⟩,
    ⟨(.some 7), (.call 47), [(.t 5), (.t 6)], none, 0, 0⟩])
  (.seq
  (.ops [2] [
    ⟨(.some 8), .mv, [(.t 3)], none, 0, 0⟩,
    ⟨(.some 9), (.call 48), [(.t 8)], none, 0, 0⟩,
    ⟨none, (.store 32), [(.t 2), (.t 9)], none, 0, 0⟩])
  .ret))))
def r34 : List ARes := [(.cell 2 true 32)]
theorem ok34 : FnOk Tryd.prog 34 c34 r34 :=
  ⟨Tryd.f34, _, Tryd.func34, by kernel_rfl, rfl, by kernel_rfl, by kernel_rfl⟩
/-- rill/rillref01.Of -/
def c35 : ACode :=
  (.seq
  (.ops [0, 2] [
    ⟨(.some 2), (.alloc (List.replicate 32 (.int .u8 0))), [], none, 0, 0⟩])
  (.seq
  (.ops [2, 3] [
    ⟨(.some 8), .mv, [(.t 0)], none, 0, 0⟩,
    ⟨(.some 9), (.call 49), [(.t 8)], none, 0, 0⟩,
    ⟨(.some 3), .mv, [(.t 9)], none, 0, 0⟩])
  (.seq
  (.ops [2, 3, 4] [
    ⟨(.some 10), (.call 50), [], none, 0, 0⟩,
    ⟨(.some 4), .mv, [(.t 10)], none, 0, 0⟩])
  (.seq
  (.seq
  (.ops [2, 3, 4, 5] [
    ⟨(.some 5), .mv, [(.c (.int .i64 0))], none, 0, 0⟩])
  (.block 0
    (.loop [2, 3, 4, 5]
      (.seq
      (.seq
      (.ops [2, 3, 4, 5, 14] [
        ⟨(.some 11), .mv, [(.t 5)], none, 0, 0⟩,
        ⟨(.some 12), .mv, [(.t 3)], none, 0, 0⟩,
        ⟨(.some 13), .len, [(.t 12)], none, 0, 0⟩,
        ⟨(.some 14), (.cmp .lss), [(.t 11), (.t 13)], none, 0, 0⟩])
      (.cond (.t 14)
        .skip
        (.exit 0)))
      (.seq
      (.block 1
        (.ops [2, 3, 4, 5] [
          ⟨(.some 17), .mv, [(.t 4)], none, 0, 0⟩,
          ⟨(.some 18), .mv, [(.t 3)], none, 0, 0⟩,
          ⟨(.some 19), .mv, [(.t 5)], none, 0, 0⟩,
          ⟨(.some 20), .mv, [(.t 5)], none, 0, 0⟩,
          ⟨(.some 21), (.arith .add), [(.t 20), (.c (.int .i64 64))], none, 0, 0⟩,
          ⟨(.some 22), (.slice 1 true true false), [(.t 18), (.t 19), (.t 21)], none, 0, 0⟩,
          ⟨(.some 23), (.call 51), [(.t 17), (.t 22)], none, 0, 0⟩,
          ⟨(.some 4), .mv, [(.t 23)], none, 0, 0⟩]))
      (.ops [2, 3, 4, 5] [
        ⟨(.some 15), .mv, [(.t 5)], none, 0, 0⟩,
        ⟨(.some 16), (.arith .add), [(.t 15), (.c (.int .i64 64))], none, 0, 0⟩,
        ⟨(.some 5), .mv, [(.t 16)], none, 0, 0⟩]))))))
  (.seq
  (.ops [2, 4, 6] [
    ⟨(.some 6), (.alloc (List.replicate 32 (.int .u8 0))), [], none, 0, 0⟩])
  (.seq
  (.seq
  (.ops [2, 4, 6, 7] [
    ⟨(.some 7), .mv, [(.c (.int .i64 0))], none, 0, 0⟩])
  (.block 2
    (.loop [2, 4, 6, 7]
      (.seq
      (.seq
      (.ops [2, 4, 6, 7, 25] [
        ⟨(.some 24), .mv, [(.t 7)], none, 0, 0⟩,
        ⟨(.some 25), (.cmp .lss), [(.t 24), (.c (.int .i64 32))], none, 0, 0⟩])
      (.cond (.t 25)
        .skip
        (.exit 2)))
      (.seq
      (.block 3
        (.ops [2, 4, 6, 7] [
          ⟨(.some 28), .mv, [(.t 7)], none, 0, 0⟩,
          ⟨(.some 29), .mv, [(.t 4)], none, 0, 0⟩,
          ⟨(.some 30), .mv, [(.t 7)], none, 0, 0⟩,
          ⟨(.some 31), (.arith .quo), [(.t 30), (.c (.int .i64 4))], none, 0, 0⟩,
          ⟨(.some 32), (.idxAddr 1), [(.t 29), (.t 31)], none, 0, 0⟩,
          ⟨(.some 33), (.load false 1), [(.t 32)], none, 0, 0⟩,
          ⟨(.some 34), .mv, [(.t 7)], none, 0, 0⟩,
          ⟨(.some 35), (.arith .rem), [(.t 34), (.c (.int .i64 4))], none, 0, 0⟩,
          ⟨(.some 36), (.arith .mul), [(.c (.int .i64 8)), (.t 35)], none, 0, 0⟩,
          ⟨(.some 37), (.arith .sub), [(.c (.int .i64 24)), (.t 36)], none, 0, 0⟩,
          ⟨(.some 38), (.conv .u64), [(.t 37)], none, 0, 0⟩,
          ⟨(.some 39), (.shift .shr), [(.t 33), (.t 38)], none, 0, 0⟩,
          ⟨(.some 40), (.conv .u8), [(.t 39)], none, 0, 0⟩,
          ⟨(.some 41), (.idxAddrArr 32 1), [(.t 6), (.t 28)], none, 0, 0⟩,
          ⟨none, (.store 1), [(.t 41), (.t 40)], none, 0, 0⟩]))
      (.ops [2, 4, 6, 7] [
        ⟨(.some 26), .mv, [(.t 7)], none, 0, 0⟩,
        ⟨(.some 27), (.arith .add), [(.t 26), (.c (.int .i64 1))], none, 0, 0⟩,
        ⟨(.some 7), .mv, [(.t 27)], none, 0, 0⟩]))))))
  (.seq
  (.ops [2] [
    ⟨(.some 42), (.load true 32), [(.t 6)], none, 0, 0⟩,
    ⟨none, (.store 32), [(.t 2), (.t 42)], none, 0, 0⟩])
  .ret)))))))
def r35 : List ARes := [(.cell 2 true 32)]
theorem ok35 : FnOk Tryd.prog 35 c35 r35 :=
  ⟨Tryd.f35, _, Tryd.func35, by kernel_rfl, rfl, by kernel_rfl, by kernel_rfl⟩
/-- rill/mac.Of -/
def c36 : ACode :=
  (.seq
  (.ops [0, 1, 4] [
    ⟨(.some 4), (.alloc (List.replicate 32 (.int .u8 0))), [], none, 0, 0⟩])
  (.seq
  (.ops [1, 4, 5, 6] [
    ⟨(.some 9), .mv, [(.t 0)], none, 0, 0⟩,
    ⟨(.some 10), (.call 52), [(.t 9), (.c (.int .u8 54))], none, 0, 0⟩,
    ⟨(.some 11), .mv, [(.t 0)], none, 0, 0⟩,
    ⟨(.some 12), (.call 52), [(.t 11), (.c (.int .u8 92))], none, 0, 0⟩,
    ⟨(.some 5), (.alloc (List.replicate 64 (.int .u8 0))), [], none, 0, 0⟩,
    ⟨(.some 6), (.alloc (List.replicate 64 (.int .u8 0))), [], none, 0, 0⟩,
    ⟨none, (.store 64), [(.t 5), (.t 10)], none, 0, 0⟩,
    ⟨none, (.store 64), [(.t 6), (.t 12)], none, 0, 0⟩])
  (.seq
  (.ops [1, 4, 5, 6, 7] [
    ⟨(.some 13), (.call 46), [], none, 0, 0⟩,
    ⟨(.some 7), .mv, [(.t 13)], none, 0, 0⟩])
  (.seq
  (.ops [1, 4, 6, 7] [
    ⟨(.some 14), .mv, [(.t 7)], none, 0, 0⟩,
    ⟨(.some 15), (.sliceArr 64 1 false false false), [(.t 5)], none, 0, 0⟩,
    ⟨(.some 16), (.call 47), [(.t 14), (.t 15)], none, 0, 0⟩])
  (.seq
  (.ops [4, 6, 7] [
    ⟨(.some 17), .mv, [(.t 7)], none, 0, 0⟩,
    ⟨(.some 18), .mv, [(.t 1)], none, 0, 0⟩,
    ⟨(.some 19), (.call 47), [(.t 17), (.t 18)], none, 0, 0⟩])
  (.seq
  (.ops [4, 6, 8] [
    ⟨(.some 20), .mv, [(.t 7)], none, 0, 0⟩,
    ⟨(.some 21), (.call 48), [(.t 20)], none, 0, 0⟩,
    ⟨(.some 8), (.alloc (List.replicate 32 (.int .u8 0))), [], none, 0, 0⟩,
    ⟨none, (.store 32), [(.t 8), (.t 21)], none, 0, 0⟩])
  (.seq
  (.ops [4, 6, 7, 8] [
    ⟨(.some 22), (.call 46), [], none, 0, 0⟩,
    ⟨(.some 7), .mv, [(.t 22)], none, 0, 0⟩])
  (.seq
  (.ops [4, 7, 8] [
    ⟨(.some 23), .mv, [(.t 7)], none, 0, 0⟩,
    ⟨(.some 24), (.sliceArr 64 1 false false false), [(.t 6)], none, 0, 0⟩,
    ⟨(.some 25), (.call 47), [(.t 23), (.t 24)], none, 0, 0⟩])
  (.seq
  (.ops [4, 7] [
    ⟨(.some 26), .mv, [(.t 7)], none, 0, 0⟩,
    ⟨(.some 27), (.sliceArr 32 1 false false false), [(.t 8)], none, 0, 0⟩,
    ⟨(.some 28), (.call 47), [(.t 26), (.t 27)], none, 0, 0⟩])
  (.seq
  (.ops [4] [
    ⟨(.some 29), .mv, [(.t 7)], none, 0, 0⟩,
    ⟨(.some 30), (.call 48), [(.t 29)], none, 0, 0⟩,
    ⟨none, (.store 32), [(.t 4), (.t 30)], none, 0, 0⟩])
  .ret))))))))))
def r36 : List ARes := [(.cell 4 true 32)]
theorem ok36 : FnOk Tryd.prog 36 c36 r36 :=
  ⟨Tryd.f36, _, Tryd.func36, by kernel_rfl, rfl, by kernel_rfl, by kernel_rfl⟩
/-- rill/aes.table -/
def c37 : ACode :=
  (.seq
  (.ops [0] [
    ⟨(.some 0), (.alloc (List.replicate 256 (.int .u8 0))), [], none, 0, 0⟩])
  (.seq
  (.ops [0, 1] [
    ⟨(.some 1), (.alloc (List.replicate 256 (.int .u8 0))), [], none, 0, 0⟩])
  (.seq
  (.ops [0, 1, 2, 3] [
    ⟨(.some 2), .mv, [(.c (.int .u8 1))], none, 0, 0⟩,
    ⟨(.some 3), .mv, [(.c (.int .u8 1))], none, 0, 0⟩])
  (.seq
  (.block 0
    (.loop [0, 1, 2, 3]
      (.block 1
        (.seq
        (.ops [0, 1, 2, 3] [
          ⟨(.some 4), .mv, [(.t 2)], none, 0, 0⟩,
          ⟨(.some 5), .mv, [(.t 2)], none, 0, 0⟩,
          ⟨(.some 6), (.call 38), [(.t 5)], none, 0, 0⟩,
          ⟨(.some 7), (.arith .xor), [(.t 4), (.t 6)], none, 0, 0⟩,
          ⟨(.some 2), .mv, [(.t 7)], none, 0, 0⟩])
        (.seq
        (.ops [0, 1, 2, 3] [
          ⟨(.some 8), .mv, [(.t 3)], none, 0, 0⟩,
          ⟨(.some 9), .mv, [(.t 3)], none, 0, 0⟩,
          ⟨(.some 10), (.shift .shl), [(.t 9), (.c (.int .u64 1))], none, 0, 0⟩,
          ⟨(.some 11), (.arith .xor), [(.t 8), (.t 10)], none, 0, 0⟩,
          ⟨(.some 3), .mv, [(.t 11)], none, 0, 0⟩])
        (.seq
        (.ops [0, 1, 2, 3] [
          ⟨(.some 12), .mv, [(.t 3)], none, 0, 0⟩,
          ⟨(.some 13), .mv, [(.t 3)], none, 0, 0⟩,
          ⟨(.some 14), (.shift .shl), [(.t 13), (.c (.int .u64 2))], none, 0, 0⟩,
          ⟨(.some 15), (.arith .xor), [(.t 12), (.t 14)], none, 0, 0⟩,
          ⟨(.some 3), .mv, [(.t 15)], none, 0, 0⟩])
        (.seq
        (.ops [0, 1, 2, 3] [
          ⟨(.some 16), .mv, [(.t 3)], none, 0, 0⟩,
          ⟨(.some 17), .mv, [(.t 3)], none, 0, 0⟩,
          ⟨(.some 18), (.shift .shl), [(.t 17), (.c (.int .u64 4))], none, 0, 0⟩,
          ⟨(.some 19), (.arith .xor), [(.t 16), (.t 18)], none, 0, 0⟩,
          ⟨(.some 3), .mv, [(.t 19)], none, 0, 0⟩])
        (.seq
        (.seq
        (.ops [0, 1, 2, 3, 22] [
          ⟨(.some 20), .mv, [(.t 3)], none, 0, 0⟩,
          ⟨(.some 21), (.arith .and), [(.t 20), (.c (.int .u8 128))], none, 0, 0⟩,
          ⟨(.some 22), (.eq true .int), [(.t 21), (.c (.int .u8 0))], none, 0, 0⟩])
        (.cond (.t 22)
          (.ops [0, 1, 2, 3] [
            ⟨(.some 23), .mv, [(.t 3)], none, 0, 0⟩,
            ⟨(.some 24), (.arith .xor), [(.t 23), (.c (.int .u8 9))], none, 0, 0⟩,
            ⟨(.some 3), .mv, [(.t 24)], none, 0, 0⟩])
          .skip))
        (.seq
        (.ops [0, 1, 2, 3] [
          ⟨(.some 25), .mv, [(.t 2)], none, 0, 0⟩,
          ⟨(.some 26), .mv, [(.t 3)], none, 0, 0⟩,
          ⟨(.some 27), .mv, [(.t 3)], none, 0, 0⟩,
          ⟨(.some 28), (.shift .shl), [(.t 27), (.c (.int .u64 1))], none, 0, 0⟩,
          ⟨(.some 29), .mv, [(.t 3)], none, 0, 0⟩,
          ⟨(.some 30), (.shift .shr), [(.t 29), (.c (.int .u64 7))], none, 0, 0⟩,
          ⟨(.some 31), (.arith .or), [(.t 28), (.t 30)], none, 0, 0⟩,
          ⟨(.some 32), (.arith .xor), [(.t 26), (.t 31)], none, 0, 0⟩,
          ⟨(.some 33), .mv, [(.t 3)], none, 0, 0⟩,
          ⟨(.some 34), (.shift .shl), [(.t 33), (.c (.int .u64 2))], none, 0, 0⟩,
          ⟨(.some 35), .mv, [(.t 3)], none, 0, 0⟩,
          ⟨(.some 36), (.shift .shr), [(.t 35), (.c (.int .u64 6))], none, 0, 0⟩,
          ⟨(.some 37), (.arith .or), [(.t 34), (.t 36)], none, 0, 0⟩,
          ⟨(.some 38), (.arith .xor), [(.t 32), (.t 37)], none, 0, 0⟩,
          ⟨(.some 39), .mv, [(.t 3)], none, 0, 0⟩,
          ⟨(.some 40), (.shift .shl), [(.t 39), (.c (.int .u64 3))], none, 0, 0⟩,
          ⟨(.some 41), .mv, [(.t 3)], none, 0, 0⟩,
          ⟨(.some 42), (.shift .shr), [(.t 41), (.c (.int .u64 5))], none, 0, 0⟩,
          ⟨(.some 43), (.arith .or), [(.t 40), (.t 42)], none, 0, 0⟩,
          ⟨(.some 44), (.arith .xor), [(.t 38), (.t 43)], none, 0, 0⟩,
          ⟨(.some 45), .mv, [(.t 3)], none, 0, 0⟩,
          ⟨(.some 46), (.shift .shl), [(.t 45), (.c (.int .u64 4))], none, 0, 0⟩,
          ⟨(.some 47), .mv, [(.t 3)], none, 0, 0⟩,
          ⟨(.some 48), (.shift .shr), [(.t 47), (.c (.int .u64 4))], none, 0, 0⟩,
          ⟨(.some 49), (.arith .or), [(.t 46), (.t 48)], none, 0, 0⟩,
          ⟨(.some 50), (.arith .xor), [(.t 44), (.t 49)], none, 0, 0⟩,
          ⟨(.some 51), (.arith .xor), [(.t 50), (.c (.int .u8 99))], none, 0, 0⟩,
          ⟨(.some 52), (.idxAddrArr 256 1), [(.t 1), (.t 25)], none, 0, 0⟩,
          ⟨none, (.store 1), [(.t 52), (.t 51)], none, 0, 0⟩])
        (.seq
        (.ops [0, 1, 2, 3, 54] [
          ⟨(.some 53), .mv, [(.t 2)], none, 0, 0⟩,
          ⟨(.some 54), (.eq false .int), [(.t 53), (.c (.int .u8 1))], none, 0, 0⟩])
        (.cond (.t 54)
          (.exit 0)
          .skip)))))))))))
  (.seq
  (.ops [0, 1] [
    ⟨(.some 55), (.idxAddrArr 256 1), [(.t 1), (.c (.int .i64 0))], none, 0, 0⟩,
    ⟨none, (.store 1), [(.t 55), (.c (.int .u8 99))], none, 0, 0⟩])
  (.seq
  (.ops [0] [
    ⟨(.some 56), (.load true 256), [(.t 1)], none, 0, 0⟩,
    ⟨none, (.store 256), [(.t 0), (.t 56)], none, 0, 0⟩])
  .ret))))))
def r37 : List ARes := [(.cell 0 true 256)]
theorem ok37 : FnOk Tryd.prog 37 c37 r37 :=
  ⟨Tryd.f37, _, Tryd.func37, by kernel_rfl, rfl, by kernel_rfl, by kernel_rfl⟩
/-- rill/aes.twice -/
def c38 : ACode :=
  (.seq
  (.ops [0] [
    ⟨(.some 2), .mv, [(.c (.int .u8 0))], none, 0, 0⟩])
  (.seq
  (.seq
  (.ops [0, 5] [
    ⟨(.some 3), .mv, [(.t 0)], none, 0, 0⟩,
    ⟨(.some 4), (.arith .and), [(.t 3), (.c (.int .u8 128))], none, 0, 0⟩,
    ⟨(.some 5), (.eq true .int), [(.t 4), (.c (.int .u8 0))], none, 0, 0⟩])
  (.cond (.t 5)
    (.seq
    (.ops [2] [
      ⟨(.some 6), .mv, [(.t 0)], none, 0, 0⟩,
      ⟨(.some 7), (.shift .shl), [(.t 6), (.c (.int .u64 1))], none, 0, 0⟩,
      ⟨(.some 8), (.arith .xor), [(.t 7), (.c (.int .u8 27))], none, 0, 0⟩,
      ⟨(.some 2), .mv, [(.t 8)], none, 0, 0⟩])
    .ret)
    .skip))
  (.seq
  (.ops [2] [
    ⟨(.some 9), .mv, [(.t 0)], none, 0, 0⟩,
    ⟨(.some 10), (.shift .shl), [(.t 9), (.c (.int .u64 1))], none, 0, 0⟩,
    ⟨(.some 2), .mv, [(.t 10)], none, 0, 0⟩])
  .ret)))
def r38 : List ARes := [(.tmp 2)]
theorem ok38 : FnOk Tryd.prog 38 c38 r38 :=
  ⟨Tryd.f38, _, Tryd.func38, by kernel_rfl, rfl, by kernel_rfl, by kernel_rfl⟩
/-- rill/ctr.stream -/
def c39 : ACode :=
  (.seq
  (.ops [1, 2, 3] [
    ⟨(.some 3), .box, [(.t 0)], none, 0, 0⟩,
    ⟨(.some 6), .mv, [(.c .nilf)], none, 0, 0⟩])
  (.seq
  (.ops [1, 2, 3, 7, 8] [
    ⟨(.some 7), (.alloc (List.replicate 16 (.int .u8 0))), [], none, 0, 0⟩,
    ⟨(.some 8), (.alloc (List.replicate 16 (.int .u8 0))), [], none, 0, 0⟩])
  (.seq
  (.ops [2, 3, 7, 8] [
    ⟨(.some 11), (.sliceArr 16 1 false true true), [(.t 7), (.c (.int .i64 6)), (.c (.int .i64 6))], none, 0, 0⟩,
    ⟨(.some 12), .mv, [(.t 1)], none, 0, 0⟩,
    ⟨(.some 13), (.conv .u64), [(.t 12)], none, 0, 0⟩,
    ⟨(.some 14), (.call 53), [(.t 11), (.t 13)], none, 0, 0⟩])
  (.seq
  (.ops [3, 7, 8] [
    ⟨(.some 15), (.sliceArr 16 1 true true true), [(.t 7), (.c (.int .i64 6)), (.c (.int .i64 12)), (.c (.int .i64 12))], none, 0, 0⟩,
    ⟨(.some 16), .mv, [(.t 2)], none, 0, 0⟩,
    ⟨(.some 17), (.conv .u64), [(.t 16)], none, 0, 0⟩,
    ⟨(.some 18), (.call 53), [(.t 15), (.t 17)], none, 0, 0⟩])
  (.seq
  (.ops [3, 7, 8, 9, 10] [
    ⟨(.some 9), (.alloc [(.int .i64 0)]), [], none, 0, 0⟩,
    ⟨(.some 10), (.alloc [(.int .u64 0)]), [], none, 0, 0⟩,
    ⟨none, (.store 1), [(.t 9), (.c (.int .i64 16))], none, 0, 0⟩,
    ⟨none, (.store 1), [(.t 10), (.c (.int .u64 0))], none, 0, 0⟩])
  (.seq
  (.ops [6] [
    ⟨(.some 19), (.mkFn (.func 54) 0), [(.t 9), (.t 7), (.t 10), (.t 3), (.t 8)], none, 0, 0⟩,
    ⟨(.some 6), .mv, [(.t 19)], none, 0, 0⟩])
  .ret))))))
def r39 : List ARes := [(.tmp 6)]
theorem ok39 : FnOk Tryd.prog 39 c39 r39 :=
  ⟨Tryd.f39, _, Tryd.func39, by kernel_rfl, rfl, by kernel_rfl, by kernel_rfl⟩
/-- rill/seal.eight -/
def c40 : ACode :=
  (.seq
  (.ops [0] [
    ⟨(.some 2), .mv, [(.c .nils)], none, 0, 0⟩])
  (.seq
  (.ops [0, 3] [
    ⟨(.some 3), .mv, [(.c .nils)], none, 0, 0⟩])
  (.seq
  (.seq
  (.ops [0, 3, 4] [
    ⟨(.some 4), .mv, [(.c (.int .i64 56))], none, 0, 0⟩])
  (.block 0
    (.loop [0, 3, 4]
      (.seq
      (.seq
      (.ops [0, 3, 4, 6] [
        ⟨(.some 5), .mv, [(.t 4)], none, 0, 0⟩,
        ⟨(.some 6), (.cmp .geq), [(.t 5), (.c (.int .i64 0))], none, 0, 0⟩])
      (.cond (.t 6)
        .skip
        (.exit 0)))
      (.seq
      (.block 1
        (.ops [0, 3, 4] [
          ⟨(.some 9), .mv, [(.t 3)], none, 0, 0⟩,
          ⟨(.some 10), .mv, [(.t 0)], none, 0, 0⟩,
          ⟨(.some 11), .mv, [(.t 4)], none, 0, 0⟩,
          ⟨(.some 12), (.shift .shr), [(.t 10), (.t 11)], none, 0, 0⟩,
          ⟨(.some 13), (.conv .u8), [(.t 12)], none, 0, 0⟩,
          ⟨(.some 14), (.mkSl 1 [(.int .u8 0)] [(0, 1)]), [(.t 13)], none, 0, 0⟩,
          ⟨(.some 15), (.append 1 1), [(.t 9), (.t 14)], none, 0, 0⟩,
          ⟨(.some 3), .mv, [(.t 15)], none, 0, 0⟩]))
      (.ops [0, 3, 4] [
        ⟨(.some 7), .mv, [(.t 4)], none, 0, 0⟩,
        ⟨(.some 8), (.arith .sub), [(.t 7), (.c (.int .i64 8))], none, 0, 0⟩,
        ⟨(.some 4), .mv, [(.t 8)], none, 0, 0⟩]))))))
  (.seq
  (.ops [2] [
    ⟨(.some 16), .mv, [(.t 3)], none, 0, 0⟩,
    ⟨(.some 2), .mv, [(.t 16)], none, 0, 0⟩])
  .ret))))
def r40 : List ARes := [(.tmp 2)]
theorem ok40 : FnOk Tryd.prog 40 c40 r40 :=
  ⟨Tryd.f40, _, Tryd.func40, by kernel_rfl, rfl, by kernel_rfl, by kernel_rfl⟩
/-- rill/rillref02.Of -/
def c41 : ACode :=
  (.seq
  (.ops [0, 1, 4] [
    ⟨(.some 4), (.alloc (List.replicate 32 (.int .u8 0))), [], none, 0, 0⟩])
  (.seq
  (.ops [0, 1, 4, 5] [
    ⟨(.some 9), .mv, [(.t 0)], none, 0, 0⟩,
    ⟨(.some 10), (.call 56), [(.t 9), (.c (.int .u8 54))], none, 0, 0⟩,
    ⟨(.some 5), .mv, [(.t 10)], none, 0, 0⟩])
  (.seq
  (.seq
  (.ops [0, 1, 4, 5, 6] [
    ⟨(.some 6), .mv, [(.c (.int .i64 0))], none, 0, 0⟩])
  (.block 0
    (.loop [0, 1, 4, 5, 6]
      (.seq
      (.seq
      (.ops [0, 1, 4, 5, 6, 14] [
        ⟨(.some 11), .mv, [(.t 6)], none, 0, 0⟩,
        ⟨(.some 12), .mv, [(.t 1)], none, 0, 0⟩,
        ⟨(.some 13), .len, [(.t 12)], none, 0, 0⟩,
        ⟨(.some 14), (.cmp .lss), [(.t 11), (.t 13)], none, 0, 0⟩])
      (.cond (.t 14)
        .skip
        (.exit 0)))
      (.seq
      (.block 1
        (.ops [0, 1, 4, 5, 6] [
          ⟨(.some 17), .mv, [(.t 5)], none, 0, 0⟩,
          ⟨(.some 18), .mv, [(.t 1)], none, 0, 0⟩,
          ⟨(.some 19), .mv, [(.t 6)], none, 0, 0⟩,
          ⟨(.some 20), (.idxAddr 1), [(.t 18), (.t 19)], none, 0, 0⟩,
          ⟨(.some 21), (.load false 1), [(.t 20)], none, 0, 0⟩,
          ⟨(.some 22), (.mkSl 1 [(.int .u8 0)] [(0, 1)]), [(.t 21)], none, 0, 0⟩,
          ⟨(.some 23), (.append 1 1), [(.t 17), (.t 22)], none, 0, 0⟩,
          ⟨(.some 5), .mv, [(.t 23)], none, 0, 0⟩]))
      (.ops [0, 1, 4, 5, 6] [
        ⟨(.some 15), .mv, [(.t 6)], none, 0, 0⟩,
        ⟨(.some 16), (.arith .add), [(.t 15), (.c (.int .i64 1))], none, 0, 0⟩,
        ⟨(.some 6), .mv, [(.t 16)], none, 0, 0⟩]))))))
  (.seq
  (.ops [0, 4, 7] [
    ⟨(.some 24), .mv, [(.t 5)], none, 0, 0⟩,
    ⟨(.some 25), (.call 35), [(.t 24)], none, 0, 0⟩,
    ⟨(.some 7), (.alloc (List.replicate 32 (.int .u8 0))), [], none, 0, 0⟩,
    ⟨none, (.store 32), [(.t 7), (.t 25)], none, 0, 0⟩])
  (.seq
  (.ops [4, 5, 7] [
    ⟨(.some 26), .mv, [(.t 0)], none, 0, 0⟩,
    ⟨(.some 27), (.call 56), [(.t 26), (.c (.int .u8 92))], none, 0, 0⟩,
    ⟨(.some 5), .mv, [(.t 27)], none, 0, 0⟩])
  (.seq
  (.seq
  (.ops [4, 5, 7, 8] [
    ⟨(.some 8), .mv, [(.c (.int .i64 0))], none, 0, 0⟩])
  (.block 2
    (.loop [4, 5, 7, 8]
      (.seq
      (.seq
      (.ops [4, 5, 7, 8, 29] [
        ⟨(.some 28), .mv, [(.t 8)], none, 0, 0⟩,
        ⟨(.some 29), (.cmp .lss), [(.t 28), (.c (.int .i64 32))], none, 0, 0⟩])
      (.cond (.t 29)
        .skip
        (.exit 2)))
      (.seq
      (.block 3
        (.ops [4, 5, 7, 8] [
          ⟨(.some 32), .mv, [(.t 5)], none, 0, 0⟩,
          ⟨(.some 33), .mv, [(.t 8)], none, 0, 0⟩,
          ⟨(.some 34), (.idxAddrArr 32 1), [(.t 7), (.t 33)], none, 0, 0⟩,
          ⟨(.some 35), (.load false 1), [(.t 34)], none, 0, 0⟩,
          ⟨(.some 36), (.mkSl 1 [(.int .u8 0)] [(0, 1)]), [(.t 35)], none, 0, 0⟩,
          ⟨(.some 37), (.append 1 1), [(.t 32), (.t 36)], none, 0, 0⟩,
          ⟨(.some 5), .mv, [(.t 37)], none, 0, 0⟩]))
      (.ops [4, 5, 7, 8] [
        ⟨(.some 30), .mv, [(.t 8)], none, 0, 0⟩,
        ⟨(.some 31), (.arith .add), [(.t 30), (.c (.int .i64 1))], none, 0, 0⟩,
        ⟨(.some 8), .mv, [(.t 31)], none, 0, 0⟩]))))))
  (.seq
  (.ops [4] [
    ⟨(.some 38), .mv, [(.t 5)], none, 0, 0⟩,
    ⟨(.some 39), (.call 35), [(.t 38)], none, 0, 0⟩,
    ⟨none, (.store 32), [(.t 4), (.t 39)], none, 0, 0⟩])
  .ret)))))))
def r41 : List ARes := [(.cell 4 true 32)]
theorem ok41 : FnOk Tryd.prog 41 c41 r41 :=
  ⟨Tryd.f41, _, Tryd.func41, by kernel_rfl, rfl, by kernel_rfl, by kernel_rfl⟩
/-- rill/rillref03.Table -/
def c42 : ACode :=
  (.seq
  (.ops [] [
    ⟨(.some 0), .mv, [(.c .nils)], none, 0, 0⟩])
  (.seq
  (.ops [1] [
    ⟨(.some 1), .mv, [(.c .nils)], none, 0, 0⟩])
  (.seq
  (.seq
  (.ops [1, 2] [
    ⟨(.some 2), .mv, [(.c (.int .i64 0))], none, 0, 0⟩])
  (.block 0
    (.loop [1, 2]
      (.seq
      (.seq
      (.ops [1, 2, 4] [
        ⟨(.some 3), .mv, [(.t 2)], none, 0, 0⟩,
        ⟨(.some 4), (.cmp .lss), [(.t 3), (.c (.int .i64 256))], none, 0, 0⟩])
      (.cond (.t 4)
        .skip
        (.exit 0)))
      (.seq
      (.block 1
        (.ops [1, 2] [
          ⟨(.some 7), .mv, [(.t 1)], none, 0, 0⟩,
          ⟨(.some 8), .mv, [(.t 2)], none, 0, 0⟩,
          ⟨(.some 9), (.conv .u8), [(.t 8)], none, 0, 0⟩,
          ⟨(.some 10), (.call 57), [(.t 9)], none, 0, 0⟩,
          ⟨(.some 11), (.mkSl 1 [(.int .u8 0)] [(0, 1)]), [(.t 10)], none, 0, 0⟩,
          ⟨(.some 12), (.append 1 1), [(.t 7), (.t 11)], none, 0, 0⟩,
          ⟨(.some 1), .mv, [(.t 12)], none, 0, 0⟩]))
      (.ops [1, 2] [
        ⟨(.some 5), .mv, [(.t 2)], none, 0, 0⟩,
        ⟨(.some 6), (.arith .add), [(.t 5), (.c (.int .i64 1))], none, 0, 0⟩,
        ⟨(.some 2), .mv, [(.t 6)], none, 0, 0⟩]))))))
  (.seq
  (.ops [0] [
    ⟨(.some 13), .mv, [(.t 1)], none, 0, 0⟩,
    ⟨(.some 0), .mv, [(.t 13)], none, 0, 0⟩])
  .ret))))
def r42 : List ARes := [(.tmp 0)]
theorem ok42 : FnOk Tryd.prog 42 c42 r42 :=
  ⟨Tryd.f42, _, Tryd.func42, by kernel_rfl, rfl, by kernel_rfl, by kernel_rfl⟩
/-- rill/rillref03.Twice -/
def c43 : ACode :=
  (.seq
  (.ops [0] [
    ⟨(.some 2), .mv, [(.c (.int .u8 0))], none, 0, 0⟩])
  (.seq
  (.ops [0, 3] [
    ⟨(.some 4), .mv, [(.t 0)], none, 0, 0⟩,
    ⟨(.some 5), (.shift .shl), [(.t 4), (.c (.int .u64 1))], none, 0, 0⟩,
    ⟨(.some 3), .mv, [(.t 5)], none, 0, 0⟩])
  (.seq
  (.seq
  (.ops [3, 7] [
    ⟨(.some 6), .mv, [(.t 0)], none, 0, 0⟩,
    ⟨(.some 7), (.cmp .geq), [(.t 6), (.c (.int .u8 128))], none, 0, 0⟩])
  (.cond (.t 7)
    (.ops [3] [
      ⟨(.some 8), .mv, [(.t 3)], none, 0, 0⟩,
      ⟨(.some 9), (.arith .xor), [(.t 8), (.c (.int .u8 27))], none, 0, 0⟩,
      ⟨(.some 3), .mv, [(.t 9)], none, 0, 0⟩])
    .skip))
  (.seq
  (.ops [2] [
    ⟨(.some 10), .mv, [(.t 3)], none, 0, 0⟩,
    ⟨(.some 2), .mv, [(.t 10)], none, 0, 0⟩])
  .ret))))
def r43 : List ARes := [(.tmp 2)]
theorem ok43 : FnOk Tryd.prog 43 c43 r43 :=
  ⟨Tryd.f43, _, Tryd.func43, by kernel_rfl, rfl, by kernel_rfl, by kernel_rfl⟩
/-- rill/rillref05.eight -/
def c44 : ACode :=
  (.seq
  (.ops [0] [
    ⟨(.some 2), .mv, [(.c .nils)], none, 0, 0⟩])
  (.seq
  (.ops [0, 3] [
    ⟨(.some 3), .mv, [(.c .nils)], none, 0, 0⟩])
  (.seq
  (.seq
  (.ops [0, 3, 4] [
    ⟨(.some 4), .mv, [(.c (.int .i64 7))], none, 0, 0⟩])
  (.block 0
    (.loop [0, 3, 4]
      (.seq
      (.seq
      (.ops [0, 3, 4, 6] [
        ⟨(.some 5), .mv, [(.t 4)], none, 0, 0⟩,
        ⟨(.some 6), (.cmp .geq), [(.t 5), (.c (.int .i64 0))], none, 0, 0⟩])
      (.cond (.t 6)
        .skip
        (.exit 0)))
      (.seq
      (.block 1
        (.ops [0, 3, 4] [
          ⟨(.some 9), .mv, [(.t 3)], none, 0, 0⟩,
          ⟨(.some 10), .mv, [(.t 0)], none, 0, 0⟩,
          ⟨(.some 11), .mv, [(.t 4)], none, 0, 0⟩,
          ⟨(.some 12), (.arith .mul), [(.c (.int .i64 8)), (.t 11)], none, 0, 0⟩,
          ⟨(.some 13), (.conv .u64), [(.t 12)], none, 0, 0⟩,
          ⟨(.some 14), (.shift .shr), [(.t 10), (.t 13)], none, 0, 0⟩,
          ⟨(.some 15), (.conv .u8), [(.t 14)], none, 0, 0⟩,
          ⟨(.some 16), (.mkSl 1 [(.int .u8 0)] [(0, 1)]), [(.t 15)], none, 0, 0⟩,
          ⟨(.some 17), (.append 1 1), [(.t 9), (.t 16)], none, 0, 0⟩,
          ⟨(.some 3), .mv, [(.t 17)], none, 0, 0⟩]))
      (.ops [0, 3, 4] [
        ⟨(.some 7), .mv, [(.t 4)], none, 0, 0⟩,
        ⟨(.some 8), (.arith .sub), [(.t 7), (.c (.int .i64 1))], none, 0, 0⟩,
        ⟨(.some 4), .mv, [(.t 8)], none, 0, 0⟩]))))))
  (.seq
  (.ops [2] [
    ⟨(.some 18), .mv, [(.t 3)], none, 0, 0⟩,
    ⟨(.some 2), .mv, [(.t 18)], none, 0, 0⟩])
  .ret))))
def r44 : List ARes := [(.tmp 2)]
theorem ok44 : FnOk Tryd.prog 44 c44 r44 :=
  ⟨Tryd.f44, _, Tryd.func44, by kernel_rfl, rfl, by kernel_rfl, by kernel_rfl⟩
/-- rill/rillref04.Block -/
def c45 : ACode :=
  (.seq
  (.ops [0, 1, 2, 3, 8] [
    ⟨(.some 8), (.alloc (List.replicate 16 (.int .u8 0))), [], none, 0, 0⟩])
  (.seq
  (.ops [0, 1, 2, 3, 8, 9] [
    ⟨(.some 9), (.alloc (List.replicate 16 (.int .u8 0))), [], none, 0, 0⟩])
  (.seq
  (.ops [0, 2, 3, 8, 9, 10] [
    ⟨(.some 15), .mv, [(.t 1)], none, 0, 0⟩,
    ⟨(.some 16), (.call 58), [(.t 15), (.c (.int .i64 6))], none, 0, 0⟩,
    ⟨(.some 10), .mv, [(.t 16)], none, 0, 0⟩])
  (.seq
  (.ops [0, 3, 8, 9, 10, 11] [
    ⟨(.some 17), .mv, [(.t 2)], none, 0, 0⟩,
    ⟨(.some 18), (.call 58), [(.t 17), (.c (.int .i64 6))], none, 0, 0⟩,
    ⟨(.some 11), .mv, [(.t 18)], none, 0, 0⟩])
  (.seq
  (.ops [0, 8, 9, 10, 11, 12] [
    ⟨(.some 19), .mv, [(.t 3)], none, 0, 0⟩,
    ⟨(.some 20), (.call 58), [(.t 19), (.c (.int .i64 4))], none, 0, 0⟩,
    ⟨(.some 12), .mv, [(.t 20)], none, 0, 0⟩])
  (.seq
  (.seq
  (.ops [0, 8, 9, 10, 11, 12, 13] [
    ⟨(.some 13), .mv, [(.c (.int .i64 0))], none, 0, 0⟩])
  (.block 0
    (.loop [0, 8, 9, 10, 11, 12, 13]
      (.seq
      (.seq
      (.ops [0, 8, 9, 10, 11, 12, 13, 22] [
        ⟨(.some 21), .mv, [(.t 13)], none, 0, 0⟩,
        ⟨(.some 22), (.cmp .lss), [(.t 21), (.c (.int .i64 6))], none, 0, 0⟩])
      (.cond (.t 22)
        .skip
        (.exit 0)))
      (.seq
      (.block 1
        (.seq
        (.ops [0, 8, 9, 10, 11, 12, 13] [
          ⟨(.some 25), .mv, [(.t 13)], none, 0, 0⟩,
          ⟨(.some 26), .mv, [(.t 10)], none, 0, 0⟩,
          ⟨(.some 27), .mv, [(.t 13)], none, 0, 0⟩,
          ⟨(.some 28), (.idxAddr 1), [(.t 26), (.t 27)], none, 0, 0⟩,
          ⟨(.some 29), (.load false 1), [(.t 28)], none, 0, 0⟩,
          ⟨(.some 30), (.idxAddrArr 16 1), [(.t 9), (.t 25)], none, 0, 0⟩,
          ⟨none, (.store 1), [(.t 30), (.t 29)], none, 0, 0⟩])
        (.ops [0, 8, 9, 10, 11, 12, 13] [
          ⟨(.some 31), .mv, [(.t 13)], none, 0, 0⟩,
          ⟨(.some 32), (.arith .add), [(.c (.int .i64 6)), (.t 31)], none, 0, 0⟩,
          ⟨(.some 33), .mv, [(.t 11)], none, 0, 0⟩,
          ⟨(.some 34), .mv, [(.t 13)], none, 0, 0⟩,
          ⟨(.some 35), (.idxAddr 1), [(.t 33), (.t 34)], none, 0, 0⟩,
          ⟨(.some 36), (.load false 1), [(.t 35)], none, 0, 0⟩,
          ⟨(.some 37), (.idxAddrArr 16 1), [(.t 9), (.t 32)], none, 0, 0⟩,
          ⟨none, (.store 1), [(.t 37), (.t 36)], none, 0, 0⟩])))
      (.ops [0, 8, 9, 10, 11, 12, 13] [
        ⟨(.some 23), .mv, [(.t 13)], none, 0, 0⟩,
        ⟨(.some 24), (.arith .add), [(.t 23), (.c (.int .i64 1))], none, 0, 0⟩,
        ⟨(.some 13), .mv, [(.t 24)], none, 0, 0⟩]))))))
  (.seq
  (.seq
  (.ops [0, 8, 9, 12, 14] [
    ⟨(.some 14), .mv, [(.c (.int .i64 0))], none, 0, 0⟩])
  (.block 2
    (.loop [0, 8, 9, 12, 14]
      (.seq
      (.seq
      (.ops [0, 8, 9, 12, 14, 39] [
        ⟨(.some 38), .mv, [(.t 14)], none, 0, 0⟩,
        ⟨(.some 39), (.cmp .lss), [(.t 38), (.c (.int .i64 4))], none, 0, 0⟩])
      (.cond (.t 39)
        .skip
        (.exit 2)))
      (.seq
      (.block 3
        (.ops [0, 8, 9, 12, 14] [
          ⟨(.some 42), .mv, [(.t 14)], none, 0, 0⟩,
          ⟨(.some 43), (.arith .add), [(.c (.int .i64 12)), (.t 42)], none, 0, 0⟩,
          ⟨(.some 44), .mv, [(.t 12)], none, 0, 0⟩,
          ⟨(.some 45), .mv, [(.t 14)], none, 0, 0⟩,
          ⟨(.some 46), (.idxAddr 1), [(.t 44), (.t 45)], none, 0, 0⟩,
          ⟨(.some 47), (.load false 1), [(.t 46)], none, 0, 0⟩,
          ⟨(.some 48), (.idxAddrArr 16 1), [(.t 9), (.t 43)], none, 0, 0⟩,
          ⟨none, (.store 1), [(.t 48), (.t 47)], none, 0, 0⟩]))
      (.ops [0, 8, 9, 12, 14] [
        ⟨(.some 40), .mv, [(.t 14)], none, 0, 0⟩,
        ⟨(.some 41), (.arith .add), [(.t 40), (.c (.int .i64 1))], none, 0, 0⟩,
        ⟨(.some 14), .mv, [(.t 41)], none, 0, 0⟩]))))))
  (.seq
  (.ops [8] [
    ⟨(.some 49), .mv, [(.t 0)], none, 0, 0⟩,
    ⟨(.some 50), (.load true 16), [(.t 9)], none, 0, 0⟩,
    ⟨(.some 51), (.call 59), [(.t 49), (.t 50)], none, 0, 0⟩,
    ⟨none, (.store 16), [(.t 8), (.t 51)], none, 0, 0⟩])
  .ret))))))))
def r45 : List ARes := [(.cell 8 true 16)]
theorem ok45 : FnOk Tryd.prog 45 c45 r45 :=
  ⟨Tryd.f45, _, Tryd.func45, by kernel_rfl, rfl, by kernel_rfl, by kernel_rfl⟩
/-- rill/sha.New -/
def c46 : ACode :=
  (.seq
  (.ops [] [
    ⟨(.some 0), .mv, [(.c .nilp)], none, 0, 0⟩])
  (.seq
  (.ops [0] [
    ⟨(.some 1), (.build [(.int .u32 0), (.int .u32 0), (.int .u32 0), (.int .u32 0), (.int .u32 0), (.int .u32 0), (.int .u32 0), (.int .u32 0)] [(0, 1), (1, 1), (2, 1), (3, 1), (4, 1), (5, 1), (6, 1), (7, 1)]), [(.c (.int .u32 1779033703)), (.c (.int .u32 3144134277)), (.c (.int .u32 1013904242)), (.c (.int .u32 2773480762)), (.c (.int .u32 1359893119)), (.c (.int .u32 2600822924)), (.c (.int .u32 528734635)), (.c (.int .u32 1541459225))], none, 0, 0⟩,
    ⟨(.some 2), (.build [(.int .u32 0), (.int .u32 0), (.int .u32 0), (.int .u32 0), (.int .u32 0), (.int .u32 0), (.int .u32 0), (.int .u32 0), .nils, (.int .i64 0)] [(0, 8)]), [(.t 1)], none, 0, 0⟩,
    ⟨(.some 3), .box, [(.t 2)], none, 0, 0⟩,
    ⟨(.some 0), .mv, [(.t 3)], none, 0, 0⟩])
  .ret))
def r46 : List ARes := [(.tmp 0)]
theorem ok46 : FnOk Tryd.prog 46 c46 r46 :=
  ⟨Tryd.f46, _, Tryd.func46, by kernel_rfl, rfl, by kernel_rfl, by kernel_rfl⟩
/-- (*rill/sha.Hash).Add -/
def c47 : ACode :=
  (.seq
  (.ops [0, 1] [
    ⟨(.some 5), .mv, [(.t 0)], none, 0, 0⟩,
    ⟨(.some 6), .nilCheck, [(.t 5)], none, 0, 0⟩,
    ⟨(.some 7), (.fieldAddr 9), [(.t 6)], none, 0, 0⟩,
    ⟨(.some 8), (.load false 1), [(.t 7)], none, 0, 0⟩,
    ⟨(.some 9), .mv, [(.t 1)], none, 0, 0⟩,
    ⟨(.some 10), .len, [(.t 9)], none, 0, 0⟩,
    ⟨(.some 11), (.arith .add), [(.t 8), (.t 10)], none, 0, 0⟩,
    ⟨(.some 12), .nilCheck, [(.t 5)], none, 0, 0⟩,
    ⟨(.some 13), (.fieldAddr 9), [(.t 12)], none, 0, 0⟩,
    ⟨none, (.store 1), [(.t 13), (.t 11)], none, 0, 0⟩])
  (.seq
  (.ops [0] [
    ⟨(.some 14), .mv, [(.t 0)], none, 0, 0⟩,
    ⟨(.some 15), .mv, [(.t 0)], none, 0, 0⟩,
    ⟨(.some 16), .nilCheck, [(.t 15)], none, 0, 0⟩,
    ⟨(.some 17), (.fieldAddr 8), [(.t 16)], none, 0, 0⟩,
    ⟨(.some 18), (.load false 1), [(.t 17)], none, 0, 0⟩,
    ⟨(.some 19), .mv, [(.t 1)], none, 0, 0⟩,
    ⟨(.some 20), (.append 1 1), [(.t 18), (.t 19)], none, 0, 0⟩,
    ⟨(.some 21), .nilCheck, [(.t 14)], none, 0, 0⟩,
    ⟨(.some 22), (.fieldAddr 8), [(.t 21)], none, 0, 0⟩,
    ⟨none, (.store 1), [(.t 22), (.t 20)], none, 0, 0⟩])
  (.seq
  (.ops [0, 4] [
    ⟨(.some 4), .mv, [(.c (.int .i64 0))], none, 0, 0⟩])
  (.seq
  (.block 0
    (.loop [0, 4]
      (.seq
      (.seq
      (.ops [0, 4, 30] [
        ⟨(.some 23), .mv, [(.t 0)], none, 0, 0⟩,
        ⟨(.some 24), .nilCheck, [(.t 23)], none, 0, 0⟩,
        ⟨(.some 25), (.fieldAddr 8), [(.t 24)], none, 0, 0⟩,
        ⟨(.some 26), (.load false 1), [(.t 25)], none, 0, 0⟩,
        ⟨(.some 27), .len, [(.t 26)], none, 0, 0⟩,
        ⟨(.some 28), .mv, [(.t 4)], none, 0, 0⟩,
        ⟨(.some 29), (.arith .sub), [(.t 27), (.t 28)], none, 0, 0⟩,
        ⟨(.some 30), (.cmp .geq), [(.t 29), (.c (.int .i64 64))], none, 0, 0⟩])
      (.cond (.t 30)
        .skip
        (.exit 0)))
      (.seq
      (.block 1
        (.drawn [0, 4] [
          ⟨(.some 33), .mv, [(.t 0)], none, 0, 1⟩,
          ⟨(.some 34), .mv, [(.t 0)], none, 0, 0⟩,
          ⟨(.some 35), .nilCheck, [(.t 34)], none, 0, 0⟩,
          ⟨(.some 36), (.fieldAddr 0), [(.t 35)], none, 0, 0⟩,
          ⟨(.some 37), (.load true 8), [(.t 36)], none, 0, 0⟩,
          ⟨(.some 38), .mv, [(.t 0)], none, 0, 0⟩,
          ⟨(.some 39), .nilCheck, [(.t 38)], none, 0, 0⟩,
          ⟨(.some 40), (.fieldAddr 8), [(.t 39)], none, 0, 0⟩,
          ⟨(.some 41), (.load false 1), [(.t 40)], none, 0, 0⟩,
          ⟨(.some 42), .mv, [(.t 4)], none, 0, 0⟩,
          ⟨(.some 43), .mv, [(.t 4)], none, 0, 0⟩,
          ⟨(.some 44), (.arith .add), [(.t 43), (.c (.int .i64 64))], none, 0, 0⟩,
          ⟨(.some 45), (.slice 1 true true false), [(.t 41), (.t 42), (.t 44)], none, 0, 0⟩,
          ⟨(.some 46), (.call 60), [(.t 37), (.t 45)], none, 0, 1⟩,
          ⟨(.some 47), .nilCheck, [(.t 33)], none, 1, 1⟩,
          ⟨(.some 48), (.fieldAddr 0), [(.t 47)], none, 1, 1⟩,
          ⟨none, (.store 8), [(.t 48), (.t 46)], none, 1, 2⟩]))
      (.ops [0, 4] [
        ⟨(.some 31), .mv, [(.t 4)], none, 0, 0⟩,
        ⟨(.some 32), (.arith .add), [(.t 31), (.c (.int .i64 64))], none, 0, 0⟩,
        ⟨(.some 4), .mv, [(.t 32)], none, 0, 0⟩])))))
  (.ops [] [
    ⟨(.some 49), .mv, [(.t 0)], none, 0, 0⟩,
    ⟨(.some 50), (.mkSl 0 [] []), [], none, 0, 0⟩,
    ⟨(.some 51), .mv, [(.t 0)], none, 0, 0⟩,
    ⟨(.some 52), .nilCheck, [(.t 51)], none, 0, 0⟩,
    ⟨(.some 53), (.fieldAddr 8), [(.t 52)], none, 0, 0⟩,
    ⟨(.some 54), (.load false 1), [(.t 53)], none, 0, 0⟩,
    ⟨(.some 55), .mv, [(.t 4)], none, 0, 0⟩,
    ⟨(.some 56), (.slice 1 true false false), [(.t 54), (.t 55)], none, 0, 0⟩,
    ⟨(.some 57), (.append 1 1), [(.t 50), (.t 56)], none, 0, 0⟩,
    ⟨(.some 58), .nilCheck, [(.t 49)], none, 0, 0⟩,
    ⟨(.some 59), (.fieldAddr 8), [(.t 58)], none, 0, 0⟩,
    ⟨none, (.store 1), [(.t 59), (.t 57)], none, 0, 0⟩])))))
def r47 : List ARes := []
theorem ok47 : FnOk Tryd.prog 47 c47 r47 :=
  ⟨Tryd.f47, _, Tryd.func47, by kernel_rfl, rfl, by kernel_rfl, by kernel_rfl⟩
/-- (*rill/sha.Hash).Sum -/
def c48 : ACode :=
  (.seq
  (.ops [0, 2] [
    ⟨(.some 2), (.alloc (List.replicate 32 (.int .u8 0))), [], none, 0, 0⟩])
  (.seq
  (.ops [0, 2, 3] [
    ⟨(.some 9), (.mkSl 0 [] []), [], none, 0, 0⟩,
    ⟨(.some 10), .mv, [(.t 0)], none, 0, 0⟩,
    ⟨(.some 11), .nilCheck, [(.t 10)], none, 0, 0⟩,
    ⟨(.some 12), (.fieldAddr 8), [(.t 11)], none, 0, 0⟩,
    ⟨(.some 13), (.load false 1), [(.t 12)], none, 0, 0⟩,
    ⟨(.some 14), (.append 1 1), [(.t 9), (.t 13)], none, 0, 0⟩,
    ⟨(.some 15), (.mkSl 1 [(.int .u8 0)] [(0, 1)]), [(.c (.int .u8 128))], none, 0, 0⟩,
    ⟨(.some 16), (.append 1 1), [(.t 14), (.t 15)], none, 0, 0⟩,
    ⟨(.some 3), .mv, [(.t 16)], none, 0, 0⟩])
  (.seq
  (.block 0
    (.loop [0, 2, 3]
      (.seq
      (.seq
      (.ops [0, 2, 3, 20] [
        ⟨(.some 17), .mv, [(.t 3)], none, 0, 0⟩,
        ⟨(.some 18), .len, [(.t 17)], none, 0, 0⟩,
        ⟨(.some 19), (.arith .rem), [(.t 18), (.c (.int .i64 64))], none, 0, 0⟩,
        ⟨(.some 20), (.eq true .int), [(.t 19), (.c (.int .i64 56))], none, 0, 0⟩])
      (.cond (.t 20)
        .skip
        (.exit 0)))
      (.block 1
        (.ops [0, 2, 3] [
          ⟨(.some 21), .mv, [(.t 3)], none, 0, 0⟩,
          ⟨(.some 22), (.mkSl 1 [(.int .u8 0)] [(0, 1)]), [(.c (.int .u8 0))], none, 0, 0⟩,
          ⟨(.some 23), (.append 1 1), [(.t 21), (.t 22)], none, 0, 0⟩,
          ⟨(.some 3), .mv, [(.t 23)], none, 0, 0⟩])))))
  (.seq
  (.ops [0, 2, 3, 4] [
    ⟨(.some 24), .mv, [(.t 0)], none, 0, 0⟩,
    ⟨(.some 25), .nilCheck, [(.t 24)], none, 0, 0⟩,
    ⟨(.some 26), (.fieldAddr 9), [(.t 25)], none, 0, 0⟩,
    ⟨(.some 27), (.load false 1), [(.t 26)], none, 0, 0⟩,
    ⟨(.some 28), (.conv .u64), [(.t 27)], none, 0, 0⟩,
    ⟨(.some 29), (.arith .mul), [(.t 28), (.c (.int .u64 8))], none, 0, 0⟩,
    ⟨(.some 4), .mv, [(.t 29)], none, 0, 0⟩])
  (.seq
  (.seq
  (.ops [0, 2, 3, 4, 5] [
    ⟨(.some 5), .mv, [(.c (.int .i64 56))], none, 0, 0⟩])
  (.block 2
    (.loop [0, 2, 3, 4, 5]
      (.seq
      (.seq
      (.ops [0, 2, 3, 4, 5, 31] [
        ⟨(.some 30), .mv, [(.t 5)], none, 0, 0⟩,
        ⟨(.some 31), (.cmp .geq), [(.t 30), (.c (.int .i64 0))], none, 0, 0⟩])
      (.cond (.t 31)
        .skip
        (.exit 2)))
      (.seq
      (.block 3
        (.ops [0, 2, 3, 4, 5] [
          ⟨(.some 34), .mv, [(.t 3)], none, 0, 0⟩,
          ⟨(.some 35), .mv, [(.t 4)], none, 0, 0⟩,
          ⟨(.some 36), .mv, [(.t 5)], none, 0, 0⟩,
          ⟨(.some 37), (.shift .shr), [(.t 35), (.t 36)], none, 0, 0⟩,
          ⟨(.some 38), (.conv .u8), [(.t 37)], none, 0, 0⟩,
          ⟨(.some 39), (.mkSl 1 [(.int .u8 0)] [(0, 1)]), [(.t 38)], none, 0, 0⟩,
          ⟨(.some 40), (.append 1 1), [(.t 34), (.t 39)], none, 0, 0⟩,
          ⟨(.some 3), .mv, [(.t 40)], none, 0, 0⟩]))
      (.ops [0, 2, 3, 4, 5] [
        ⟨(.some 32), .mv, [(.t 5)], none, 0, 0⟩,
        ⟨(.some 33), (.arith .sub), [(.t 32), (.c (.int .i64 8))], none, 0, 0⟩,
        ⟨(.some 5), .mv, [(.t 33)], none, 0, 0⟩]))))))
  (.seq
  (.ops [2, 3, 6] [
    ⟨(.some 41), .mv, [(.t 0)], none, 0, 0⟩,
    ⟨(.some 42), .nilCheck, [(.t 41)], none, 0, 0⟩,
    ⟨(.some 43), (.fieldAddr 0), [(.t 42)], none, 0, 0⟩,
    ⟨(.some 44), (.load true 8), [(.t 43)], none, 0, 0⟩,
    ⟨(.some 6), (.alloc [(.int .u32 0), (.int .u32 0), (.int .u32 0), (.int .u32 0), (.int .u32 0), (.int .u32 0), (.int .u32 0), (.int .u32 0)]), [], none, 0, 0⟩,
    ⟨none, (.store 8), [(.t 6), (.t 44)], none, 0, 0⟩])
  (.seq
  (.block 4
    (.loop [2, 3, 6]
      (.seq
      (.seq
      (.ops [2, 3, 6, 47] [
        ⟨(.some 45), .mv, [(.t 3)], none, 0, 0⟩,
        ⟨(.some 46), .len, [(.t 45)], none, 0, 0⟩,
        ⟨(.some 47), (.cmp .gtr), [(.t 46), (.c (.int .i64 0))], none, 0, 0⟩])
      (.cond (.t 47)
        .skip
        (.exit 4)))
      (.seq
      (.block 5
        (.drawn [2, 3, 6] [
          ⟨(.some 50), (.load true 8), [(.t 6)], none, 0, 0⟩,
          ⟨(.some 51), .mv, [(.t 3)], none, 0, 0⟩,
          ⟨(.some 52), (.slice 1 false true false), [(.t 51), (.c (.int .i64 64))], none, 0, 0⟩,
          ⟨(.some 53), (.call 60), [(.t 50), (.t 52)], none, 0, 1⟩,
          ⟨none, (.store 8), [(.t 6), (.t 53)], none, 1, 2⟩]))
      (.ops [2, 3, 6] [
        ⟨(.some 48), .mv, [(.t 3)], none, 0, 0⟩,
        ⟨(.some 49), (.slice 1 true false false), [(.t 48), (.c (.int .i64 64))], none, 0, 0⟩,
        ⟨(.some 3), .mv, [(.t 49)], none, 0, 0⟩])))))
  (.seq
  (.ops [2, 6, 7] [
    ⟨(.some 7), (.alloc (List.replicate 32 (.int .u8 0))), [], none, 0, 0⟩])
  (.seq
  (.seq
  (.ops [2, 6, 7, 54] [
    ⟨(.some 54), .mv, [(.c (.int .i64 0))], none, 0, 0⟩])
  (.block 6
    (.loop [2, 6, 7, 54]
      (.seq
      (.ops [2, 6, 7, 54, 55] [
        ⟨(.some 55), (.cmp .lss), [(.t 54), (.c (.int .i64 32))], none, 0, 0⟩])
      (.seq
      (.cond (.t 55)
        .skip
        (.exit 6))
      (.seq
      (.block 7
        (.seq
        (.ops [2, 6, 7, 8, 54] [
          ⟨(.some 56), .mv, [(.t 54)], none, 0, 0⟩,
          ⟨(.some 8), .mv, [(.t 56)], none, 0, 0⟩])
        (.ops [2, 6, 7, 54] [
          ⟨(.some 57), .mv, [(.t 8)], none, 0, 0⟩,
          ⟨(.some 58), .mv, [(.t 8)], none, 0, 0⟩,
          ⟨(.some 59), (.arith .quo), [(.t 58), (.c (.int .i64 4))], none, 0, 0⟩,
          ⟨(.some 60), (.idxAddrArr 8 1), [(.t 6), (.t 59)], none, 0, 0⟩,
          ⟨(.some 61), (.load false 1), [(.t 60)], none, 0, 0⟩,
          ⟨(.some 62), .mv, [(.t 8)], none, 0, 0⟩,
          ⟨(.some 63), (.arith .rem), [(.t 62), (.c (.int .i64 4))], none, 0, 0⟩,
          ⟨(.some 64), (.arith .mul), [(.c (.int .i64 8)), (.t 63)], none, 0, 0⟩,
          ⟨(.some 65), (.arith .sub), [(.c (.int .i64 24)), (.t 64)], none, 0, 0⟩,
          ⟨(.some 66), (.shift .shr), [(.t 61), (.t 65)], none, 0, 0⟩,
          ⟨(.some 67), (.conv .u8), [(.t 66)], none, 0, 0⟩,
          ⟨(.some 68), (.idxAddrArr 32 1), [(.t 7), (.t 57)], none, 0, 0⟩,
          ⟨none, (.store 1), [(.t 68), (.t 67)], none, 0, 0⟩])))
      (.ops [2, 6, 7, 54] [
        ⟨(.some 69), (.arith .add), [(.t 54), (.c (.int .i64 1))], none, 0, 0⟩,
        ⟨(.some 54), .mv, [(.t 69)], none, 0, 0⟩])))))))
  (.seq
  (.ops [2] [
    ⟨(.some 70), (.load true 32), [(.t 7)], none, 0, 0⟩,
    ⟨none, (.store 32), [(.t 2), (.t 70)], none, 0, 0⟩])
  .ret))))))))))
def r48 : List ARes := [(.cell 2 true 32)]
theorem ok48 : FnOk Tryd.prog 48 c48 r48 :=
  ⟨Tryd.f48, _, Tryd.func48, by kernel_rfl, rfl, by kernel_rfl, by kernel_rfl⟩
/-- rill/rillref01.rows -/
def c49 : ACode :=
  (.seq
  (.ops [0] [
    ⟨(.some 2), .mv, [(.c .nils)], none, 0, 0⟩])
  (.seq
  (.ops [0, 3] [
    ⟨(.some 3), .mv, [(.c .nils)], none, 0, 0⟩])
  (.seq
  (.seq
  (.ops [0, 3, 4] [
    ⟨(.some 4), .mv, [(.c (.int .i64 0))], none, 0, 0⟩])
  (.block 0
    (.loop [0, 3, 4]
      (.seq
      (.seq
      (.ops [0, 3, 4, 10] [
        ⟨(.some 7), .mv, [(.t 4)], none, 0, 0⟩,
        ⟨(.some 8), .mv, [(.t 0)], none, 0, 0⟩,
        ⟨(.some 9), .len, [(.t 8)], none, 0, 0⟩,
        ⟨(.some 10), (.cmp .lss), [(.t 7), (.t 9)], none, 0, 0⟩])
      (.cond (.t 10)
        .skip
        (.exit 0)))
      (.seq
      (.block 1
        (.ops [0, 3, 4] [
          ⟨(.some 13), .mv, [(.t 3)], none, 0, 0⟩,
          ⟨(.some 14), .mv, [(.t 0)], none, 0, 0⟩,
          ⟨(.some 15), .mv, [(.t 4)], none, 0, 0⟩,
          ⟨(.some 16), (.idxAddr 1), [(.t 14), (.t 15)], none, 0, 0⟩,
          ⟨(.some 17), (.load false 1), [(.t 16)], none, 0, 0⟩,
          ⟨(.some 18), (.mkSl 1 [(.int .u8 0)] [(0, 1)]), [(.t 17)], none, 0, 0⟩,
          ⟨(.some 19), (.append 1 1), [(.t 13), (.t 18)], none, 0, 0⟩,
          ⟨(.some 3), .mv, [(.t 19)], none, 0, 0⟩]))
      (.ops [0, 3, 4] [
        ⟨(.some 11), .mv, [(.t 4)], none, 0, 0⟩,
        ⟨(.some 12), (.arith .add), [(.t 11), (.c (.int .i64 1))], none, 0, 0⟩,
        ⟨(.some 4), .mv, [(.t 12)], none, 0, 0⟩]))))))
  (.seq
  (.ops [0, 3] [
    ⟨(.some 20), .mv, [(.t 3)], none, 0, 0⟩,
    ⟨(.some 21), (.mkSl 1 [(.int .u8 0)] [(0, 1)]), [(.c (.int .u8 128))], none, 0, 0⟩,
    ⟨(.some 22), (.append 1 1), [(.t 20), (.t 21)], none, 0, 0⟩,
    ⟨(.some 3), .mv, [(.t 22)], none, 0, 0⟩])
  (.seq
  (.block 2
    (.loop [0, 3]
      (.seq
      (.seq
      (.ops [0, 3, 26] [
        ⟨(.some 23), .mv, [(.t 3)], none, 0, 0⟩,
        ⟨(.some 24), .len, [(.t 23)], none, 0, 0⟩,
        ⟨(.some 25), (.arith .rem), [(.t 24), (.c (.int .i64 64))], none, 0, 0⟩,
        ⟨(.some 26), (.eq true .int), [(.t 25), (.c (.int .i64 56))], none, 0, 0⟩])
      (.cond (.t 26)
        .skip
        (.exit 2)))
      (.block 3
        (.ops [0, 3] [
          ⟨(.some 27), .mv, [(.t 3)], none, 0, 0⟩,
          ⟨(.some 28), (.mkSl 1 [(.int .u8 0)] [(0, 1)]), [(.c (.int .u8 0))], none, 0, 0⟩,
          ⟨(.some 29), (.append 1 1), [(.t 27), (.t 28)], none, 0, 0⟩,
          ⟨(.some 3), .mv, [(.t 29)], none, 0, 0⟩])))))
  (.seq
  (.ops [3, 5] [
    ⟨(.some 30), .mv, [(.t 0)], none, 0, 0⟩,
    ⟨(.some 31), .len, [(.t 30)], none, 0, 0⟩,
    ⟨(.some 32), (.conv .u64), [(.t 31)], none, 0, 0⟩,
    ⟨(.some 33), (.arith .mul), [(.t 32), (.c (.int .u64 8))], none, 0, 0⟩,
    ⟨(.some 5), .mv, [(.t 33)], none, 0, 0⟩])
  (.seq
  (.seq
  (.ops [3, 5, 6] [
    ⟨(.some 6), .mv, [(.c (.int .i64 7))], none, 0, 0⟩])
  (.block 4
    (.loop [3, 5, 6]
      (.seq
      (.seq
      (.ops [3, 5, 6, 35] [
        ⟨(.some 34), .mv, [(.t 6)], none, 0, 0⟩,
        ⟨(.some 35), (.cmp .geq), [(.t 34), (.c (.int .i64 0))], none, 0, 0⟩])
      (.cond (.t 35)
        .skip
        (.exit 4)))
      (.seq
      (.block 5
        (.ops [3, 5, 6] [
          ⟨(.some 38), .mv, [(.t 3)], none, 0, 0⟩,
          ⟨(.some 39), .mv, [(.t 5)], none, 0, 0⟩,
          ⟨(.some 40), .mv, [(.t 6)], none, 0, 0⟩,
          ⟨(.some 41), (.arith .mul), [(.c (.int .i64 8)), (.t 40)], none, 0, 0⟩,
          ⟨(.some 42), (.conv .u64), [(.t 41)], none, 0, 0⟩,
          ⟨(.some 43), (.shift .shr), [(.t 39), (.t 42)], none, 0, 0⟩,
          ⟨(.some 44), (.conv .u8), [(.t 43)], none, 0, 0⟩,
          ⟨(.some 45), (.mkSl 1 [(.int .u8 0)] [(0, 1)]), [(.t 44)], none, 0, 0⟩,
          ⟨(.some 46), (.append 1 1), [(.t 38), (.t 45)], none, 0, 0⟩,
          ⟨(.some 3), .mv, [(.t 46)], none, 0, 0⟩]))
      (.ops [3, 5, 6] [
        ⟨(.some 36), .mv, [(.t 6)], none, 0, 0⟩,
        ⟨(.some 37), (.arith .sub), [(.t 36), (.c (.int .i64 1))], none, 0, 0⟩,
        ⟨(.some 6), .mv, [(.t 37)], none, 0, 0⟩]))))))
  (.seq
  (.ops [2] [
    ⟨(.some 47), .mv, [(.t 3)], none, 0, 0⟩,
    ⟨(.some 2), .mv, [(.t 47)], none, 0, 0⟩])
  .ret))))))))
def r49 : List ARes := [(.tmp 2)]
theorem ok49 : FnOk Tryd.prog 49 c49 r49 :=
  ⟨Tryd.f49, _, Tryd.func49, by kernel_rfl, rfl, by kernel_rfl, by kernel_rfl⟩
/-- rill/rillref01.first -/
def c50 : ACode :=
  (.seq
  (.ops [] [
    ⟨(.some 0), .mv, [(.c .nils)], none, 0, 0⟩])
  (.seq
  (.ops [0] [
    ⟨(.some 1), (.mkSl 8 [(.int .u32 0), (.int .u32 0), (.int .u32 0), (.int .u32 0), (.int .u32 0), (.int .u32 0), (.int .u32 0), (.int .u32 0)] [(0, 1), (1, 1), (2, 1), (3, 1), (4, 1), (5, 1), (6, 1), (7, 1)]), [(.c (.int .u32 1779033703)), (.c (.int .u32 3144134277)), (.c (.int .u32 1013904242)), (.c (.int .u32 2773480762)), (.c (.int .u32 1359893119)), (.c (.int .u32 2600822924)), (.c (.int .u32 528734635)), (.c (.int .u32 1541459225))], none, 0, 0⟩,
    ⟨(.some 0), .mv, [(.t 1)], none, 0, 0⟩])
  .ret))
def r50 : List ARes := [(.tmp 0)]
theorem ok50 : FnOk Tryd.prog 50 c50 r50 :=
  ⟨Tryd.f50, _, Tryd.func50, by kernel_rfl, rfl, by kernel_rfl, by kernel_rfl⟩
/-- rill/rillref01.take -/
def c51 : ACode :=
  (.seq
  (.ops [0, 1] [
    ⟨(.some 4), .mv, [(.c .nils)], none, 0, 0⟩])
  (.seq
  (.ops [0, 5] [
    ⟨(.some 15), .mv, [(.t 1)], none, 0, 0⟩,
    ⟨(.some 16), (.call 61), [(.t 15)], none, 0, 0⟩,
    ⟨(.some 5), .mv, [(.t 16)], none, 0, 0⟩])
  (.seq
  (.ops [0, 5, 6] [
    ⟨(.some 17), (.mkSl 0 [] []), [], none, 0, 0⟩,
    ⟨(.some 18), .mv, [(.t 0)], none, 0, 0⟩,
    ⟨(.some 19), (.append 1 4), [(.t 17), (.t 18)], none, 0, 0⟩,
    ⟨(.some 6), .mv, [(.t 19)], none, 0, 0⟩])
  (.seq
  (.seq
  (.ops [0, 5, 6, 7] [
    ⟨(.some 7), .mv, [(.c (.int .i64 0))], none, 0, 0⟩])
  (.block 0
    (.loop [0, 5, 6, 7]
      (.seq
      (.seq
      (.ops [0, 5, 6, 7, 21] [
        ⟨(.some 20), .mv, [(.t 7)], none, 0, 0⟩,
        ⟨(.some 21), (.cmp .lss), [(.t 20), (.c (.int .i64 64))], none, 0, 0⟩])
      (.cond (.t 21)
        .skip
        (.exit 0)))
      (.seq
      (.block 1
        (.seq
        (.drawn [0, 5, 6, 7, 8] [
          ⟨(.some 24), .mv, [(.t 6)], none, 0, 0⟩,
          ⟨(.some 25), (.idxAddr 1), [(.t 24), (.c (.int .i64 4))], none, 0, 0⟩,
          ⟨(.some 26), (.load false 1), [(.t 25)], none, 0, 0⟩,
          ⟨(.some 27), (.call 62), [(.c (.int .u64 6)), (.t 26)], none, 0, 1⟩,
          ⟨(.some 28), .mv, [(.t 6)], none, 0, 1⟩,
          ⟨(.some 29), (.idxAddr 1), [(.t 28), (.c (.int .i64 4))], none, 0, 1⟩,
          ⟨(.some 30), (.load false 1), [(.t 29)], none, 0, 1⟩,
          ⟨(.some 31), (.call 62), [(.c (.int .u64 11)), (.t 30)], none, 1, 2⟩,
          ⟨(.some 32), (.arith .xor), [(.t 27), (.t 31)], none, 2, 3⟩,
          ⟨(.some 33), .mv, [(.t 6)], none, 0, 2⟩,
          ⟨(.some 34), (.idxAddr 1), [(.t 33), (.c (.int .i64 4))], none, 0, 2⟩,
          ⟨(.some 35), (.load false 1), [(.t 34)], none, 0, 2⟩,
          ⟨(.some 36), (.call 62), [(.c (.int .u64 25)), (.t 35)], none, 2, 3⟩,
          ⟨(.some 37), (.arith .xor), [(.t 32), (.t 36)], none, 3, 3⟩,
          ⟨(.some 8), .mv, [(.t 37)], none, 3, 3⟩])
        (.seq
        (.drawn [0, 5, 6, 7, 8, 9] [
          ⟨(.some 38), .mv, [(.t 6)], none, 0, 0⟩,
          ⟨(.some 39), (.idxAddr 1), [(.t 38), (.c (.int .i64 4))], none, 0, 0⟩,
          ⟨(.some 40), (.load false 1), [(.t 39)], none, 0, 0⟩,
          ⟨(.some 41), .mv, [(.t 6)], none, 0, 0⟩,
          ⟨(.some 42), (.idxAddr 1), [(.t 41), (.c (.int .i64 5))], none, 0, 0⟩,
          ⟨(.some 43), (.load false 1), [(.t 42)], none, 0, 0⟩,
          ⟨(.some 44), (.arith .and), [(.t 40), (.t 43)], none, 0, 0⟩,
          ⟨(.some 45), .mv, [(.t 6)], none, 0, 0⟩,
          ⟨(.some 46), (.idxAddr 1), [(.t 45), (.c (.int .i64 4))], none, 0, 0⟩,
          ⟨(.some 47), (.load false 1), [(.t 46)], none, 0, 0⟩,
          ⟨(.some 48), .bnot, [(.t 47)], none, 0, 0⟩,
          ⟨(.some 49), .mv, [(.t 6)], none, 0, 0⟩,
          ⟨(.some 50), (.idxAddr 1), [(.t 49), (.c (.int .i64 6))], none, 0, 0⟩,
          ⟨(.some 51), (.load false 1), [(.t 50)], none, 0, 0⟩,
          ⟨(.some 52), (.arith .and), [(.t 48), (.t 51)], none, 0, 0⟩,
          ⟨(.some 53), (.arith .xor), [(.t 44), (.t 52)], none, 0, 0⟩,
          ⟨(.some 9), .mv, [(.t 53)], none, 0, 0⟩])
        (.seq
        (.drawn [0, 5, 6, 7, 10] [
          ⟨(.some 54), .mv, [(.t 6)], none, 0, 0⟩,
          ⟨(.some 55), (.idxAddr 1), [(.t 54), (.c (.int .i64 7))], none, 0, 0⟩,
          ⟨(.some 56), (.load false 1), [(.t 55)], none, 0, 0⟩,
          ⟨(.some 57), .mv, [(.t 8)], none, 0, 0⟩,
          ⟨(.some 58), (.arith .add), [(.t 56), (.t 57)], none, 0, 0⟩,
          ⟨(.some 59), .mv, [(.t 9)], none, 0, 0⟩,
          ⟨(.some 60), (.arith .add), [(.t 58), (.t 59)], none, 0, 0⟩,
          ⟨(.some 61), .mv, [(.t 7)], none, 0, 0⟩,
          ⟨(.some 62), (.idxAddrArr 64 1), [(.c (.ptr 1 0)), (.t 61)], none, 0, 0⟩,
          ⟨(.some 63), (.load false 1), [(.t 62)], none, 0, 0⟩,
          ⟨(.some 64), (.arith .add), [(.t 60), (.t 63)], none, 0, 0⟩,
          ⟨(.some 65), .mv, [(.t 5)], none, 0, 0⟩,
          ⟨(.some 66), .mv, [(.t 7)], none, 0, 0⟩,
          ⟨(.some 67), (.idxAddr 1), [(.t 65), (.t 66)], none, 0, 0⟩,
          ⟨(.some 68), (.load false 1), [(.t 67)], none, 0, 0⟩,
          ⟨(.some 69), (.arith .add), [(.t 64), (.t 68)], none, 0, 0⟩,
          ⟨(.some 10), .mv, [(.t 69)], none, 0, 0⟩])
        (.seq
        (.drawn [0, 5, 6, 7, 10, 11] [
          ⟨(.some 70), .mv, [(.t 6)], none, 0, 0⟩,
          ⟨(.some 71), (.idxAddr 1), [(.t 70), (.c (.int .i64 0))], none, 0, 0⟩,
          ⟨(.some 72), (.load false 1), [(.t 71)], none, 0, 0⟩,
          ⟨(.some 73), (.call 62), [(.c (.int .u64 2)), (.t 72)], none, 0, 1⟩,
          ⟨(.some 74), .mv, [(.t 6)], none, 0, 1⟩,
          ⟨(.some 75), (.idxAddr 1), [(.t 74), (.c (.int .i64 0))], none, 0, 1⟩,
          ⟨(.some 76), (.load false 1), [(.t 75)], none, 0, 1⟩,
          ⟨(.some 77), (.call 62), [(.c (.int .u64 13)), (.t 76)], none, 1, 2⟩,
          ⟨(.some 78), (.arith .xor), [(.t 73), (.t 77)], none, 2, 3⟩,
          ⟨(.some 79), .mv, [(.t 6)], none, 0, 2⟩,
          ⟨(.some 80), (.idxAddr 1), [(.t 79), (.c (.int .i64 0))], none, 0, 2⟩,
          ⟨(.some 81), (.load false 1), [(.t 80)], none, 0, 2⟩,
          ⟨(.some 82), (.call 62), [(.c (.int .u64 22)), (.t 81)], none, 2, 3⟩,
          ⟨(.some 83), (.arith .xor), [(.t 78), (.t 82)], none, 3, 3⟩,
          ⟨(.some 11), .mv, [(.t 83)], none, 3, 3⟩])
        (.seq
        (.drawn [0, 5, 6, 7, 10, 11, 12] [
          ⟨(.some 84), .mv, [(.t 6)], none, 0, 0⟩,
          ⟨(.some 85), (.idxAddr 1), [(.t 84), (.c (.int .i64 0))], none, 0, 0⟩,
          ⟨(.some 86), (.load false 1), [(.t 85)], none, 0, 0⟩,
          ⟨(.some 87), .mv, [(.t 6)], none, 0, 0⟩,
          ⟨(.some 88), (.idxAddr 1), [(.t 87), (.c (.int .i64 1))], none, 0, 0⟩,
          ⟨(.some 89), (.load false 1), [(.t 88)], none, 0, 0⟩,
          ⟨(.some 90), (.arith .and), [(.t 86), (.t 89)], none, 0, 0⟩,
          ⟨(.some 91), .mv, [(.t 6)], none, 0, 0⟩,
          ⟨(.some 92), (.idxAddr 1), [(.t 91), (.c (.int .i64 0))], none, 0, 0⟩,
          ⟨(.some 93), (.load false 1), [(.t 92)], none, 0, 0⟩,
          ⟨(.some 94), .mv, [(.t 6)], none, 0, 0⟩,
          ⟨(.some 95), (.idxAddr 1), [(.t 94), (.c (.int .i64 2))], none, 0, 0⟩,
          ⟨(.some 96), (.load false 1), [(.t 95)], none, 0, 0⟩,
          ⟨(.some 97), (.arith .and), [(.t 93), (.t 96)], none, 0, 0⟩,
          ⟨(.some 98), (.arith .xor), [(.t 90), (.t 97)], none, 0, 0⟩,
          ⟨(.some 99), .mv, [(.t 6)], none, 0, 0⟩,
          ⟨(.some 100), (.idxAddr 1), [(.t 99), (.c (.int .i64 1))], none, 0, 0⟩,
          ⟨(.some 101), (.load false 1), [(.t 100)], none, 0, 0⟩,
          ⟨(.some 102), .mv, [(.t 6)], none, 0, 0⟩,
          ⟨(.some 103), (.idxAddr 1), [(.t 102), (.c (.int .i64 2))], none, 0, 0⟩,
          ⟨(.some 104), (.load false 1), [(.t 103)], none, 0, 0⟩,
          ⟨(.some 105), (.arith .and), [(.t 101), (.t 104)], none, 0, 0⟩,
          ⟨(.some 106), (.arith .xor), [(.t 98), (.t 105)], none, 0, 0⟩,
          ⟨(.some 12), .mv, [(.t 106)], none, 0, 0⟩])
        (.drawn [0, 5, 6, 7] [
          ⟨(.some 107), .mv, [(.t 10)], none, 0, 0⟩,
          ⟨(.some 108), .mv, [(.t 11)], none, 0, 0⟩,
          ⟨(.some 109), (.arith .add), [(.t 107), (.t 108)], none, 0, 0⟩,
          ⟨(.some 110), .mv, [(.t 12)], none, 0, 0⟩,
          ⟨(.some 111), (.arith .add), [(.t 109), (.t 110)], none, 0, 0⟩,
          ⟨(.some 112), .mv, [(.t 6)], none, 0, 0⟩,
          ⟨(.some 113), (.idxAddr 1), [(.t 112), (.c (.int .i64 0))], none, 0, 0⟩,
          ⟨(.some 114), (.load false 1), [(.t 113)], none, 0, 0⟩,
          ⟨(.some 115), .mv, [(.t 6)], none, 0, 0⟩,
          ⟨(.some 116), (.idxAddr 1), [(.t 115), (.c (.int .i64 1))], none, 0, 0⟩,
          ⟨(.some 117), (.load false 1), [(.t 116)], none, 0, 0⟩,
          ⟨(.some 118), .mv, [(.t 6)], none, 0, 0⟩,
          ⟨(.some 119), (.idxAddr 1), [(.t 118), (.c (.int .i64 2))], none, 0, 0⟩,
          ⟨(.some 120), (.load false 1), [(.t 119)], none, 0, 0⟩,
          ⟨(.some 121), .mv, [(.t 6)], none, 0, 0⟩,
          ⟨(.some 122), (.idxAddr 1), [(.t 121), (.c (.int .i64 3))], none, 0, 0⟩,
          ⟨(.some 123), (.load false 1), [(.t 122)], none, 0, 0⟩,
          ⟨(.some 124), .mv, [(.t 10)], none, 0, 0⟩,
          ⟨(.some 125), (.arith .add), [(.t 123), (.t 124)], none, 0, 0⟩,
          ⟨(.some 126), .mv, [(.t 6)], none, 0, 0⟩,
          ⟨(.some 127), (.idxAddr 1), [(.t 126), (.c (.int .i64 4))], none, 0, 0⟩,
          ⟨(.some 128), (.load false 1), [(.t 127)], none, 0, 0⟩,
          ⟨(.some 129), .mv, [(.t 6)], none, 0, 0⟩,
          ⟨(.some 130), (.idxAddr 1), [(.t 129), (.c (.int .i64 5))], none, 0, 0⟩,
          ⟨(.some 131), (.load false 1), [(.t 130)], none, 0, 0⟩,
          ⟨(.some 132), .mv, [(.t 6)], none, 0, 0⟩,
          ⟨(.some 133), (.idxAddr 1), [(.t 132), (.c (.int .i64 6))], none, 0, 0⟩,
          ⟨(.some 134), (.load false 1), [(.t 133)], none, 0, 0⟩,
          ⟨(.some 135), (.mkSl 8 [(.int .u32 0), (.int .u32 0), (.int .u32 0), (.int .u32 0), (.int .u32 0), (.int .u32 0), (.int .u32 0), (.int .u32 0)] [(0, 1), (1, 1), (2, 1), (3, 1), (4, 1), (5, 1), (6, 1), (7, 1)]), [(.t 111), (.t 114), (.t 117), (.t 120), (.t 125), (.t 128), (.t 131), (.t 134)], none, 0, 0⟩,
          ⟨(.some 6), .mv, [(.t 135)], none, 0, 0⟩])))))))
      (.ops [0, 5, 6, 7] [
        ⟨(.some 22), .mv, [(.t 7)], none, 0, 0⟩,
        ⟨(.some 23), (.arith .add), [(.t 22), (.c (.int .i64 1))], none, 0, 0⟩,
        ⟨(.some 7), .mv, [(.t 23)], none, 0, 0⟩]))))))
  (.seq
  (.ops [0, 6, 13] [
    ⟨(.some 13), .mv, [(.c .nils)], none, 0, 0⟩])
  (.seq
  (.seq
  (.ops [0, 6, 13, 14] [
    ⟨(.some 14), .mv, [(.c (.int .i64 0))], none, 0, 0⟩])
  (.block 2
    (.loop [0, 6, 13, 14]
      (.seq
      (.seq
      (.ops [0, 6, 13, 14, 137] [
        ⟨(.some 136), .mv, [(.t 14)], none, 0, 0⟩,
        ⟨(.some 137), (.cmp .lss), [(.t 136), (.c (.int .i64 8))], none, 0, 0⟩])
      (.cond (.t 137)
        .skip
        (.exit 2)))
      (.seq
      (.block 3
        (.drawn [0, 6, 13, 14] [
          ⟨(.some 140), .mv, [(.t 13)], none, 0, 0⟩,
          ⟨(.some 141), .mv, [(.t 0)], none, 0, 0⟩,
          ⟨(.some 142), .mv, [(.t 14)], none, 0, 0⟩,
          ⟨(.some 143), (.idxAddr 1), [(.t 141), (.t 142)], none, 0, 0⟩,
          ⟨(.some 144), (.load false 1), [(.t 143)], none, 0, 0⟩,
          ⟨(.some 145), .mv, [(.t 6)], none, 0, 0⟩,
          ⟨(.some 146), .mv, [(.t 14)], none, 0, 0⟩,
          ⟨(.some 147), (.idxAddr 1), [(.t 145), (.t 146)], none, 0, 0⟩,
          ⟨(.some 148), (.load false 1), [(.t 147)], none, 0, 0⟩,
          ⟨(.some 149), (.arith .add), [(.t 144), (.t 148)], none, 0, 0⟩,
          ⟨(.some 150), (.mkSl 1 [(.int .u32 0)] [(0, 1)]), [(.t 149)], none, 0, 0⟩,
          ⟨(.some 151), (.append 1 4), [(.t 140), (.t 150)], none, 0, 1⟩,
          ⟨(.some 13), .mv, [(.t 151)], none, 1, 1⟩]))
      (.ops [0, 6, 13, 14] [
        ⟨(.some 138), .mv, [(.t 14)], none, 0, 0⟩,
        ⟨(.some 139), (.arith .add), [(.t 138), (.c (.int .i64 1))], none, 0, 0⟩,
        ⟨(.some 14), .mv, [(.t 139)], none, 0, 0⟩]))))))
  (.seq
  (.ops [4] [
    ⟨(.some 152), .mv, [(.t 13)], none, 0, 0⟩,
    ⟨(.some 4), .mv, [(.t 152)], none, 0, 0⟩])
  .ret)))))))
def r51 : List ARes := [(.tmp 4)]
theorem ok51 : FnOk Tryd.prog 51 c51 r51 :=
  ⟨Tryd.f51, _, Tryd.func51, by kernel_rfl, rfl, by kernel_rfl, by kernel_rfl⟩
/-- rill/mac.blockOf -/
def c52 : ACode :=
  (.seq
  (.ops [0, 1, 4] [
    ⟨(.some 4), (.alloc (List.replicate 64 (.int .u8 0))), [], none, 0, 0⟩])
  (.seq
  (.ops [0, 1, 4, 5] [
    ⟨(.some 5), (.alloc (List.replicate 64 (.int .u8 0))), [], none, 0, 0⟩])
  (.seq
  (.seq
  (.ops [0, 1, 4, 5, 10] [
    ⟨(.some 8), .mv, [(.t 0)], none, 0, 0⟩,
    ⟨(.some 9), .len, [(.t 8)], none, 0, 0⟩,
    ⟨(.some 10), (.cmp .gtr), [(.t 9), (.c (.int .i64 64))], none, 0, 0⟩])
  (.cond (.t 10)
    (.seq
    (.ops [1, 4, 5, 6] [
      ⟨(.some 11), .mv, [(.t 0)], none, 0, 0⟩,
      ⟨(.some 12), (.call 34), [(.t 11)], none, 0, 0⟩,
      ⟨(.some 6), (.alloc (List.replicate 32 (.int .u8 0))), [], none, 0, 0⟩,
      ⟨none, (.store 32), [(.t 6), (.t 12)], none, 0, 0⟩])
    (.drawn [1, 4, 5] [
      ⟨(.some 13), (.sliceArr 64 1 false false false), [(.t 5)], none, 0, 0⟩,
      ⟨(.some 14), (.sliceArr 32 1 false false false), [(.t 6)], none, 0, 0⟩,
      ⟨(.some 15), (.copy 1), [(.t 13), (.t 14)], none, 0, 1⟩]))
    (.ops [1, 4, 5] [
      ⟨(.some 16), (.sliceArr 64 1 false false false), [(.t 5)], none, 0, 0⟩,
      ⟨(.some 17), .mv, [(.t 0)], none, 0, 0⟩,
      ⟨(.some 18), (.copy 1), [(.t 16), (.t 17)], none, 0, 0⟩])))
  (.seq
  (.seq
  (.ops [1, 4, 5, 19] [
    ⟨(.some 19), .mv, [(.c (.int .i64 0))], none, 0, 0⟩])
  (.block 0
    (.loop [1, 4, 5, 19]
      (.seq
      (.ops [1, 4, 5, 19, 20] [
        ⟨(.some 20), (.cmp .lss), [(.t 19), (.c (.int .i64 64))], none, 0, 0⟩])
      (.seq
      (.cond (.t 20)
        .skip
        (.exit 0))
      (.seq
      (.block 1
        (.seq
        (.ops [1, 4, 5, 7, 19] [
          ⟨(.some 21), .mv, [(.t 19)], none, 0, 0⟩,
          ⟨(.some 7), .mv, [(.t 21)], none, 0, 0⟩])
        (.ops [1, 4, 5, 19] [
          ⟨(.some 22), .mv, [(.t 7)], none, 0, 0⟩,
          ⟨(.some 23), (.idxAddrArr 64 1), [(.t 5), (.t 22)], none, 0, 0⟩,
          ⟨(.some 24), (.load false 1), [(.t 23)], none, 0, 0⟩,
          ⟨(.some 25), .mv, [(.t 1)], none, 0, 0⟩,
          ⟨(.some 26), (.arith .xor), [(.t 24), (.t 25)], none, 0, 0⟩,
          ⟨(.some 27), (.idxAddrArr 64 1), [(.t 5), (.t 22)], none, 0, 0⟩,
          ⟨none, (.store 1), [(.t 27), (.t 26)], none, 0, 0⟩])))
      (.ops [1, 4, 5, 19] [
        ⟨(.some 28), (.arith .add), [(.t 19), (.c (.int .i64 1))], none, 0, 0⟩,
        ⟨(.some 19), .mv, [(.t 28)], none, 0, 0⟩])))))))
  (.seq
  (.ops [4] [
    ⟨(.some 29), (.load true 64), [(.t 5)], none, 0, 0⟩,
    ⟨none, (.store 64), [(.t 4), (.t 29)], none, 0, 0⟩])
  .ret)))))
def r52 : List ARes := [(.cell 4 true 64)]
theorem ok52 : FnOk Tryd.prog 52 c52 r52 :=
  ⟨Tryd.f52, _, Tryd.func52, by kernel_rfl, rfl, by kernel_rfl, by kernel_rfl⟩
/-- rill/ctr.put -/
def c53 : ACode :=
  (.seq
  (.ops [0, 1, 6, 7] [
    ⟨(.some 5), .mv, [(.t 0)], none, 0, 0⟩,
    ⟨(.some 6), .len, [(.t 5)], none, 0, 0⟩,
    ⟨(.some 7), .mv, [(.c (.int .i64 0))], none, 0, 0⟩])
  (.block 0
    (.loop [0, 1, 6, 7]
      (.seq
      (.ops [0, 1, 6, 7, 8] [
        ⟨(.some 8), (.cmp .lss), [(.t 7), (.t 6)], none, 0, 0⟩])
      (.seq
      (.cond (.t 8)
        .skip
        (.exit 0))
      (.seq
      (.block 1
        (.seq
        (.ops [0, 1, 4, 6, 7] [
          ⟨(.some 9), .mv, [(.t 7)], none, 0, 0⟩,
          ⟨(.some 4), .mv, [(.t 9)], none, 0, 0⟩])
        (.ops [0, 1, 6, 7] [
          ⟨(.some 10), .mv, [(.t 0)], none, 0, 0⟩,
          ⟨(.some 11), .mv, [(.t 4)], none, 0, 0⟩,
          ⟨(.some 12), .mv, [(.t 1)], none, 0, 0⟩,
          ⟨(.some 13), .mv, [(.t 0)], none, 0, 0⟩,
          ⟨(.some 14), .len, [(.t 13)], none, 0, 0⟩,
          ⟨(.some 15), (.arith .sub), [(.t 14), (.c (.int .i64 1))], none, 0, 0⟩,
          ⟨(.some 16), .mv, [(.t 4)], none, 0, 0⟩,
          ⟨(.some 17), (.arith .sub), [(.t 15), (.t 16)], none, 0, 0⟩,
          ⟨(.some 18), (.arith .mul), [(.c (.int .i64 8)), (.t 17)], none, 0, 0⟩,
          ⟨(.some 19), (.shift .shr), [(.t 12), (.t 18)], none, 0, 0⟩,
          ⟨(.some 20), (.conv .u8), [(.t 19)], none, 0, 0⟩,
          ⟨(.some 21), (.idxAddr 1), [(.t 10), (.t 11)], none, 0, 0⟩,
          ⟨none, (.store 1), [(.t 21), (.t 20)], none, 0, 0⟩])))
      (.ops [0, 1, 6, 7] [
        ⟨(.some 22), (.arith .add), [(.t 7), (.c (.int .i64 1))], none, 0, 0⟩,
        ⟨(.some 7), .mv, [(.t 22)], none, 0, 0⟩])))))))
def r53 : List ARes := []
theorem ok53 : FnOk Tryd.prog 53 c53 r53 :=
  ⟨Tryd.f53, _, Tryd.func53, by kernel_rfl, rfl, by kernel_rfl, by kernel_rfl⟩
/-- rill/ctr.stream$1 -/
def c54 : ACode :=
  (.seq
  (.ops [0, 1, 2, 3, 4] [
    ⟨(.some 5), .mv, [(.c (.int .u8 0))], none, 0, 0⟩])
  (.seq
  (.seq
  (.ops [0, 1, 2, 3, 4, 7] [
    ⟨(.some 6), (.load false 1), [(.t 0)], none, 0, 0⟩,
    ⟨(.some 7), (.eq false .int), [(.t 6), (.c (.int .i64 16))], none, 0, 0⟩])
  (.cond (.t 7)
    (.seq
    (.drawn [0, 1, 2, 3, 4] [
      ⟨(.some 8), (.sliceArr 16 1 true false false), [(.t 1), (.c (.int .i64 12))], none, 0, 0⟩,
      ⟨(.some 9), (.load false 1), [(.t 2)], none, 0, 0⟩,
      ⟨(.some 10), (.call 53), [(.t 8), (.t 9)], none, 0, 1⟩])
    (.seq
    (.ops [0, 2, 4] [
      ⟨(.some 11), (.load false 1), [(.t 3)], none, 0, 0⟩,
      ⟨(.some 12), (.load true 16), [(.t 1)], none, 0, 0⟩,
      ⟨(.some 13), (.call 55), [(.t 11), (.t 12)], none, 0, 0⟩,
      ⟨none, (.store 16), [(.t 4), (.t 13)], none, 0, 0⟩])
    (.drawn [0, 4] [
      ⟨(.some 14), (.load false 1), [(.t 2)], none, 0, 1⟩,
      ⟨(.some 15), (.arith .add), [(.t 14), (.c (.int .u64 1))], none, 0, 1⟩,
      ⟨none, (.store 1), [(.t 0), (.c (.int .i64 0))], none, 0, 1⟩,
      ⟨none, (.store 1), [(.t 2), (.t 15)], none, 1, 2⟩])))
    .skip))
  (.seq
  (.ops [0, 4] [
    ⟨(.some 16), (.load false 1), [(.t 0)], none, 0, 0⟩,
    ⟨(.some 17), (.arith .add), [(.t 16), (.c (.int .i64 1))], none, 0, 0⟩,
    ⟨none, (.store 1), [(.t 0), (.t 17)], none, 0, 0⟩])
  (.seq
  (.ops [5] [
    ⟨(.some 18), (.load false 1), [(.t 0)], none, 0, 0⟩,
    ⟨(.some 19), (.arith .sub), [(.t 18), (.c (.int .i64 1))], none, 0, 0⟩,
    ⟨(.some 20), (.idxAddrArr 16 1), [(.t 4), (.t 19)], none, 0, 0⟩,
    ⟨(.some 21), (.load false 1), [(.t 20)], none, 0, 0⟩,
    ⟨(.some 5), .mv, [(.t 21)], none, 0, 0⟩])
  .ret))))
def r54 : List ARes := [(.tmp 5)]
theorem ok54 : FnOk Tryd.prog 54 c54 r54 :=
  ⟨Tryd.f54, _, Tryd.func54, by kernel_rfl, rfl, by kernel_rfl, by kernel_rfl⟩
/-- (*rill/aes.Cipher).Block -/
def c55 : ACode :=
  (.seq
  (.ops [0, 3, 4] [
    ⟨(.some 3), .box, [(.t 1)], none, 0, 0⟩,
    ⟨(.some 4), (.alloc (List.replicate 16 (.int .u8 0))), [], none, 0, 0⟩])
  (.seq
  (.drawn [0, 4, 5] [
    ⟨(.some 10), (.load true 16), [(.t 3)], none, 0, 0⟩,
    ⟨(.some 11), .mv, [(.t 0)], none, 0, 0⟩,
    ⟨(.some 12), .nilCheck, [(.t 11)], none, 0, 0⟩,
    ⟨(.some 13), (.fieldAddr 0), [(.t 12)], none, 0, 0⟩,
    ⟨(.some 14), (.load false 1), [(.t 13)], none, 0, 0⟩,
    ⟨(.some 15), (.idxAddr 16), [(.t 14), (.c (.int .i64 0))], none, 0, 0⟩,
    ⟨(.some 16), (.load true 16), [(.t 15)], none, 0, 0⟩,
    ⟨(.some 17), (.call 63), [(.t 10), (.t 16)], none, 0, 1⟩,
    ⟨(.some 5), (.alloc (List.replicate 16 (.int .u8 0))), [], none, 0, 1⟩,
    ⟨none, (.store 16), [(.t 5), (.t 17)], none, 1, 2⟩])
  (.seq
  (.seq
  (.ops [0, 4, 5, 22, 23, 24] [
    ⟨(.some 18), .mv, [(.t 0)], none, 0, 0⟩,
    ⟨(.some 19), .nilCheck, [(.t 18)], none, 0, 0⟩,
    ⟨(.some 20), (.fieldAddr 0), [(.t 19)], none, 0, 0⟩,
    ⟨(.some 21), (.load false 1), [(.t 20)], none, 0, 0⟩,
    ⟨(.some 22), (.slice 16 true false false), [(.t 21), (.c (.int .i64 1))], none, 0, 0⟩,
    ⟨(.some 23), .len, [(.t 22)], none, 0, 0⟩,
    ⟨(.some 24), .mv, [(.c (.int .i64 0))], none, 0, 0⟩])
  (.block 0
    (.loop [0, 4, 5, 22, 23, 24]
      (.seq
      (.ops [0, 4, 5, 22, 23, 24, 25] [
        ⟨(.some 25), (.cmp .lss), [(.t 24), (.t 23)], none, 0, 0⟩])
      (.seq
      (.cond (.t 25)
        .skip
        (.exit 0))
      (.seq
      (.block 1
        (.seq
        (.ops [0, 4, 5, 6, 7, 22, 23, 24] [
          ⟨(.some 26), .mv, [(.t 24)], none, 0, 0⟩,
          ⟨(.some 27), (.idxAddr 16), [(.t 22), (.t 24)], none, 0, 0⟩,
          ⟨(.some 28), (.load true 16), [(.t 27)], none, 0, 0⟩,
          ⟨(.some 7), (.alloc (List.replicate 16 (.int .u8 0))), [], none, 0, 0⟩,
          ⟨(.some 6), .mv, [(.t 26)], none, 0, 0⟩,
          ⟨none, (.store 16), [(.t 7), (.t 28)], none, 0, 0⟩])
        (.seq
        (.ops [0, 4, 5, 6, 7, 8, 22, 23, 24] [
          ⟨(.some 8), (.alloc (List.replicate 16 (.int .u8 0))), [], none, 0, 0⟩])
        (.seq
        (.seq
        (.ops [0, 4, 5, 6, 7, 8, 22, 23, 24, 29] [
          ⟨(.some 29), .mv, [(.c (.int .i64 0))], none, 0, 0⟩])
        (.block 2
          (.loop [0, 4, 5, 6, 7, 8, 22, 23, 24, 29]
            (.seq
            (.ops [0, 4, 5, 6, 7, 8, 22, 23, 24, 29, 30] [
              ⟨(.some 30), (.cmp .lss), [(.t 29), (.c (.int .i64 16))], none, 0, 0⟩])
            (.seq
            (.cond (.t 30)
              .skip
              (.exit 2))
            (.seq
            (.block 3
              (.seq
              (.ops [0, 4, 5, 6, 7, 8, 9, 22, 23, 24, 29] [
                ⟨(.some 31), .mv, [(.t 29)], none, 0, 0⟩,
                ⟨(.some 9), .mv, [(.t 31)], none, 0, 0⟩])
              (.drawn [0, 4, 5, 6, 7, 8, 22, 23, 24, 29] [
                ⟨(.some 32), .mv, [(.t 9)], none, 0, 0⟩,
                ⟨(.some 33), .mv, [(.t 0)], none, 0, 0⟩,
                ⟨(.some 34), .mv, [(.t 9)], none, 0, 0⟩,
                ⟨(.some 35), .mv, [(.t 9)], none, 0, 0⟩,
                ⟨(.some 36), (.arith .rem), [(.t 35), (.c (.int .i64 4))], none, 0, 0⟩,
                ⟨(.some 37), (.arith .mul), [(.c (.int .i64 4)), (.t 36)], none, 0, 0⟩,
                ⟨(.some 38), (.arith .add), [(.t 34), (.t 37)], none, 0, 0⟩,
                ⟨(.some 39), (.arith .rem), [(.t 38), (.c (.int .i64 16))], none, 0, 0⟩,
                ⟨(.some 40), (.idxAddrArr 16 1), [(.t 5), (.t 39)], none, 0, 0⟩,
                ⟨(.some 41), (.load false 1), [(.t 40)], none, 0, 0⟩,
                ⟨(.some 42), .nilCheck, [(.t 33)], none, 0, 0⟩,
                ⟨(.some 43), (.fieldAddr 1), [(.t 42)], none, 0, 0⟩,
                ⟨(.some 44), (.idxAddrArr 256 1), [(.t 43), (.t 41)], none, 0, 0⟩,
                ⟨(.some 45), (.load false 1), [(.t 44)], none, 0, 0⟩,
                ⟨(.some 46), (.idxAddrArr 16 1), [(.t 8), (.t 32)], none, 0, 0⟩,
                ⟨none, (.store 1), [(.t 46), (.t 45)], none, 0, 1⟩])))
            (.ops [0, 4, 5, 6, 7, 8, 22, 23, 24, 29] [
              ⟨(.some 47), (.arith .add), [(.t 29), (.c (.int .i64 1))], none, 0, 0⟩,
              ⟨(.some 29), .mv, [(.t 47)], none, 0, 0⟩])))))))
        (.seq
        (.seq
        (.ops [0, 4, 5, 7, 8, 22, 23, 24, 55] [
          ⟨(.some 48), .mv, [(.t 6)], none, 0, 0⟩,
          ⟨(.some 49), .mv, [(.t 0)], none, 0, 0⟩,
          ⟨(.some 50), .nilCheck, [(.t 49)], none, 0, 0⟩,
          ⟨(.some 51), (.fieldAddr 0), [(.t 50)], none, 0, 0⟩,
          ⟨(.some 52), (.load false 1), [(.t 51)], none, 0, 0⟩,
          ⟨(.some 53), .len, [(.t 52)], none, 0, 0⟩,
          ⟨(.some 54), (.arith .sub), [(.t 53), (.c (.int .i64 2))], none, 0, 0⟩,
          ⟨(.some 55), (.cmp .lss), [(.t 48), (.t 54)], none, 0, 0⟩])
        (.cond (.t 55)
          (.ops [0, 4, 5, 7, 8, 22, 23, 24] [
            ⟨(.some 56), (.load true 16), [(.t 8)], none, 0, 0⟩,
            ⟨(.some 57), (.call 64), [(.t 56)], none, 0, 0⟩,
            ⟨none, (.store 16), [(.t 8), (.t 57)], none, 0, 0⟩])
          .skip))
        (.ops [0, 4, 5, 22, 23, 24] [
          ⟨(.some 58), (.load true 16), [(.t 8)], none, 0, 0⟩,
          ⟨(.some 59), (.load true 16), [(.t 7)], none, 0, 0⟩,
          ⟨(.some 60), (.call 63), [(.t 58), (.t 59)], none, 0, 0⟩,
          ⟨none, (.store 16), [(.t 5), (.t 60)], none, 0, 0⟩]))))))
      (.ops [0, 4, 5, 22, 23, 24] [
        ⟨(.some 61), (.arith .add), [(.t 24), (.c (.int .i64 1))], none, 0, 0⟩,
        ⟨(.some 24), .mv, [(.t 61)], none, 0, 0⟩])))))))
  (.seq
  (.ops [4] [
    ⟨(.some 62), (.load true 16), [(.t 5)], none, 0, 0⟩,
    ⟨none, (.store 16), [(.t 4), (.t 62)], none, 0, 0⟩])
  .ret))))
def r55 : List ARes := [(.cell 4 true 16)]
theorem ok55 : FnOk Tryd.prog 55 c55 r55 :=
  ⟨Tryd.f55, _, Tryd.func55, by kernel_rfl, rfl, by kernel_rfl, by kernel_rfl⟩
/-- rill/rillref02.Block -/
def c56 : ACode :=
  (.seq
  (.ops [0, 1] [
    ⟨(.some 4), .mv, [(.c .nils)], none, 0, 0⟩])
  (.seq
  (.ops [0, 1, 5] [
    ⟨(.some 5), .mv, [(.c .nils)], none, 0, 0⟩])
  (.seq
  (.seq
  (.ops [0, 1, 5, 6] [
    ⟨(.some 6), .mv, [(.c (.int .i64 0))], none, 0, 0⟩])
  (.block 0
    (.loop [0, 1, 5, 6]
      (.seq
      (.seq
      (.ops [0, 1, 5, 6, 18] [
        ⟨(.some 10), .mv, [(.t 6)], none, 0, 0⟩,
        ⟨(.some 11), .mv, [(.t 0)], none, 0, 0⟩,
        ⟨(.some 12), .len, [(.t 11)], none, 0, 0⟩,
        ⟨(.some 13), (.cmp .lss), [(.t 10), (.t 12)], none, 0, 0⟩,
        ⟨(.some 14), .mv, [(.t 13)], none, 0, 0⟩,
        ⟨(.some 15), .mv, [(.t 0)], (.some (14, true)), 0, 0⟩,
        ⟨(.some 16), .len, [(.t 15)], (.some (14, true)), 0, 0⟩,
        ⟨(.some 17), (.cmp .leq), [(.t 16), (.c (.int .i64 64))], (.some (14, true)), 0, 0⟩,
        ⟨(.some 18), .pick, [(.t 14), (.t 17), (.c (.bool false))], none, 0, 0⟩])
      (.cond (.t 18)
        .skip
        (.exit 0)))
      (.seq
      (.block 1
        (.ops [0, 1, 5, 6] [
          ⟨(.some 21), .mv, [(.t 5)], none, 0, 0⟩,
          ⟨(.some 22), .mv, [(.t 0)], none, 0, 0⟩,
          ⟨(.some 23), .mv, [(.t 6)], none, 0, 0⟩,
          ⟨(.some 24), (.idxAddr 1), [(.t 22), (.t 23)], none, 0, 0⟩,
          ⟨(.some 25), (.load false 1), [(.t 24)], none, 0, 0⟩,
          ⟨(.some 26), (.mkSl 1 [(.int .u8 0)] [(0, 1)]), [(.t 25)], none, 0, 0⟩,
          ⟨(.some 27), (.append 1 1), [(.t 21), (.t 26)], none, 0, 0⟩,
          ⟨(.some 5), .mv, [(.t 27)], none, 0, 0⟩]))
      (.ops [0, 1, 5, 6] [
        ⟨(.some 19), .mv, [(.t 6)], none, 0, 0⟩,
        ⟨(.some 20), (.arith .add), [(.t 19), (.c (.int .i64 1))], none, 0, 0⟩,
        ⟨(.some 6), .mv, [(.t 20)], none, 0, 0⟩]))))))
  (.seq
  (.seq
  (.ops [0, 1, 5, 30] [
    ⟨(.some 28), .mv, [(.t 0)], none, 0, 0⟩,
    ⟨(.some 29), .len, [(.t 28)], none, 0, 0⟩,
    ⟨(.some 30), (.cmp .gtr), [(.t 29), (.c (.int .i64 64))], none, 0, 0⟩])
  (.cond (.t 30)
    (.seq
    (.ops [1, 5, 7] [
      ⟨(.some 31), .mv, [(.t 0)], none, 0, 0⟩,
      ⟨(.some 32), (.call 35), [(.t 31)], none, 0, 0⟩,
      ⟨(.some 7), (.alloc (List.replicate 32 (.int .u8 0))), [], none, 0, 0⟩,
      ⟨none, (.store 32), [(.t 7), (.t 32)], none, 0, 0⟩])
    (.seq
    (.ops [1, 5, 7, 8] [
      ⟨(.some 8), .mv, [(.c (.int .i64 0))], none, 0, 0⟩])
    (.block 2
      (.loop [1, 5, 7, 8]
        (.seq
        (.seq
        (.ops [1, 5, 7, 8, 34] [
          ⟨(.some 33), .mv, [(.t 8)], none, 0, 0⟩,
          ⟨(.some 34), (.cmp .lss), [(.t 33), (.c (.int .i64 32))], none, 0, 0⟩])
        (.cond (.t 34)
          .skip
          (.exit 2)))
        (.seq
        (.block 3
          (.ops [1, 5, 7, 8] [
            ⟨(.some 37), .mv, [(.t 5)], none, 0, 0⟩,
            ⟨(.some 38), .mv, [(.t 8)], none, 0, 0⟩,
            ⟨(.some 39), (.idxAddrArr 32 1), [(.t 7), (.t 38)], none, 0, 0⟩,
            ⟨(.some 40), (.load false 1), [(.t 39)], none, 0, 0⟩,
            ⟨(.some 41), (.mkSl 1 [(.int .u8 0)] [(0, 1)]), [(.t 40)], none, 0, 0⟩,
            ⟨(.some 42), (.append 1 1), [(.t 37), (.t 41)], none, 0, 0⟩,
            ⟨(.some 5), .mv, [(.t 42)], none, 0, 0⟩]))
        (.ops [1, 5, 7, 8] [
          ⟨(.some 35), .mv, [(.t 8)], none, 0, 0⟩,
          ⟨(.some 36), (.arith .add), [(.t 35), (.c (.int .i64 1))], none, 0, 0⟩,
          ⟨(.some 8), .mv, [(.t 36)], none, 0, 0⟩])))))))
    .skip))
  (.seq
  (.block 4
    (.loop [1, 5]
      (.seq
      (.seq
      (.ops [1, 5, 45] [
        ⟨(.some 43), .mv, [(.t 5)], none, 0, 0⟩,
        ⟨(.some 44), .len, [(.t 43)], none, 0, 0⟩,
        ⟨(.some 45), (.cmp .lss), [(.t 44), (.c (.int .i64 64))], none, 0, 0⟩])
      (.cond (.t 45)
        .skip
        (.exit 4)))
      (.block 5
        (.ops [1, 5] [
          ⟨(.some 46), .mv, [(.t 5)], none, 0, 0⟩,
          ⟨(.some 47), (.mkSl 1 [(.int .u8 0)] [(0, 1)]), [(.c (.int .u8 0))], none, 0, 0⟩,
          ⟨(.some 48), (.append 1 1), [(.t 46), (.t 47)], none, 0, 0⟩,
          ⟨(.some 5), .mv, [(.t 48)], none, 0, 0⟩])))))
  (.seq
  (.seq
  (.ops [1, 5, 9] [
    ⟨(.some 9), .mv, [(.c (.int .i64 0))], none, 0, 0⟩])
  (.block 6
    (.loop [1, 5, 9]
      (.seq
      (.seq
      (.ops [1, 5, 9, 52] [
        ⟨(.some 49), .mv, [(.t 9)], none, 0, 0⟩,
        ⟨(.some 50), .mv, [(.t 5)], none, 0, 0⟩,
        ⟨(.some 51), .len, [(.t 50)], none, 0, 0⟩,
        ⟨(.some 52), (.cmp .lss), [(.t 49), (.t 51)], none, 0, 0⟩])
      (.cond (.t 52)
        .skip
        (.exit 6)))
      (.seq
      (.block 7
        (.ops [1, 5, 9] [
          ⟨(.some 55), .mv, [(.t 5)], none, 0, 0⟩,
          ⟨(.some 56), .mv, [(.t 9)], none, 0, 0⟩,
          ⟨(.some 57), .mv, [(.t 5)], none, 0, 0⟩,
          ⟨(.some 58), .mv, [(.t 9)], none, 0, 0⟩,
          ⟨(.some 59), (.idxAddr 1), [(.t 57), (.t 58)], none, 0, 0⟩,
          ⟨(.some 60), (.load false 1), [(.t 59)], none, 0, 0⟩,
          ⟨(.some 61), .mv, [(.t 1)], none, 0, 0⟩,
          ⟨(.some 62), (.arith .xor), [(.t 60), (.t 61)], none, 0, 0⟩,
          ⟨(.some 63), (.idxAddr 1), [(.t 55), (.t 56)], none, 0, 0⟩,
          ⟨none, (.store 1), [(.t 63), (.t 62)], none, 0, 0⟩]))
      (.ops [1, 5, 9] [
        ⟨(.some 53), .mv, [(.t 9)], none, 0, 0⟩,
        ⟨(.some 54), (.arith .add), [(.t 53), (.c (.int .i64 1))], none, 0, 0⟩,
        ⟨(.some 9), .mv, [(.t 54)], none, 0, 0⟩]))))))
  (.seq
  (.ops [4] [
    ⟨(.some 64), .mv, [(.t 5)], none, 0, 0⟩,
    ⟨(.some 4), .mv, [(.t 64)], none, 0, 0⟩])
  .ret)))))))
def r56 : List ARes := [(.tmp 4)]
theorem ok56 : FnOk Tryd.prog 56 c56 r56 :=
  ⟨Tryd.f56, _, Tryd.func56, by kernel_rfl, rfl, by kernel_rfl, by kernel_rfl⟩
/-- rill/rillref03.S -/
def c57 : ACode :=
  (.seq
  (.ops [0] [
    ⟨(.some 2), .mv, [(.c (.int .u8 0))], none, 0, 0⟩])
  (.seq
  (.ops [3] [
    ⟨(.some 6), .mv, [(.t 0)], none, 0, 0⟩,
    ⟨(.some 7), (.call 65), [(.t 6)], none, 0, 0⟩,
    ⟨(.some 3), .mv, [(.t 7)], none, 0, 0⟩])
  (.seq
  (.ops [3, 4] [
    ⟨(.some 8), .mv, [(.t 3)], none, 0, 0⟩,
    ⟨(.some 9), (.arith .xor), [(.t 8), (.c (.int .u8 99))], none, 0, 0⟩,
    ⟨(.some 4), .mv, [(.t 9)], none, 0, 0⟩])
  (.seq
  (.seq
  (.ops [3, 4, 5] [
    ⟨(.some 5), .mv, [(.c (.int .u64 1))], none, 0, 0⟩])
  (.block 0
    (.loop [3, 4, 5]
      (.seq
      (.seq
      (.ops [3, 4, 5, 11] [
        ⟨(.some 10), .mv, [(.t 5)], none, 0, 0⟩,
        ⟨(.some 11), (.cmp .leq), [(.t 10), (.c (.int .u64 4))], none, 0, 0⟩])
      (.cond (.t 11)
        .skip
        (.exit 0)))
      (.seq
      (.block 1
        (.ops [3, 4, 5] [
          ⟨(.some 14), .mv, [(.t 4)], none, 0, 0⟩,
          ⟨(.some 15), .mv, [(.t 3)], none, 0, 0⟩,
          ⟨(.some 16), .mv, [(.t 5)], none, 0, 0⟩,
          ⟨(.some 17), (.shift .shl), [(.t 15), (.t 16)], none, 0, 0⟩,
          ⟨(.some 18), .mv, [(.t 3)], none, 0, 0⟩,
          ⟨(.some 19), .mv, [(.t 5)], none, 0, 0⟩,
          ⟨(.some 20), (.arith .sub), [(.c (.int .u64 8)), (.t 19)], none, 0, 0⟩,
          ⟨(.some 21), (.shift .shr), [(.t 18), (.t 20)], none, 0, 0⟩,
          ⟨(.some 22), (.arith .or), [(.t 17), (.t 21)], none, 0, 0⟩,
          ⟨(.some 23), (.arith .xor), [(.t 14), (.t 22)], none, 0, 0⟩,
          ⟨(.some 4), .mv, [(.t 23)], none, 0, 0⟩]))
      (.ops [3, 4, 5] [
        ⟨(.some 12), .mv, [(.t 5)], none, 0, 0⟩,
        ⟨(.some 13), (.arith .add), [(.t 12), (.c (.int .u64 1))], none, 0, 0⟩,
        ⟨(.some 5), .mv, [(.t 13)], none, 0, 0⟩]))))))
  (.seq
  (.ops [2] [
    ⟨(.some 24), .mv, [(.t 4)], none, 0, 0⟩,
    ⟨(.some 2), .mv, [(.t 24)], none, 0, 0⟩])
  .ret)))))
def r57 : List ARes := [(.tmp 2)]
theorem ok57 : FnOk Tryd.prog 57 c57 r57 :=
  ⟨Tryd.f57, _, Tryd.func57, by kernel_rfl, rfl, by kernel_rfl, by kernel_rfl⟩
/-- rill/rillref04.low -/
def c58 : ACode :=
  (.seq
  (.ops [0, 1] [
    ⟨(.some 4), .mv, [(.c .nils)], none, 0, 0⟩])
  (.seq
  (.ops [0, 1, 5] [
    ⟨(.some 5), .mv, [(.c .nils)], none, 0, 0⟩])
  (.seq
  (.seq
  (.ops [0, 5, 6] [
    ⟨(.some 7), .mv, [(.t 1)], none, 0, 0⟩,
    ⟨(.some 8), (.arith .sub), [(.t 7), (.c (.int .i64 1))], none, 0, 0⟩,
    ⟨(.some 6), .mv, [(.t 8)], none, 0, 0⟩])
  (.block 0
    (.loop [0, 5, 6]
      (.seq
      (.seq
      (.ops [0, 5, 6, 10] [
        ⟨(.some 9), .mv, [(.t 6)], none, 0, 0⟩,
        ⟨(.some 10), (.cmp .geq), [(.t 9), (.c (.int .i64 0))], none, 0, 0⟩])
      (.cond (.t 10)
        .skip
        (.exit 0)))
      (.seq
      (.block 1
        (.ops [0, 5, 6] [
          ⟨(.some 13), .mv, [(.t 5)], none, 0, 0⟩,
          ⟨(.some 14), .mv, [(.t 0)], none, 0, 0⟩,
          ⟨(.some 15), (.conv .u64), [(.t 14)], none, 0, 0⟩,
          ⟨(.some 16), .mv, [(.t 6)], none, 0, 0⟩,
          ⟨(.some 17), (.arith .mul), [(.c (.int .i64 8)), (.t 16)], none, 0, 0⟩,
          ⟨(.some 18), (.conv .u64), [(.t 17)], none, 0, 0⟩,
          ⟨(.some 19), (.shift .shr), [(.t 15), (.t 18)], none, 0, 0⟩,
          ⟨(.some 20), (.conv .u8), [(.t 19)], none, 0, 0⟩,
          ⟨(.some 21), (.mkSl 1 [(.int .u8 0)] [(0, 1)]), [(.t 20)], none, 0, 0⟩,
          ⟨(.some 22), (.append 1 1), [(.t 13), (.t 21)], none, 0, 0⟩,
          ⟨(.some 5), .mv, [(.t 22)], none, 0, 0⟩]))
      (.ops [0, 5, 6] [
        ⟨(.some 11), .mv, [(.t 6)], none, 0, 0⟩,
        ⟨(.some 12), (.arith .sub), [(.t 11), (.c (.int .i64 1))], none, 0, 0⟩,
        ⟨(.some 6), .mv, [(.t 12)], none, 0, 0⟩]))))))
  (.seq
  (.ops [4] [
    ⟨(.some 23), .mv, [(.t 5)], none, 0, 0⟩,
    ⟨(.some 4), .mv, [(.t 23)], none, 0, 0⟩])
  .ret))))
def r58 : List ARes := [(.tmp 4)]
theorem ok58 : FnOk Tryd.prog 58 c58 r58 :=
  ⟨Tryd.f58, _, Tryd.func58, by kernel_rfl, rfl, by kernel_rfl, by kernel_rfl⟩
/-- (*rill/rillref03.Cipher).Block -/
def c59 : ACode :=
  (.seq
  (.ops [0, 3, 4] [
    ⟨(.some 3), .box, [(.t 1)], none, 0, 0⟩,
    ⟨(.some 4), (.alloc (List.replicate 16 (.int .u8 0))), [], none, 0, 0⟩])
  (.seq
  (.ops [0, 4, 5] [
    ⟨(.some 11), (.mkSl 0 [] []), [], none, 0, 0⟩,
    ⟨(.some 12), (.sliceArr 16 1 false false false), [(.t 3)], none, 0, 0⟩,
    ⟨(.some 13), (.append 1 1), [(.t 11), (.t 12)], none, 0, 0⟩,
    ⟨(.some 5), .mv, [(.t 13)], none, 0, 0⟩])
  (.seq
  (.ops [0, 4, 5] [
    ⟨(.some 14), .mv, [(.t 0)], none, 0, 0⟩,
    ⟨(.some 15), .mv, [(.t 5)], none, 0, 0⟩,
    ⟨(.some 16), (.call 66), [(.t 14), (.t 15), (.c (.int .i64 0))], none, 0, 0⟩,
    ⟨(.some 5), .mv, [(.t 16)], none, 0, 0⟩])
  (.seq
  (.ops [0, 4, 5, 6] [
    ⟨(.some 17), .mv, [(.t 0)], none, 0, 0⟩,
    ⟨(.some 18), .nilCheck, [(.t 17)], none, 0, 0⟩,
    ⟨(.some 19), (.fieldAddr 0), [(.t 18)], none, 0, 0⟩,
    ⟨(.some 20), (.load false 1), [(.t 19)], none, 0, 0⟩,
    ⟨(.some 21), .len, [(.t 20)], none, 0, 0⟩,
    ⟨(.some 22), (.arith .quo), [(.t 21), (.c (.int .i64 4))], none, 0, 0⟩,
    ⟨(.some 23), (.arith .sub), [(.t 22), (.c (.int .i64 1))], none, 0, 0⟩,
    ⟨(.some 6), .mv, [(.t 23)], none, 0, 0⟩])
  (.seq
  (.seq
  (.ops [0, 4, 5, 6, 7] [
    ⟨(.some 7), .mv, [(.c (.int .i64 1))], none, 0, 0⟩])
  (.block 0
    (.loop [0, 4, 5, 6, 7]
      (.seq
      (.seq
      (.ops [0, 4, 5, 6, 7, 26] [
        ⟨(.some 24), .mv, [(.t 7)], none, 0, 0⟩,
        ⟨(.some 25), .mv, [(.t 6)], none, 0, 0⟩,
        ⟨(.some 26), (.cmp .leq), [(.t 24), (.t 25)], none, 0, 0⟩])
      (.cond (.t 26)
        .skip
        (.exit 0)))
      (.seq
      (.block 1
        (.seq
        (.ops [0, 4, 5, 6, 7, 8] [
          ⟨(.some 8), .mv, [(.c .nils)], none, 0, 0⟩])
        (.seq
        (.seq
        (.ops [0, 4, 5, 6, 7, 8, 9] [
          ⟨(.some 9), .mv, [(.c (.int .i64 0))], none, 0, 0⟩])
        (.block 2
          (.loop [0, 4, 5, 6, 7, 8, 9]
            (.seq
            (.seq
            (.ops [0, 4, 5, 6, 7, 8, 9, 30] [
              ⟨(.some 29), .mv, [(.t 9)], none, 0, 0⟩,
              ⟨(.some 30), (.cmp .lss), [(.t 29), (.c (.int .i64 16))], none, 0, 0⟩])
            (.cond (.t 30)
              .skip
              (.exit 2)))
            (.seq
            (.block 3
              (.drawn [0, 4, 5, 6, 7, 8, 9] [
                ⟨(.some 33), .mv, [(.t 8)], none, 0, 0⟩,
                ⟨(.some 34), .mv, [(.t 0)], none, 0, 0⟩,
                ⟨(.some 35), .nilCheck, [(.t 34)], none, 0, 0⟩,
                ⟨(.some 36), (.fieldAddr 1), [(.t 35)], none, 0, 0⟩,
                ⟨(.some 37), (.load false 1), [(.t 36)], none, 0, 0⟩,
                ⟨(.some 38), .mv, [(.t 5)], none, 0, 0⟩,
                ⟨(.some 39), .mv, [(.t 9)], none, 0, 0⟩,
                ⟨(.some 40), (.arith .quo), [(.t 39), (.c (.int .i64 4))], none, 0, 0⟩,
                ⟨(.some 41), .mv, [(.t 9)], none, 0, 0⟩,
                ⟨(.some 42), (.arith .rem), [(.t 41), (.c (.int .i64 4))], none, 0, 0⟩,
                ⟨(.some 43), (.arith .add), [(.t 40), (.t 42)], none, 0, 0⟩,
                ⟨(.some 44), (.arith .rem), [(.t 43), (.c (.int .i64 4))], none, 0, 0⟩,
                ⟨(.some 45), (.arith .mul), [(.c (.int .i64 4)), (.t 44)], none, 0, 0⟩,
                ⟨(.some 46), .mv, [(.t 9)], none, 0, 0⟩,
                ⟨(.some 47), (.arith .rem), [(.t 46), (.c (.int .i64 4))], none, 0, 0⟩,
                ⟨(.some 48), (.arith .add), [(.t 45), (.t 47)], none, 0, 0⟩,
                ⟨(.some 49), (.idxAddr 1), [(.t 38), (.t 48)], none, 0, 0⟩,
                ⟨(.some 50), (.load false 1), [(.t 49)], none, 0, 0⟩,
                ⟨(.some 51), (.idxAddr 1), [(.t 37), (.t 50)], none, 0, 0⟩,
                ⟨(.some 52), (.load false 1), [(.t 51)], none, 0, 0⟩,
                ⟨(.some 53), (.mkSl 1 [(.int .u8 0)] [(0, 1)]), [(.t 52)], none, 0, 0⟩,
                ⟨(.some 54), (.append 1 1), [(.t 33), (.t 53)], none, 0, 1⟩,
                ⟨(.some 8), .mv, [(.t 54)], none, 1, 1⟩]))
            (.ops [0, 4, 5, 6, 7, 8, 9] [
              ⟨(.some 31), .mv, [(.t 9)], none, 0, 0⟩,
              ⟨(.some 32), (.arith .add), [(.t 31), (.c (.int .i64 1))], none, 0, 0⟩,
              ⟨(.some 9), .mv, [(.t 32)], none, 0, 0⟩]))))))
        (.seq
        (.seq
        (.ops [0, 4, 6, 7, 8, 57] [
          ⟨(.some 55), .mv, [(.t 7)], none, 0, 0⟩,
          ⟨(.some 56), .mv, [(.t 6)], none, 0, 0⟩,
          ⟨(.some 57), (.cmp .lss), [(.t 55), (.t 56)], none, 0, 0⟩])
        (.cond (.t 57)
          (.ops [0, 4, 6, 7, 8] [
            ⟨(.some 58), .mv, [(.t 8)], none, 0, 0⟩,
            ⟨(.some 59), (.call 67), [(.t 58)], none, 0, 0⟩,
            ⟨(.some 8), .mv, [(.t 59)], none, 0, 0⟩])
          .skip))
        (.ops [0, 4, 5, 6, 7] [
          ⟨(.some 60), .mv, [(.t 0)], none, 0, 0⟩,
          ⟨(.some 61), .mv, [(.t 8)], none, 0, 0⟩,
          ⟨(.some 62), .mv, [(.t 7)], none, 0, 0⟩,
          ⟨(.some 63), (.call 66), [(.t 60), (.t 61), (.t 62)], none, 0, 0⟩,
          ⟨(.some 5), .mv, [(.t 63)], none, 0, 0⟩])))))
      (.ops [0, 4, 5, 6, 7] [
        ⟨(.some 27), .mv, [(.t 7)], none, 0, 0⟩,
        ⟨(.some 28), (.arith .add), [(.t 27), (.c (.int .i64 1))], none, 0, 0⟩,
        ⟨(.some 7), .mv, [(.t 28)], none, 0, 0⟩]))))))
  (.seq
  (.ops [4, 5, 10] [
    ⟨(.some 10), (.alloc (List.replicate 16 (.int .u8 0))), [], none, 0, 0⟩])
  (.seq
  (.ops [4, 10] [
    ⟨(.some 64), (.sliceArr 16 1 false false false), [(.t 10)], none, 0, 0⟩,
    ⟨(.some 65), .mv, [(.t 5)], none, 0, 0⟩,
    ⟨(.some 66), (.copy 1), [(.t 64), (.t 65)], none, 0, 0⟩])
  (.seq
  (.ops [4] [
    ⟨(.some 67), (.load true 16), [(.t 10)], none, 0, 0⟩,
    ⟨none, (.store 16), [(.t 4), (.t 67)], none, 0, 0⟩])
  .ret))))))))
def r59 : List ARes := [(.cell 4 true 16)]
theorem ok59 : FnOk Tryd.prog 59 c59 r59 :=
  ⟨Tryd.f59, _, Tryd.func59, by kernel_rfl, rfl, by kernel_rfl, by kernel_rfl⟩
/-- rill/sha.take -/
def c60 : ACode :=
  (.seq
  (.ops [1, 2, 4] [
    ⟨(.some 2), .box, [(.t 0)], none, 0, 0⟩,
    ⟨(.some 4), (.alloc [(.int .u32 0), (.int .u32 0), (.int .u32 0), (.int .u32 0), (.int .u32 0), (.int .u32 0), (.int .u32 0), (.int .u32 0)]), [], none, 0, 0⟩])
  (.seq
  (.ops [1, 2, 4, 5] [
    ⟨(.some 5), (.alloc (List.replicate 64 (.int .u32 0))), [], none, 0, 0⟩])
  (.seq
  (.seq
  (.ops [1, 2, 4, 5, 21] [
    ⟨(.some 21), .mv, [(.c (.int .i64 0))], none, 0, 0⟩])
  (.block 0
    (.loop [1, 2, 4, 5, 21]
      (.seq
      (.ops [1, 2, 4, 5, 21, 22] [
        ⟨(.some 22), (.cmp .lss), [(.t 21), (.c (.int .i64 16))], none, 0, 0⟩])
      (.seq
      (.cond (.t 22)
        .skip
        (.exit 0))
      (.seq
      (.block 1
        (.seq
        (.ops [1, 2, 4, 5, 6, 21] [
          ⟨(.some 23), .mv, [(.t 21)], none, 0, 0⟩,
          ⟨(.some 6), .mv, [(.t 23)], none, 0, 0⟩])
        (.drawn [1, 2, 4, 5, 21] [
          ⟨(.some 24), .mv, [(.t 6)], none, 0, 0⟩,
          ⟨(.some 25), .mv, [(.t 1)], none, 0, 0⟩,
          ⟨(.some 26), .mv, [(.t 6)], none, 0, 0⟩,
          ⟨(.some 27), (.arith .mul), [(.c (.int .i64 4)), (.t 26)], none, 0, 0⟩,
          ⟨(.some 28), (.idxAddr 1), [(.t 25), (.t 27)], none, 0, 0⟩,
          ⟨(.some 29), (.load false 1), [(.t 28)], none, 0, 0⟩,
          ⟨(.some 30), (.conv .u32), [(.t 29)], none, 0, 0⟩,
          ⟨(.some 31), (.shift .shl), [(.t 30), (.c (.int .u64 24))], none, 0, 0⟩,
          ⟨(.some 32), .mv, [(.t 1)], none, 0, 0⟩,
          ⟨(.some 33), .mv, [(.t 6)], none, 0, 0⟩,
          ⟨(.some 34), (.arith .mul), [(.c (.int .i64 4)), (.t 33)], none, 0, 0⟩,
          ⟨(.some 35), (.arith .add), [(.t 34), (.c (.int .i64 1))], none, 0, 0⟩,
          ⟨(.some 36), (.idxAddr 1), [(.t 32), (.t 35)], none, 0, 0⟩,
          ⟨(.some 37), (.load false 1), [(.t 36)], none, 0, 0⟩,
          ⟨(.some 38), (.conv .u32), [(.t 37)], none, 0, 0⟩,
          ⟨(.some 39), (.shift .shl), [(.t 38), (.c (.int .u64 16))], none, 0, 0⟩,
          ⟨(.some 40), (.arith .or), [(.t 31), (.t 39)], none, 0, 0⟩,
          ⟨(.some 41), .mv, [(.t 1)], none, 0, 0⟩,
          ⟨(.some 42), .mv, [(.t 6)], none, 0, 0⟩,
          ⟨(.some 43), (.arith .mul), [(.c (.int .i64 4)), (.t 42)], none, 0, 0⟩,
          ⟨(.some 44), (.arith .add), [(.t 43), (.c (.int .i64 2))], none, 0, 0⟩,
          ⟨(.some 45), (.idxAddr 1), [(.t 41), (.t 44)], none, 0, 0⟩,
          ⟨(.some 46), (.load false 1), [(.t 45)], none, 0, 0⟩,
          ⟨(.some 47), (.conv .u32), [(.t 46)], none, 0, 0⟩,
          ⟨(.some 48), (.shift .shl), [(.t 47), (.c (.int .u64 8))], none, 0, 0⟩,
          ⟨(.some 49), (.arith .or), [(.t 40), (.t 48)], none, 0, 0⟩,
          ⟨(.some 50), .mv, [(.t 1)], none, 0, 0⟩,
          ⟨(.some 51), .mv, [(.t 6)], none, 0, 0⟩,
          ⟨(.some 52), (.arith .mul), [(.c (.int .i64 4)), (.t 51)], none, 0, 0⟩,
          ⟨(.some 53), (.arith .add), [(.t 52), (.c (.int .i64 3))], none, 0, 0⟩,
          ⟨(.some 54), (.idxAddr 1), [(.t 50), (.t 53)], none, 0, 0⟩,
          ⟨(.some 55), (.load false 1), [(.t 54)], none, 0, 0⟩,
          ⟨(.some 56), (.conv .u32), [(.t 55)], none, 0, 0⟩,
          ⟨(.some 57), (.arith .or), [(.t 49), (.t 56)], none, 0, 0⟩,
          ⟨(.some 58), (.idxAddrArr 64 1), [(.t 5), (.t 24)], none, 0, 0⟩,
          ⟨none, (.store 1), [(.t 58), (.t 57)], none, 0, 1⟩])))
      (.ops [1, 2, 4, 5, 21] [
        ⟨(.some 59), (.arith .add), [(.t 21), (.c (.int .i64 1))], none, 0, 0⟩,
        ⟨(.some 21), .mv, [(.t 59)], none, 0, 0⟩])))))))
  (.seq
  (.seq
  (.ops [2, 4, 5, 7] [
    ⟨(.some 7), .mv, [(.c (.int .i64 16))], none, 0, 0⟩])
  (.block 2
    (.loop [2, 4, 5, 7]
      (.seq
      (.seq
      (.ops [2, 4, 5, 7, 61] [
        ⟨(.some 60), .mv, [(.t 7)], none, 0, 0⟩,
        ⟨(.some 61), (.cmp .lss), [(.t 60), (.c (.int .i64 64))], none, 0, 0⟩])
      (.cond (.t 61)
        .skip
        (.exit 2)))
      (.seq
      (.block 3
        (.seq
        (.drawn [2, 4, 5, 7, 8, 9] [
          ⟨(.some 64), .mv, [(.t 7)], none, 0, 0⟩,
          ⟨(.some 65), (.arith .sub), [(.t 64), (.c (.int .i64 2))], none, 0, 0⟩,
          ⟨(.some 66), (.idxAddrArr 64 1), [(.t 5), (.t 65)], none, 0, 0⟩,
          ⟨(.some 67), (.load false 1), [(.t 66)], none, 0, 0⟩,
          ⟨(.some 68), .mv, [(.t 7)], none, 0, 0⟩,
          ⟨(.some 69), (.arith .sub), [(.t 68), (.c (.int .i64 15))], none, 0, 0⟩,
          ⟨(.some 70), (.idxAddrArr 64 1), [(.t 5), (.t 69)], none, 0, 0⟩,
          ⟨(.some 71), (.load false 1), [(.t 70)], none, 0, 0⟩,
          ⟨(.some 8), .mv, [(.t 67)], none, 0, 0⟩,
          ⟨(.some 9), .mv, [(.t 71)], none, 0, 0⟩])
        (.drawn [2, 4, 5, 7] [
          ⟨(.some 72), .mv, [(.t 7)], none, 0, 4⟩,
          ⟨(.some 73), .mv, [(.t 8)], none, 0, 0⟩,
          ⟨(.some 74), (.call 68), [(.t 73), (.c (.int .u64 17))], none, 0, 1⟩,
          ⟨(.some 75), .mv, [(.t 8)], none, 0, 1⟩,
          ⟨(.some 76), (.call 68), [(.t 75), (.c (.int .u64 19))], none, 1, 2⟩,
          ⟨(.some 77), (.arith .xor), [(.t 74), (.t 76)], none, 2, 4⟩,
          ⟨(.some 78), .mv, [(.t 8)], none, 0, 4⟩,
          ⟨(.some 79), (.shift .shr), [(.t 78), (.c (.int .u64 10))], none, 0, 4⟩,
          ⟨(.some 80), (.arith .xor), [(.t 77), (.t 79)], none, 2, 4⟩,
          ⟨(.some 81), .mv, [(.t 7)], none, 0, 4⟩,
          ⟨(.some 82), (.arith .sub), [(.t 81), (.c (.int .i64 7))], none, 0, 4⟩,
          ⟨(.some 83), (.idxAddrArr 64 1), [(.t 5), (.t 82)], none, 0, 4⟩,
          ⟨(.some 84), (.load false 1), [(.t 83)], none, 0, 4⟩,
          ⟨(.some 85), (.arith .add), [(.t 80), (.t 84)], none, 2, 4⟩,
          ⟨(.some 86), .mv, [(.t 9)], none, 0, 2⟩,
          ⟨(.some 87), (.call 68), [(.t 86), (.c (.int .u64 7))], none, 2, 3⟩,
          ⟨(.some 88), .mv, [(.t 9)], none, 0, 3⟩,
          ⟨(.some 89), (.call 68), [(.t 88), (.c (.int .u64 18))], none, 3, 4⟩,
          ⟨(.some 90), (.arith .xor), [(.t 87), (.t 89)], none, 4, 4⟩,
          ⟨(.some 91), .mv, [(.t 9)], none, 0, 4⟩,
          ⟨(.some 92), (.shift .shr), [(.t 91), (.c (.int .u64 3))], none, 0, 4⟩,
          ⟨(.some 93), (.arith .xor), [(.t 90), (.t 92)], none, 4, 4⟩,
          ⟨(.some 94), (.arith .add), [(.t 85), (.t 93)], none, 4, 4⟩,
          ⟨(.some 95), .mv, [(.t 7)], none, 0, 4⟩,
          ⟨(.some 96), (.arith .sub), [(.t 95), (.c (.int .i64 16))], none, 0, 4⟩,
          ⟨(.some 97), (.idxAddrArr 64 1), [(.t 5), (.t 96)], none, 0, 4⟩,
          ⟨(.some 98), (.load false 1), [(.t 97)], none, 0, 4⟩,
          ⟨(.some 99), (.arith .add), [(.t 94), (.t 98)], none, 4, 4⟩,
          ⟨(.some 100), (.idxAddrArr 64 1), [(.t 5), (.t 72)], none, 4, 4⟩,
          ⟨none, (.store 1), [(.t 100), (.t 99)], none, 4, 5⟩])))
      (.ops [2, 4, 5, 7] [
        ⟨(.some 62), .mv, [(.t 7)], none, 0, 0⟩,
        ⟨(.some 63), (.arith .add), [(.t 62), (.c (.int .i64 1))], none, 0, 0⟩,
        ⟨(.some 7), .mv, [(.t 63)], none, 0, 0⟩]))))))
  (.seq
  (.drawn [2, 4, 5, 10, 11, 12, 13, 14, 15, 16, 17] [
    ⟨(.some 101), (.idxAddrArr 8 1), [(.t 2), (.c (.int .i64 0))], none, 0, 0⟩,
    ⟨(.some 102), (.load false 1), [(.t 101)], none, 0, 0⟩,
    ⟨(.some 103), (.idxAddrArr 8 1), [(.t 2), (.c (.int .i64 1))], none, 0, 0⟩,
    ⟨(.some 104), (.load false 1), [(.t 103)], none, 0, 0⟩,
    ⟨(.some 105), (.idxAddrArr 8 1), [(.t 2), (.c (.int .i64 2))], none, 0, 0⟩,
    ⟨(.some 106), (.load false 1), [(.t 105)], none, 0, 0⟩,
    ⟨(.some 107), (.idxAddrArr 8 1), [(.t 2), (.c (.int .i64 3))], none, 0, 0⟩,
    ⟨(.some 108), (.load false 1), [(.t 107)], none, 0, 0⟩,
    ⟨(.some 109), (.idxAddrArr 8 1), [(.t 2), (.c (.int .i64 4))], none, 0, 0⟩,
    ⟨(.some 110), (.load false 1), [(.t 109)], none, 0, 0⟩,
    ⟨(.some 111), (.idxAddrArr 8 1), [(.t 2), (.c (.int .i64 5))], none, 0, 0⟩,
    ⟨(.some 112), (.load false 1), [(.t 111)], none, 0, 0⟩,
    ⟨(.some 113), (.idxAddrArr 8 1), [(.t 2), (.c (.int .i64 6))], none, 0, 0⟩,
    ⟨(.some 114), (.load false 1), [(.t 113)], none, 0, 0⟩,
    ⟨(.some 115), (.idxAddrArr 8 1), [(.t 2), (.c (.int .i64 7))], none, 0, 0⟩,
    ⟨(.some 116), (.load false 1), [(.t 115)], none, 0, 0⟩,
    ⟨(.some 10), .mv, [(.t 102)], none, 0, 0⟩,
    ⟨(.some 11), .mv, [(.t 104)], none, 0, 0⟩,
    ⟨(.some 12), .mv, [(.t 106)], none, 0, 0⟩,
    ⟨(.some 13), .mv, [(.t 108)], none, 0, 0⟩,
    ⟨(.some 14), .mv, [(.t 110)], none, 0, 0⟩,
    ⟨(.some 15), .mv, [(.t 112)], none, 0, 0⟩,
    ⟨(.some 16), .mv, [(.t 114)], none, 0, 0⟩,
    ⟨(.some 17), .mv, [(.t 116)], none, 0, 0⟩])
  (.seq
  (.seq
  (.ops [2, 4, 5, 10, 11, 12, 13, 14, 15, 16, 17, 117] [
    ⟨(.some 117), .mv, [(.c (.int .i64 0))], none, 0, 0⟩])
  (.block 4
    (.loop [2, 4, 5, 10, 11, 12, 13, 14, 15, 16, 17, 117]
      (.seq
      (.ops [2, 4, 5, 10, 11, 12, 13, 14, 15, 16, 17, 117, 118] [
        ⟨(.some 118), (.cmp .lss), [(.t 117), (.c (.int .i64 64))], none, 0, 0⟩])
      (.seq
      (.cond (.t 118)
        .skip
        (.exit 4))
      (.seq
      (.block 5
        (.seq
        (.ops [2, 4, 5, 10, 11, 12, 13, 14, 15, 16, 17, 18, 117] [
          ⟨(.some 119), .mv, [(.t 117)], none, 0, 0⟩,
          ⟨(.some 18), .mv, [(.t 119)], none, 0, 0⟩])
        (.seq
        (.drawn [2, 4, 5, 10, 11, 12, 13, 14, 15, 16, 19, 117] [
          ⟨(.some 120), .mv, [(.t 17)], none, 0, 3⟩,
          ⟨(.some 121), .mv, [(.t 14)], none, 0, 0⟩,
          ⟨(.some 122), (.call 68), [(.t 121), (.c (.int .u64 6))], none, 0, 1⟩,
          ⟨(.some 123), .mv, [(.t 14)], none, 0, 1⟩,
          ⟨(.some 124), (.call 68), [(.t 123), (.c (.int .u64 11))], none, 1, 2⟩,
          ⟨(.some 125), (.arith .xor), [(.t 122), (.t 124)], none, 2, 3⟩,
          ⟨(.some 126), .mv, [(.t 14)], none, 0, 2⟩,
          ⟨(.some 127), (.call 68), [(.t 126), (.c (.int .u64 25))], none, 2, 3⟩,
          ⟨(.some 128), (.arith .xor), [(.t 125), (.t 127)], none, 3, 3⟩,
          ⟨(.some 129), (.arith .add), [(.t 120), (.t 128)], none, 3, 3⟩,
          ⟨(.some 130), .mv, [(.t 14)], none, 0, 3⟩,
          ⟨(.some 131), .mv, [(.t 15)], none, 0, 3⟩,
          ⟨(.some 132), (.arith .and), [(.t 130), (.t 131)], none, 0, 3⟩,
          ⟨(.some 133), .mv, [(.t 14)], none, 0, 3⟩,
          ⟨(.some 134), .bnot, [(.t 133)], none, 0, 3⟩,
          ⟨(.some 135), .mv, [(.t 16)], none, 0, 3⟩,
          ⟨(.some 136), (.arith .and), [(.t 134), (.t 135)], none, 0, 3⟩,
          ⟨(.some 137), (.arith .xor), [(.t 132), (.t 136)], none, 0, 3⟩,
          ⟨(.some 138), (.arith .add), [(.t 129), (.t 137)], none, 3, 3⟩,
          ⟨(.some 139), .mv, [(.t 18)], none, 0, 3⟩,
          ⟨(.some 140), (.idxAddrArr 64 1), [(.c (.ptr 0 0)), (.t 139)], none, 0, 3⟩,
          ⟨(.some 141), (.load false 1), [(.t 140)], none, 0, 3⟩,
          ⟨(.some 142), (.arith .add), [(.t 138), (.t 141)], none, 3, 3⟩,
          ⟨(.some 143), .mv, [(.t 18)], none, 0, 3⟩,
          ⟨(.some 144), (.idxAddrArr 64 1), [(.t 5), (.t 143)], none, 0, 3⟩,
          ⟨(.some 145), (.load false 1), [(.t 144)], none, 0, 3⟩,
          ⟨(.some 146), (.arith .add), [(.t 142), (.t 145)], none, 3, 3⟩,
          ⟨(.some 19), .mv, [(.t 146)], none, 3, 3⟩])
        (.seq
        (.ops [2, 4, 5, 10, 11, 12, 13, 14, 15, 16, 19, 20, 117] [
          ⟨(.some 147), .mv, [(.t 10)], none, 0, 0⟩,
          ⟨(.some 148), (.call 68), [(.t 147), (.c (.int .u64 2))], none, 0, 0⟩,
          ⟨(.some 149), .mv, [(.t 10)], none, 0, 0⟩,
          ⟨(.some 150), (.call 68), [(.t 149), (.c (.int .u64 13))], none, 0, 0⟩,
          ⟨(.some 151), (.arith .xor), [(.t 148), (.t 150)], none, 0, 0⟩,
          ⟨(.some 152), .mv, [(.t 10)], none, 0, 0⟩,
          ⟨(.some 153), (.call 68), [(.t 152), (.c (.int .u64 22))], none, 0, 0⟩,
          ⟨(.some 154), (.arith .xor), [(.t 151), (.t 153)], none, 0, 0⟩,
          ⟨(.some 155), .mv, [(.t 10)], none, 0, 0⟩,
          ⟨(.some 156), .mv, [(.t 11)], none, 0, 0⟩,
          ⟨(.some 157), (.arith .and), [(.t 155), (.t 156)], none, 0, 0⟩,
          ⟨(.some 158), .mv, [(.t 10)], none, 0, 0⟩,
          ⟨(.some 159), .mv, [(.t 12)], none, 0, 0⟩,
          ⟨(.some 160), (.arith .and), [(.t 158), (.t 159)], none, 0, 0⟩,
          ⟨(.some 161), (.arith .xor), [(.t 157), (.t 160)], none, 0, 0⟩,
          ⟨(.some 162), .mv, [(.t 11)], none, 0, 0⟩,
          ⟨(.some 163), .mv, [(.t 12)], none, 0, 0⟩,
          ⟨(.some 164), (.arith .and), [(.t 162), (.t 163)], none, 0, 0⟩,
          ⟨(.some 165), (.arith .xor), [(.t 161), (.t 164)], none, 0, 0⟩,
          ⟨(.some 166), (.arith .add), [(.t 154), (.t 165)], none, 0, 0⟩,
          ⟨(.some 20), .mv, [(.t 166)], none, 0, 0⟩])
        (.ops [2, 4, 5, 10, 11, 12, 13, 14, 15, 16, 17, 117] [
          ⟨(.some 167), .mv, [(.t 16)], none, 0, 0⟩,
          ⟨(.some 168), .mv, [(.t 15)], none, 0, 0⟩,
          ⟨(.some 169), .mv, [(.t 14)], none, 0, 0⟩,
          ⟨(.some 170), .mv, [(.t 13)], none, 0, 0⟩,
          ⟨(.some 171), .mv, [(.t 19)], none, 0, 0⟩,
          ⟨(.some 172), (.arith .add), [(.t 170), (.t 171)], none, 0, 0⟩,
          ⟨(.some 173), .mv, [(.t 12)], none, 0, 0⟩,
          ⟨(.some 174), .mv, [(.t 11)], none, 0, 0⟩,
          ⟨(.some 175), .mv, [(.t 10)], none, 0, 0⟩,
          ⟨(.some 176), .mv, [(.t 19)], none, 0, 0⟩,
          ⟨(.some 177), .mv, [(.t 20)], none, 0, 0⟩,
          ⟨(.some 178), (.arith .add), [(.t 176), (.t 177)], none, 0, 0⟩,
          ⟨(.some 17), .mv, [(.t 167)], none, 0, 0⟩,
          ⟨(.some 16), .mv, [(.t 168)], none, 0, 0⟩,
          ⟨(.some 15), .mv, [(.t 169)], none, 0, 0⟩,
          ⟨(.some 14), .mv, [(.t 172)], none, 0, 0⟩,
          ⟨(.some 13), .mv, [(.t 173)], none, 0, 0⟩,
          ⟨(.some 12), .mv, [(.t 174)], none, 0, 0⟩,
          ⟨(.some 11), .mv, [(.t 175)], none, 0, 0⟩,
          ⟨(.some 10), .mv, [(.t 178)], none, 0, 0⟩])))))
      (.ops [2, 4, 5, 10, 11, 12, 13, 14, 15, 16, 17, 117] [
        ⟨(.some 179), (.arith .add), [(.t 117), (.c (.int .i64 1))], none, 0, 0⟩,
        ⟨(.some 117), .mv, [(.t 179)], none, 0, 0⟩])))))))
  (.seq
  (.ops [4] [
    ⟨(.some 180), (.idxAddrArr 8 1), [(.t 2), (.c (.int .i64 0))], none, 0, 0⟩,
    ⟨(.some 181), (.load false 1), [(.t 180)], none, 0, 0⟩,
    ⟨(.some 182), .mv, [(.t 10)], none, 0, 0⟩,
    ⟨(.some 183), (.arith .add), [(.t 181), (.t 182)], none, 0, 0⟩,
    ⟨(.some 184), (.idxAddrArr 8 1), [(.t 2), (.c (.int .i64 1))], none, 0, 0⟩,
    ⟨(.some 185), (.load false 1), [(.t 184)], none, 0, 0⟩,
    ⟨(.some 186), .mv, [(.t 11)], none, 0, 0⟩,
    ⟨(.some 187), (.arith .add), [(.t 185), (.t 186)], none, 0, 0⟩,
    ⟨(.some 188), (.idxAddrArr 8 1), [(.t 2), (.c (.int .i64 2))], none, 0, 0⟩,
    ⟨(.some 189), (.load false 1), [(.t 188)], none, 0, 0⟩,
    ⟨(.some 190), .mv, [(.t 12)], none, 0, 0⟩,
    ⟨(.some 191), (.arith .add), [(.t 189), (.t 190)], none, 0, 0⟩,
    ⟨(.some 192), (.idxAddrArr 8 1), [(.t 2), (.c (.int .i64 3))], none, 0, 0⟩,
    ⟨(.some 193), (.load false 1), [(.t 192)], none, 0, 0⟩,
    ⟨(.some 194), .mv, [(.t 13)], none, 0, 0⟩,
    ⟨(.some 195), (.arith .add), [(.t 193), (.t 194)], none, 0, 0⟩,
    ⟨(.some 196), (.idxAddrArr 8 1), [(.t 2), (.c (.int .i64 4))], none, 0, 0⟩,
    ⟨(.some 197), (.load false 1), [(.t 196)], none, 0, 0⟩,
    ⟨(.some 198), .mv, [(.t 14)], none, 0, 0⟩,
    ⟨(.some 199), (.arith .add), [(.t 197), (.t 198)], none, 0, 0⟩,
    ⟨(.some 200), (.idxAddrArr 8 1), [(.t 2), (.c (.int .i64 5))], none, 0, 0⟩,
    ⟨(.some 201), (.load false 1), [(.t 200)], none, 0, 0⟩,
    ⟨(.some 202), .mv, [(.t 15)], none, 0, 0⟩,
    ⟨(.some 203), (.arith .add), [(.t 201), (.t 202)], none, 0, 0⟩,
    ⟨(.some 204), (.idxAddrArr 8 1), [(.t 2), (.c (.int .i64 6))], none, 0, 0⟩,
    ⟨(.some 205), (.load false 1), [(.t 204)], none, 0, 0⟩,
    ⟨(.some 206), .mv, [(.t 16)], none, 0, 0⟩,
    ⟨(.some 207), (.arith .add), [(.t 205), (.t 206)], none, 0, 0⟩,
    ⟨(.some 208), (.idxAddrArr 8 1), [(.t 2), (.c (.int .i64 7))], none, 0, 0⟩,
    ⟨(.some 209), (.load false 1), [(.t 208)], none, 0, 0⟩,
    ⟨(.some 210), .mv, [(.t 17)], none, 0, 0⟩,
    ⟨(.some 211), (.arith .add), [(.t 209), (.t 210)], none, 0, 0⟩,
    ⟨(.some 212), (.build [(.int .u32 0), (.int .u32 0), (.int .u32 0), (.int .u32 0), (.int .u32 0), (.int .u32 0), (.int .u32 0), (.int .u32 0)] [(0, 1), (1, 1), (2, 1), (3, 1), (4, 1), (5, 1), (6, 1), (7, 1)]), [(.t 183), (.t 187), (.t 191), (.t 195), (.t 199), (.t 203), (.t 207), (.t 211)], none, 0, 0⟩,
    ⟨none, (.store 8), [(.t 4), (.t 212)], none, 0, 0⟩])
  .ret)))))))
def r60 : List ARes := [(.cell 4 true 8)]
theorem ok60 : FnOk Tryd.prog 60 c60 r60 :=
  ⟨Tryd.f60, _, Tryd.func60, by kernel_rfl, rfl, by kernel_rfl, by kernel_rfl⟩
/-- rill/rillref01.words -/
def c61 : ACode :=
  (.seq
  (.ops [0] [
    ⟨(.some 2), .mv, [(.c .nils)], none, 0, 0⟩])
  (.seq
  (.ops [0, 3] [
    ⟨(.some 3), .mv, [(.c .nils)], none, 0, 0⟩])
  (.seq
  (.seq
  (.ops [0, 3, 4] [
    ⟨(.some 4), .mv, [(.c (.int .i64 0))], none, 0, 0⟩])
  (.block 0
    (.loop [0, 3, 4]
      (.seq
      (.seq
      (.ops [0, 3, 4, 11] [
        ⟨(.some 10), .mv, [(.t 4)], none, 0, 0⟩,
        ⟨(.some 11), (.cmp .lss), [(.t 10), (.c (.int .i64 16))], none, 0, 0⟩])
      (.cond (.t 11)
        .skip
        (.exit 0)))
      (.seq
      (.block 1
        (.drawn [0, 3, 4] [
          ⟨(.some 14), .mv, [(.t 3)], none, 0, 0⟩,
          ⟨(.some 15), .mv, [(.t 0)], none, 0, 0⟩,
          ⟨(.some 16), .mv, [(.t 4)], none, 0, 0⟩,
          ⟨(.some 17), (.arith .mul), [(.c (.int .i64 4)), (.t 16)], none, 0, 0⟩,
          ⟨(.some 18), (.idxAddr 1), [(.t 15), (.t 17)], none, 0, 0⟩,
          ⟨(.some 19), (.load false 1), [(.t 18)], none, 0, 0⟩,
          ⟨(.some 20), (.conv .u32), [(.t 19)], none, 0, 0⟩,
          ⟨(.some 21), (.shift .shl), [(.t 20), (.c (.int .u64 24))], none, 0, 0⟩,
          ⟨(.some 22), .mv, [(.t 0)], none, 0, 0⟩,
          ⟨(.some 23), .mv, [(.t 4)], none, 0, 0⟩,
          ⟨(.some 24), (.arith .mul), [(.c (.int .i64 4)), (.t 23)], none, 0, 0⟩,
          ⟨(.some 25), (.arith .add), [(.t 24), (.c (.int .i64 1))], none, 0, 0⟩,
          ⟨(.some 26), (.idxAddr 1), [(.t 22), (.t 25)], none, 0, 0⟩,
          ⟨(.some 27), (.load false 1), [(.t 26)], none, 0, 0⟩,
          ⟨(.some 28), (.conv .u32), [(.t 27)], none, 0, 0⟩,
          ⟨(.some 29), (.shift .shl), [(.t 28), (.c (.int .u64 16))], none, 0, 0⟩,
          ⟨(.some 30), (.arith .or), [(.t 21), (.t 29)], none, 0, 0⟩,
          ⟨(.some 31), .mv, [(.t 0)], none, 0, 0⟩,
          ⟨(.some 32), .mv, [(.t 4)], none, 0, 0⟩,
          ⟨(.some 33), (.arith .mul), [(.c (.int .i64 4)), (.t 32)], none, 0, 0⟩,
          ⟨(.some 34), (.arith .add), [(.t 33), (.c (.int .i64 2))], none, 0, 0⟩,
          ⟨(.some 35), (.idxAddr 1), [(.t 31), (.t 34)], none, 0, 0⟩,
          ⟨(.some 36), (.load false 1), [(.t 35)], none, 0, 0⟩,
          ⟨(.some 37), (.conv .u32), [(.t 36)], none, 0, 0⟩,
          ⟨(.some 38), (.shift .shl), [(.t 37), (.c (.int .u64 8))], none, 0, 0⟩,
          ⟨(.some 39), (.arith .or), [(.t 30), (.t 38)], none, 0, 0⟩,
          ⟨(.some 40), .mv, [(.t 0)], none, 0, 0⟩,
          ⟨(.some 41), .mv, [(.t 4)], none, 0, 0⟩,
          ⟨(.some 42), (.arith .mul), [(.c (.int .i64 4)), (.t 41)], none, 0, 0⟩,
          ⟨(.some 43), (.arith .add), [(.t 42), (.c (.int .i64 3))], none, 0, 0⟩,
          ⟨(.some 44), (.idxAddr 1), [(.t 40), (.t 43)], none, 0, 0⟩,
          ⟨(.some 45), (.load false 1), [(.t 44)], none, 0, 0⟩,
          ⟨(.some 46), (.conv .u32), [(.t 45)], none, 0, 0⟩,
          ⟨(.some 47), (.arith .or), [(.t 39), (.t 46)], none, 0, 0⟩,
          ⟨(.some 48), (.mkSl 1 [(.int .u32 0)] [(0, 1)]), [(.t 47)], none, 0, 0⟩,
          ⟨(.some 49), (.append 1 4), [(.t 14), (.t 48)], none, 0, 1⟩,
          ⟨(.some 3), .mv, [(.t 49)], none, 1, 1⟩]))
      (.ops [0, 3, 4] [
        ⟨(.some 12), .mv, [(.t 4)], none, 0, 0⟩,
        ⟨(.some 13), (.arith .add), [(.t 12), (.c (.int .i64 1))], none, 0, 0⟩,
        ⟨(.some 4), .mv, [(.t 13)], none, 0, 0⟩]))))))
  (.seq
  (.seq
  (.ops [3, 5] [
    ⟨(.some 5), .mv, [(.c (.int .i64 16))], none, 0, 0⟩])
  (.block 2
    (.loop [3, 5]
      (.seq
      (.seq
      (.ops [3, 5, 51] [
        ⟨(.some 50), .mv, [(.t 5)], none, 0, 0⟩,
        ⟨(.some 51), (.cmp .lss), [(.t 50), (.c (.int .i64 64))], none, 0, 0⟩])
      (.cond (.t 51)
        .skip
        (.exit 2)))
      (.seq
      (.block 3
        (.seq
        (.ops [3, 5, 6] [
          ⟨(.some 54), .mv, [(.t 3)], none, 0, 0⟩,
          ⟨(.some 55), .mv, [(.t 5)], none, 0, 0⟩,
          ⟨(.some 56), (.arith .sub), [(.t 55), (.c (.int .i64 2))], none, 0, 0⟩,
          ⟨(.some 57), (.idxAddr 1), [(.t 54), (.t 56)], none, 0, 0⟩,
          ⟨(.some 58), (.load false 1), [(.t 57)], none, 0, 0⟩,
          ⟨(.some 6), .mv, [(.t 58)], none, 0, 0⟩])
        (.seq
        (.ops [3, 5, 6, 7] [
          ⟨(.some 59), .mv, [(.t 3)], none, 0, 0⟩,
          ⟨(.some 60), .mv, [(.t 5)], none, 0, 0⟩,
          ⟨(.some 61), (.arith .sub), [(.t 60), (.c (.int .i64 15))], none, 0, 0⟩,
          ⟨(.some 62), (.idxAddr 1), [(.t 59), (.t 61)], none, 0, 0⟩,
          ⟨(.some 63), (.load false 1), [(.t 62)], none, 0, 0⟩,
          ⟨(.some 7), .mv, [(.t 63)], none, 0, 0⟩])
        (.seq
        (.ops [3, 5, 7, 8] [
          ⟨(.some 64), .mv, [(.t 6)], none, 0, 0⟩,
          ⟨(.some 65), (.call 62), [(.c (.int .u64 17)), (.t 64)], none, 0, 0⟩,
          ⟨(.some 66), .mv, [(.t 6)], none, 0, 0⟩,
          ⟨(.some 67), (.call 62), [(.c (.int .u64 19)), (.t 66)], none, 0, 0⟩,
          ⟨(.some 68), (.arith .xor), [(.t 65), (.t 67)], none, 0, 0⟩,
          ⟨(.some 69), .mv, [(.t 6)], none, 0, 0⟩,
          ⟨(.some 70), (.shift .shr), [(.t 69), (.c (.int .u64 10))], none, 0, 0⟩,
          ⟨(.some 71), (.arith .xor), [(.t 68), (.t 70)], none, 0, 0⟩,
          ⟨(.some 8), .mv, [(.t 71)], none, 0, 0⟩])
        (.seq
        (.ops [3, 5, 8, 9] [
          ⟨(.some 72), .mv, [(.t 7)], none, 0, 0⟩,
          ⟨(.some 73), (.call 62), [(.c (.int .u64 7)), (.t 72)], none, 0, 0⟩,
          ⟨(.some 74), .mv, [(.t 7)], none, 0, 0⟩,
          ⟨(.some 75), (.call 62), [(.c (.int .u64 18)), (.t 74)], none, 0, 0⟩,
          ⟨(.some 76), (.arith .xor), [(.t 73), (.t 75)], none, 0, 0⟩,
          ⟨(.some 77), .mv, [(.t 7)], none, 0, 0⟩,
          ⟨(.some 78), (.shift .shr), [(.t 77), (.c (.int .u64 3))], none, 0, 0⟩,
          ⟨(.some 79), (.arith .xor), [(.t 76), (.t 78)], none, 0, 0⟩,
          ⟨(.some 9), .mv, [(.t 79)], none, 0, 0⟩])
        (.drawn [3, 5] [
          ⟨(.some 80), .mv, [(.t 3)], none, 0, 0⟩,
          ⟨(.some 81), .mv, [(.t 8)], none, 0, 0⟩,
          ⟨(.some 82), .mv, [(.t 3)], none, 0, 0⟩,
          ⟨(.some 83), .mv, [(.t 5)], none, 0, 0⟩,
          ⟨(.some 84), (.arith .sub), [(.t 83), (.c (.int .i64 7))], none, 0, 0⟩,
          ⟨(.some 85), (.idxAddr 1), [(.t 82), (.t 84)], none, 0, 0⟩,
          ⟨(.some 86), (.load false 1), [(.t 85)], none, 0, 0⟩,
          ⟨(.some 87), (.arith .add), [(.t 81), (.t 86)], none, 0, 0⟩,
          ⟨(.some 88), .mv, [(.t 9)], none, 0, 0⟩,
          ⟨(.some 89), (.arith .add), [(.t 87), (.t 88)], none, 0, 0⟩,
          ⟨(.some 90), .mv, [(.t 3)], none, 0, 0⟩,
          ⟨(.some 91), .mv, [(.t 5)], none, 0, 0⟩,
          ⟨(.some 92), (.arith .sub), [(.t 91), (.c (.int .i64 16))], none, 0, 0⟩,
          ⟨(.some 93), (.idxAddr 1), [(.t 90), (.t 92)], none, 0, 0⟩,
          ⟨(.some 94), (.load false 1), [(.t 93)], none, 0, 0⟩,
          ⟨(.some 95), (.arith .add), [(.t 89), (.t 94)], none, 0, 0⟩,
          ⟨(.some 96), (.mkSl 1 [(.int .u32 0)] [(0, 1)]), [(.t 95)], none, 0, 0⟩,
          ⟨(.some 97), (.append 1 4), [(.t 80), (.t 96)], none, 0, 1⟩,
          ⟨(.some 3), .mv, [(.t 97)], none, 1, 1⟩]))))))
      (.ops [3, 5] [
        ⟨(.some 52), .mv, [(.t 5)], none, 0, 0⟩,
        ⟨(.some 53), (.arith .add), [(.t 52), (.c (.int .i64 1))], none, 0, 0⟩,
        ⟨(.some 5), .mv, [(.t 53)], none, 0, 0⟩]))))))
  (.seq
  (.ops [2] [
    ⟨(.some 98), .mv, [(.t 3)], none, 0, 0⟩,
    ⟨(.some 2), .mv, [(.t 98)], none, 0, 0⟩])
  .ret)))))
def r61 : List ARes := [(.tmp 2)]
theorem ok61 : FnOk Tryd.prog 61 c61 r61 :=
  ⟨Tryd.f61, _, Tryd.func61, by kernel_rfl, rfl, by kernel_rfl, by kernel_rfl⟩
/-- rill/rillref01.rotr -/
def c62 : ACode :=
  (.seq
  (.ops [0, 1] [
    ⟨(.some 4), .mv, [(.c (.int .u32 0))], none, 0, 0⟩])
  (.seq
  (.ops [4] [
    ⟨(.some 5), .mv, [(.t 1)], none, 0, 0⟩,
    ⟨(.some 6), .mv, [(.t 0)], none, 0, 0⟩,
    ⟨(.some 7), (.shift .shr), [(.t 5), (.t 6)], none, 0, 0⟩,
    ⟨(.some 8), .mv, [(.t 1)], none, 0, 0⟩,
    ⟨(.some 9), .mv, [(.t 0)], none, 0, 0⟩,
    ⟨(.some 10), (.arith .sub), [(.c (.int .u64 32)), (.t 9)], none, 0, 0⟩,
    ⟨(.some 11), (.shift .shl), [(.t 8), (.t 10)], none, 0, 0⟩,
    ⟨(.some 12), (.arith .or), [(.t 7), (.t 11)], none, 0, 0⟩,
    ⟨(.some 4), .mv, [(.t 12)], none, 0, 0⟩])
  .ret))
def r62 : List ARes := [(.tmp 4)]
theorem ok62 : FnOk Tryd.prog 62 c62 r62 :=
  ⟨Tryd.f62, _, Tryd.func62, by kernel_rfl, rfl, by kernel_rfl, by kernel_rfl⟩
/-- rill/aes.over -/
def c63 : ACode :=
  (.seq
  (.ops [2, 3, 4] [
    ⟨(.some 2), .box, [(.t 0)], none, 0, 0⟩,
    ⟨(.some 3), .box, [(.t 1)], none, 0, 0⟩,
    ⟨(.some 4), (.alloc (List.replicate 16 (.int .u8 0))), [], none, 0, 0⟩])
  (.seq
  (.seq
  (.ops [2, 3, 4, 6] [
    ⟨(.some 6), .mv, [(.c (.int .i64 0))], none, 0, 0⟩])
  (.block 0
    (.loop [2, 3, 4, 6]
      (.seq
      (.ops [2, 3, 4, 6, 7] [
        ⟨(.some 7), (.cmp .lss), [(.t 6), (.c (.int .i64 16))], none, 0, 0⟩])
      (.seq
      (.cond (.t 7)
        .skip
        (.exit 0))
      (.seq
      (.block 1
        (.seq
        (.ops [2, 3, 4, 5, 6] [
          ⟨(.some 8), .mv, [(.t 6)], none, 0, 0⟩,
          ⟨(.some 5), .mv, [(.t 8)], none, 0, 0⟩])
        (.drawn [2, 3, 4, 6] [
          ⟨(.some 9), .mv, [(.t 5)], none, 0, 0⟩,
          ⟨(.some 10), (.idxAddrArr 16 1), [(.t 2), (.t 9)], none, 0, 0⟩,
          ⟨(.some 11), (.load false 1), [(.t 10)], none, 0, 0⟩,
          ⟨(.some 12), .mv, [(.t 5)], none, 0, 0⟩,
          ⟨(.some 13), (.idxAddrArr 16 1), [(.t 3), (.t 12)], none, 0, 0⟩,
          ⟨(.some 14), (.load false 1), [(.t 13)], none, 0, 0⟩,
          ⟨(.some 15), (.arith .xor), [(.t 11), (.t 14)], none, 0, 0⟩,
          ⟨(.some 16), (.idxAddrArr 16 1), [(.t 2), (.t 9)], none, 0, 0⟩,
          ⟨none, (.store 1), [(.t 16), (.t 15)], none, 0, 1⟩])))
      (.ops [2, 3, 4, 6] [
        ⟨(.some 17), (.arith .add), [(.t 6), (.c (.int .i64 1))], none, 0, 0⟩,
        ⟨(.some 6), .mv, [(.t 17)], none, 0, 0⟩])))))))
  (.seq
  (.ops [4] [
    ⟨(.some 18), (.load true 16), [(.t 2)], none, 0, 0⟩,
    ⟨none, (.store 16), [(.t 4), (.t 18)], none, 0, 0⟩])
  .ret)))
def r63 : List ARes := [(.cell 4 true 16)]
theorem ok63 : FnOk Tryd.prog 63 c63 r63 :=
  ⟨Tryd.f63, _, Tryd.func63, by kernel_rfl, rfl, by kernel_rfl, by kernel_rfl⟩
/-- rill/aes.mix -/
def c64 : ACode :=
  (.seq
  (.ops [1, 2] [
    ⟨(.some 1), .box, [(.t 0)], none, 0, 0⟩,
    ⟨(.some 2), (.alloc (List.replicate 16 (.int .u8 0))), [], none, 0, 0⟩])
  (.seq
  (.ops [1, 2, 3] [
    ⟨(.some 3), (.alloc (List.replicate 16 (.int .u8 0))), [], none, 0, 0⟩])
  (.seq
  (.seq
  (.ops [1, 2, 3, 4] [
    ⟨(.some 4), .mv, [(.c (.int .i64 0))], none, 0, 0⟩])
  (.block 0
    (.loop [1, 2, 3, 4]
      (.seq
      (.seq
      (.ops [1, 2, 3, 4, 8] [
        ⟨(.some 7), .mv, [(.t 4)], none, 0, 0⟩,
        ⟨(.some 8), (.cmp .lss), [(.t 7), (.c (.int .i64 16))], none, 0, 0⟩])
      (.cond (.t 8)
        .skip
        (.exit 0)))
      (.seq
      (.block 1
        (.seq
        (.drawn [1, 2, 3, 4, 5] [
          ⟨(.some 11), .mv, [(.t 4)], none, 0, 0⟩,
          ⟨(.some 12), (.idxAddrArr 16 1), [(.t 1), (.t 11)], none, 0, 0⟩,
          ⟨(.some 13), (.load false 1), [(.t 12)], none, 0, 0⟩,
          ⟨(.some 14), .mv, [(.t 4)], none, 0, 0⟩,
          ⟨(.some 15), (.arith .add), [(.t 14), (.c (.int .i64 1))], none, 0, 0⟩,
          ⟨(.some 16), (.idxAddrArr 16 1), [(.t 1), (.t 15)], none, 0, 0⟩,
          ⟨(.some 17), (.load false 1), [(.t 16)], none, 0, 0⟩,
          ⟨(.some 18), (.arith .xor), [(.t 13), (.t 17)], none, 0, 0⟩,
          ⟨(.some 19), .mv, [(.t 4)], none, 0, 0⟩,
          ⟨(.some 20), (.arith .add), [(.t 19), (.c (.int .i64 2))], none, 0, 0⟩,
          ⟨(.some 21), (.idxAddrArr 16 1), [(.t 1), (.t 20)], none, 0, 0⟩,
          ⟨(.some 22), (.load false 1), [(.t 21)], none, 0, 0⟩,
          ⟨(.some 23), (.arith .xor), [(.t 18), (.t 22)], none, 0, 0⟩,
          ⟨(.some 24), .mv, [(.t 4)], none, 0, 0⟩,
          ⟨(.some 25), (.arith .add), [(.t 24), (.c (.int .i64 3))], none, 0, 0⟩,
          ⟨(.some 26), (.idxAddrArr 16 1), [(.t 1), (.t 25)], none, 0, 0⟩,
          ⟨(.some 27), (.load false 1), [(.t 26)], none, 0, 0⟩,
          ⟨(.some 28), (.arith .xor), [(.t 23), (.t 27)], none, 0, 0⟩,
          ⟨(.some 5), .mv, [(.t 28)], none, 0, 0⟩])
        (.seq
        (.ops [1, 2, 3, 4, 5, 29] [
          ⟨(.some 29), .mv, [(.c (.int .i64 0))], none, 0, 0⟩])
        (.block 2
          (.loop [1, 2, 3, 4, 5, 29]
            (.seq
            (.ops [1, 2, 3, 4, 5, 29, 30] [
              ⟨(.some 30), (.cmp .lss), [(.t 29), (.c (.int .i64 4))], none, 0, 0⟩])
            (.seq
            (.cond (.t 30)
              .skip
              (.exit 2))
            (.seq
            (.block 3
              (.seq
              (.ops [1, 2, 3, 4, 5, 6, 29] [
                ⟨(.some 31), .mv, [(.t 29)], none, 0, 0⟩,
                ⟨(.some 6), .mv, [(.t 31)], none, 0, 0⟩])
              (.drawn [1, 2, 3, 4, 5, 29] [
                ⟨(.some 32), .mv, [(.t 4)], none, 0, 1⟩,
                ⟨(.some 33), .mv, [(.t 6)], none, 0, 1⟩,
                ⟨(.some 34), (.arith .add), [(.t 32), (.t 33)], none, 0, 1⟩,
                ⟨(.some 35), .mv, [(.t 4)], none, 0, 1⟩,
                ⟨(.some 36), .mv, [(.t 6)], none, 0, 1⟩,
                ⟨(.some 37), (.arith .add), [(.t 35), (.t 36)], none, 0, 1⟩,
                ⟨(.some 38), (.idxAddrArr 16 1), [(.t 1), (.t 37)], none, 0, 1⟩,
                ⟨(.some 39), (.load false 1), [(.t 38)], none, 0, 1⟩,
                ⟨(.some 40), .mv, [(.t 5)], none, 0, 1⟩,
                ⟨(.some 41), (.arith .xor), [(.t 39), (.t 40)], none, 0, 1⟩,
                ⟨(.some 42), .mv, [(.t 4)], none, 0, 0⟩,
                ⟨(.some 43), .mv, [(.t 6)], none, 0, 0⟩,
                ⟨(.some 44), (.arith .add), [(.t 42), (.t 43)], none, 0, 0⟩,
                ⟨(.some 45), (.idxAddrArr 16 1), [(.t 1), (.t 44)], none, 0, 0⟩,
                ⟨(.some 46), (.load false 1), [(.t 45)], none, 0, 0⟩,
                ⟨(.some 47), .mv, [(.t 4)], none, 0, 0⟩,
                ⟨(.some 48), .mv, [(.t 6)], none, 0, 0⟩,
                ⟨(.some 49), (.arith .add), [(.t 48), (.c (.int .i64 1))], none, 0, 0⟩,
                ⟨(.some 50), (.arith .rem), [(.t 49), (.c (.int .i64 4))], none, 0, 0⟩,
                ⟨(.some 51), (.arith .add), [(.t 47), (.t 50)], none, 0, 0⟩,
                ⟨(.some 52), (.idxAddrArr 16 1), [(.t 1), (.t 51)], none, 0, 0⟩,
                ⟨(.some 53), (.load false 1), [(.t 52)], none, 0, 0⟩,
                ⟨(.some 54), (.arith .xor), [(.t 46), (.t 53)], none, 0, 0⟩,
                ⟨(.some 55), (.call 38), [(.t 54)], none, 0, 1⟩,
                ⟨(.some 56), (.arith .xor), [(.t 41), (.t 55)], none, 1, 1⟩,
                ⟨(.some 57), (.idxAddrArr 16 1), [(.t 3), (.t 34)], none, 1, 1⟩,
                ⟨none, (.store 1), [(.t 57), (.t 56)], none, 1, 2⟩])))
            (.ops [1, 2, 3, 4, 5, 29] [
              ⟨(.some 58), (.arith .add), [(.t 29), (.c (.int .i64 1))], none, 0, 0⟩,
              ⟨(.some 29), .mv, [(.t 58)], none, 0, 0⟩])))))))))
      (.ops [1, 2, 3, 4] [
        ⟨(.some 9), .mv, [(.t 4)], none, 0, 0⟩,
        ⟨(.some 10), (.arith .add), [(.t 9), (.c (.int .i64 4))], none, 0, 0⟩,
        ⟨(.some 4), .mv, [(.t 10)], none, 0, 0⟩]))))))
  (.seq
  (.ops [2] [
    ⟨(.some 59), (.load true 16), [(.t 3)], none, 0, 0⟩,
    ⟨none, (.store 16), [(.t 2), (.t 59)], none, 0, 0⟩])
  .ret))))
def r64 : List ARes := [(.cell 2 true 16)]
theorem ok64 : FnOk Tryd.prog 64 c64 r64 :=
  ⟨Tryd.f64, _, Tryd.func64, by kernel_rfl, rfl, by kernel_rfl, by kernel_rfl⟩
/-- rill/rillref03.inverse -/
def c65 : ACode :=
  (.seq
  (.ops [0] [
    ⟨(.some 2), .mv, [(.c (.int .u8 0))], none, 0, 0⟩])
  (.seq
  (.seq
  (.ops [0, 3] [
    ⟨(.some 3), .mv, [(.c (.int .i64 1))], none, 0, 0⟩])
  (.block 0
    (.loop [0, 3]
      (.seq
      (.seq
      (.ops [0, 3, 5] [
        ⟨(.some 4), .mv, [(.t 3)], none, 0, 0⟩,
        ⟨(.some 5), (.cmp .lss), [(.t 4), (.c (.int .i64 256))], none, 0, 0⟩])
      (.cond (.t 5)
        .skip
        (.exit 0)))
      (.seq
      (.block 1
        (.seq
        (.ops [0, 3, 12] [
          ⟨(.some 8), .mv, [(.t 3)], none, 0, 0⟩,
          ⟨(.some 9), (.conv .u8), [(.t 8)], none, 0, 0⟩,
          ⟨(.some 10), .mv, [(.t 0)], none, 0, 0⟩,
          ⟨(.some 11), (.call 69), [(.t 9), (.t 10)], none, 0, 0⟩,
          ⟨(.some 12), (.eq false .int), [(.t 11), (.c (.int .u8 1))], none, 0, 0⟩])
        (.cond (.t 12)
          (.seq
          (.ops [2] [
            ⟨(.some 13), .mv, [(.t 3)], none, 0, 0⟩,
            ⟨(.some 14), (.conv .u8), [(.t 13)], none, 0, 0⟩,
            ⟨(.some 2), .mv, [(.t 14)], none, 0, 0⟩])
          .ret)
          .skip)))
      (.ops [0, 3] [
        ⟨(.some 6), .mv, [(.t 3)], none, 0, 0⟩,
        ⟨(.some 7), (.arith .add), [(.t 6), (.c (.int .i64 1))], none, 0, 0⟩,
        ⟨(.some 3), .mv, [(.t 7)], none, 0, 0⟩]))))))
  (.seq
  (.ops [2] [
    ⟨(.some 2), .mv, [(.c (.int .u8 0))], none, 0, 0⟩])
  .ret)))
def r65 : List ARes := [(.tmp 2)]
theorem ok65 : FnOk Tryd.prog 65 c65 r65 :=
  ⟨Tryd.f65, _, Tryd.func65, by kernel_rfl, rfl, by kernel_rfl, by kernel_rfl⟩
/-- (*rill/rillref03.Cipher).over -/
def c66 : ACode :=
  (.seq
  (.ops [0, 1, 2] [
    ⟨(.some 6), .mv, [(.c .nils)], none, 0, 0⟩])
  (.seq
  (.ops [0, 1, 2, 7] [
    ⟨(.some 7), .mv, [(.c .nils)], none, 0, 0⟩])
  (.seq
  (.seq
  (.ops [0, 1, 2, 7, 8] [
    ⟨(.some 8), .mv, [(.c (.int .i64 0))], none, 0, 0⟩])
  (.block 0
    (.loop [0, 1, 2, 7, 8]
      (.seq
      (.seq
      (.ops [0, 1, 2, 7, 8, 10] [
        ⟨(.some 9), .mv, [(.t 8)], none, 0, 0⟩,
        ⟨(.some 10), (.cmp .lss), [(.t 9), (.c (.int .i64 16))], none, 0, 0⟩])
      (.cond (.t 10)
        .skip
        (.exit 0)))
      (.seq
      (.block 1
        (.drawn [0, 1, 2, 7, 8] [
          ⟨(.some 13), .mv, [(.t 7)], none, 0, 0⟩,
          ⟨(.some 14), .mv, [(.t 1)], none, 0, 0⟩,
          ⟨(.some 15), .mv, [(.t 8)], none, 0, 0⟩,
          ⟨(.some 16), (.idxAddr 1), [(.t 14), (.t 15)], none, 0, 0⟩,
          ⟨(.some 17), (.load false 1), [(.t 16)], none, 0, 0⟩,
          ⟨(.some 18), .mv, [(.t 0)], none, 0, 0⟩,
          ⟨(.some 19), .nilCheck, [(.t 18)], none, 0, 0⟩,
          ⟨(.some 20), (.fieldAddr 0), [(.t 19)], none, 0, 0⟩,
          ⟨(.some 21), (.load false 1), [(.t 20)], none, 0, 0⟩,
          ⟨(.some 22), .mv, [(.t 2)], none, 0, 0⟩,
          ⟨(.some 23), (.arith .mul), [(.c (.int .i64 4)), (.t 22)], none, 0, 0⟩,
          ⟨(.some 24), .mv, [(.t 8)], none, 0, 0⟩,
          ⟨(.some 25), (.arith .quo), [(.t 24), (.c (.int .i64 4))], none, 0, 0⟩,
          ⟨(.some 26), (.arith .add), [(.t 23), (.t 25)], none, 0, 0⟩,
          ⟨(.some 27), (.idxAddr 1), [(.t 21), (.t 26)], none, 0, 0⟩,
          ⟨(.some 28), (.load false 1), [(.t 27)], none, 0, 0⟩,
          ⟨(.some 29), .mv, [(.t 8)], none, 0, 0⟩,
          ⟨(.some 30), (.arith .rem), [(.t 29), (.c (.int .i64 4))], none, 0, 0⟩,
          ⟨(.some 31), (.idxAddr 1), [(.t 28), (.t 30)], none, 0, 0⟩,
          ⟨(.some 32), (.load false 1), [(.t 31)], none, 0, 0⟩,
          ⟨(.some 33), (.arith .xor), [(.t 17), (.t 32)], none, 0, 0⟩,
          ⟨(.some 34), (.mkSl 1 [(.int .u8 0)] [(0, 1)]), [(.t 33)], none, 0, 0⟩,
          ⟨(.some 35), (.append 1 1), [(.t 13), (.t 34)], none, 0, 1⟩,
          ⟨(.some 7), .mv, [(.t 35)], none, 1, 1⟩]))
      (.ops [0, 1, 2, 7, 8] [
        ⟨(.some 11), .mv, [(.t 8)], none, 0, 0⟩,
        ⟨(.some 12), (.arith .add), [(.t 11), (.c (.int .i64 1))], none, 0, 0⟩,
        ⟨(.some 8), .mv, [(.t 12)], none, 0, 0⟩]))))))
  (.seq
  (.ops [6] [
    ⟨(.some 36), .mv, [(.t 7)], none, 0, 0⟩,
    ⟨(.some 6), .mv, [(.t 36)], none, 0, 0⟩])
  .ret))))
def r66 : List ARes := [(.tmp 6)]
theorem ok66 : FnOk Tryd.prog 66 c66 r66 :=
  ⟨Tryd.f66, _, Tryd.func66, by kernel_rfl, rfl, by kernel_rfl, by kernel_rfl⟩
/-- rill/rillref03.mixed -/
def c67 : ACode :=
  (.seq
  (.ops [0] [
    ⟨(.some 2), .mv, [(.c .nils)], none, 0, 0⟩])
  (.seq
  (.ops [0, 3] [
    ⟨(.some 3), .mv, [(.c .nils)], none, 0, 0⟩])
  (.seq
  (.seq
  (.ops [0, 3, 4] [
    ⟨(.some 4), .mv, [(.c (.int .i64 0))], none, 0, 0⟩])
  (.block 0
    (.loop [0, 3, 4]
      (.seq
      (.seq
      (.ops [0, 3, 4, 10] [
        ⟨(.some 9), .mv, [(.t 4)], none, 0, 0⟩,
        ⟨(.some 10), (.cmp .lss), [(.t 9), (.c (.int .i64 4))], none, 0, 0⟩])
      (.cond (.t 10)
        .skip
        (.exit 0)))
      (.seq
      (.block 1
        (.seq
        (.drawn [0, 3, 4, 5, 6, 7, 8] [
          ⟨(.some 13), .mv, [(.t 0)], none, 0, 0⟩,
          ⟨(.some 14), .mv, [(.t 4)], none, 0, 0⟩,
          ⟨(.some 15), (.arith .mul), [(.c (.int .i64 4)), (.t 14)], none, 0, 0⟩,
          ⟨(.some 16), (.idxAddr 1), [(.t 13), (.t 15)], none, 0, 0⟩,
          ⟨(.some 17), (.load false 1), [(.t 16)], none, 0, 0⟩,
          ⟨(.some 18), .mv, [(.t 0)], none, 0, 0⟩,
          ⟨(.some 19), .mv, [(.t 4)], none, 0, 0⟩,
          ⟨(.some 20), (.arith .mul), [(.c (.int .i64 4)), (.t 19)], none, 0, 0⟩,
          ⟨(.some 21), (.arith .add), [(.t 20), (.c (.int .i64 1))], none, 0, 0⟩,
          ⟨(.some 22), (.idxAddr 1), [(.t 18), (.t 21)], none, 0, 0⟩,
          ⟨(.some 23), (.load false 1), [(.t 22)], none, 0, 0⟩,
          ⟨(.some 24), .mv, [(.t 0)], none, 0, 0⟩,
          ⟨(.some 25), .mv, [(.t 4)], none, 0, 0⟩,
          ⟨(.some 26), (.arith .mul), [(.c (.int .i64 4)), (.t 25)], none, 0, 0⟩,
          ⟨(.some 27), (.arith .add), [(.t 26), (.c (.int .i64 2))], none, 0, 0⟩,
          ⟨(.some 28), (.idxAddr 1), [(.t 24), (.t 27)], none, 0, 0⟩,
          ⟨(.some 29), (.load false 1), [(.t 28)], none, 0, 0⟩,
          ⟨(.some 30), .mv, [(.t 0)], none, 0, 0⟩,
          ⟨(.some 31), .mv, [(.t 4)], none, 0, 0⟩,
          ⟨(.some 32), (.arith .mul), [(.c (.int .i64 4)), (.t 31)], none, 0, 0⟩,
          ⟨(.some 33), (.arith .add), [(.t 32), (.c (.int .i64 3))], none, 0, 0⟩,
          ⟨(.some 34), (.idxAddr 1), [(.t 30), (.t 33)], none, 0, 0⟩,
          ⟨(.some 35), (.load false 1), [(.t 34)], none, 0, 0⟩,
          ⟨(.some 5), .mv, [(.t 17)], none, 0, 0⟩,
          ⟨(.some 6), .mv, [(.t 23)], none, 0, 0⟩,
          ⟨(.some 7), .mv, [(.t 29)], none, 0, 0⟩,
          ⟨(.some 8), .mv, [(.t 35)], none, 0, 0⟩])
        (.ops [0, 3, 4] [
          ⟨(.some 36), .mv, [(.t 3)], none, 0, 0⟩,
          ⟨(.some 37), .mv, [(.t 5)], none, 0, 0⟩,
          ⟨(.some 38), (.call 69), [(.c (.int .u8 2)), (.t 37)], none, 0, 0⟩,
          ⟨(.some 39), .mv, [(.t 6)], none, 0, 0⟩,
          ⟨(.some 40), (.call 69), [(.c (.int .u8 3)), (.t 39)], none, 0, 0⟩,
          ⟨(.some 41), (.arith .xor), [(.t 38), (.t 40)], none, 0, 0⟩,
          ⟨(.some 42), .mv, [(.t 7)], none, 0, 0⟩,
          ⟨(.some 43), (.arith .xor), [(.t 41), (.t 42)], none, 0, 0⟩,
          ⟨(.some 44), .mv, [(.t 8)], none, 0, 0⟩,
          ⟨(.some 45), (.arith .xor), [(.t 43), (.t 44)], none, 0, 0⟩,
          ⟨(.some 46), .mv, [(.t 5)], none, 0, 0⟩,
          ⟨(.some 47), .mv, [(.t 6)], none, 0, 0⟩,
          ⟨(.some 48), (.call 69), [(.c (.int .u8 2)), (.t 47)], none, 0, 0⟩,
          ⟨(.some 49), (.arith .xor), [(.t 46), (.t 48)], none, 0, 0⟩,
          ⟨(.some 50), .mv, [(.t 7)], none, 0, 0⟩,
          ⟨(.some 51), (.call 69), [(.c (.int .u8 3)), (.t 50)], none, 0, 0⟩,
          ⟨(.some 52), (.arith .xor), [(.t 49), (.t 51)], none, 0, 0⟩,
          ⟨(.some 53), .mv, [(.t 8)], none, 0, 0⟩,
          ⟨(.some 54), (.arith .xor), [(.t 52), (.t 53)], none, 0, 0⟩,
          ⟨(.some 55), .mv, [(.t 5)], none, 0, 0⟩,
          ⟨(.some 56), .mv, [(.t 6)], none, 0, 0⟩,
          ⟨(.some 57), (.arith .xor), [(.t 55), (.t 56)], none, 0, 0⟩,
          ⟨(.some 58), .mv, [(.t 7)], none, 0, 0⟩,
          ⟨(.some 59), (.call 69), [(.c (.int .u8 2)), (.t 58)], none, 0, 0⟩,
          ⟨(.some 60), (.arith .xor), [(.t 57), (.t 59)], none, 0, 0⟩,
          ⟨(.some 61), .mv, [(.t 8)], none, 0, 0⟩,
          ⟨(.some 62), (.call 69), [(.c (.int .u8 3)), (.t 61)], none, 0, 0⟩,
          ⟨(.some 63), (.arith .xor), [(.t 60), (.t 62)], none, 0, 0⟩,
          ⟨(.some 64), .mv, [(.t 5)], none, 0, 0⟩,
          ⟨(.some 65), (.call 69), [(.c (.int .u8 3)), (.t 64)], none, 0, 0⟩,
          ⟨(.some 66), .mv, [(.t 6)], none, 0, 0⟩,
          ⟨(.some 67), (.arith .xor), [(.t 65), (.t 66)], none, 0, 0⟩,
          ⟨(.some 68), .mv, [(.t 7)], none, 0, 0⟩,
          ⟨(.some 69), (.arith .xor), [(.t 67), (.t 68)], none, 0, 0⟩,
          ⟨(.some 70), .mv, [(.t 8)], none, 0, 0⟩,
          ⟨(.some 71), (.call 69), [(.c (.int .u8 2)), (.t 70)], none, 0, 0⟩,
          ⟨(.some 72), (.arith .xor), [(.t 69), (.t 71)], none, 0, 0⟩,
          ⟨(.some 73), (.mkSl 4 [(.int .u8 0), (.int .u8 0), (.int .u8 0), (.int .u8 0)] [(0, 1), (1, 1), (2, 1), (3, 1)]), [(.t 45), (.t 54), (.t 63), (.t 72)], none, 0, 0⟩,
          ⟨(.some 74), (.append 1 1), [(.t 36), (.t 73)], none, 0, 0⟩,
          ⟨(.some 3), .mv, [(.t 74)], none, 0, 0⟩])))
      (.ops [0, 3, 4] [
        ⟨(.some 11), .mv, [(.t 4)], none, 0, 0⟩,
        ⟨(.some 12), (.arith .add), [(.t 11), (.c (.int .i64 1))], none, 0, 0⟩,
        ⟨(.some 4), .mv, [(.t 12)], none, 0, 0⟩]))))))
  (.seq
  (.ops [2] [
    ⟨(.some 75), .mv, [(.t 3)], none, 0, 0⟩,
    ⟨(.some 2), .mv, [(.t 75)], none, 0, 0⟩])
  .ret))))
def r67 : List ARes := [(.tmp 2)]
theorem ok67 : FnOk Tryd.prog 67 c67 r67 :=
  ⟨Tryd.f67, _, Tryd.func67, by kernel_rfl, rfl, by kernel_rfl, by kernel_rfl⟩
/-- rill/sha.turn -/
def c68 : ACode :=
  (.seq
  (.ops [0, 1] [
    ⟨(.some 4), .mv, [(.c (.int .u32 0))], none, 0, 0⟩])
  (.seq
  (.ops [4] [
    ⟨(.some 5), .mv, [(.t 0)], none, 0, 0⟩,
    ⟨(.some 6), .mv, [(.t 1)], none, 0, 0⟩,
    ⟨(.some 7), (.shift .shr), [(.t 5), (.t 6)], none, 0, 0⟩,
    ⟨(.some 8), .mv, [(.t 0)], none, 0, 0⟩,
    ⟨(.some 9), .mv, [(.t 1)], none, 0, 0⟩,
    ⟨(.some 10), (.arith .sub), [(.c (.int .u64 32)), (.t 9)], none, 0, 0⟩,
    ⟨(.some 11), (.shift .shl), [(.t 8), (.t 10)], none, 0, 0⟩,
    ⟨(.some 12), (.arith .or), [(.t 7), (.t 11)], none, 0, 0⟩,
    ⟨(.some 4), .mv, [(.t 12)], none, 0, 0⟩])
  .ret))
def r68 : List ARes := [(.tmp 4)]
theorem ok68 : FnOk Tryd.prog 68 c68 r68 :=
  ⟨Tryd.f68, _, Tryd.func68, by kernel_rfl, rfl, by kernel_rfl, by kernel_rfl⟩
/-- rill/rillref03.Times -/
def c69 : ACode :=
  (.seq
  (.ops [0, 1] [
    ⟨(.some 4), .mv, [(.c (.int .u8 0))], none, 0, 0⟩])
  (.seq
  (.ops [0, 1, 5] [
    ⟨(.some 5), .mv, [(.c (.int .u8 0))], none, 0, 0⟩])
  (.seq
  (.seq
  (.ops [0, 1, 5, 6] [
    ⟨(.some 6), .mv, [(.c (.int .i64 0))], none, 0, 0⟩])
  (.block 0
    (.loop [0, 1, 5, 6]
      (.seq
      (.seq
      (.ops [0, 1, 5, 6, 8] [
        ⟨(.some 7), .mv, [(.t 6)], none, 0, 0⟩,
        ⟨(.some 8), (.cmp .lss), [(.t 7), (.c (.int .i64 8))], none, 0, 0⟩])
      (.cond (.t 8)
        .skip
        (.exit 0)))
      (.seq
      (.block 1
        (.seq
        (.seq
        (.ops [0, 1, 5, 6, 16] [
          ⟨(.some 11), .mv, [(.t 0)], none, 0, 0⟩,
          ⟨(.some 12), .mv, [(.t 6)], none, 0, 0⟩,
          ⟨(.some 13), (.conv .u64), [(.t 12)], none, 0, 0⟩,
          ⟨(.some 14), (.shift .shr), [(.t 11), (.t 13)], none, 0, 0⟩,
          ⟨(.some 15), (.arith .rem), [(.t 14), (.c (.int .u8 2))], none, 0, 0⟩,
          ⟨(.some 16), (.eq false .int), [(.t 15), (.c (.int .u8 1))], none, 0, 0⟩])
        (.cond (.t 16)
          (.ops [0, 1, 5, 6] [
            ⟨(.some 17), .mv, [(.t 5)], none, 0, 0⟩,
            ⟨(.some 18), .mv, [(.t 1)], none, 0, 0⟩,
            ⟨(.some 19), (.arith .xor), [(.t 17), (.t 18)], none, 0, 0⟩,
            ⟨(.some 5), .mv, [(.t 19)], none, 0, 0⟩])
          .skip))
        (.ops [0, 1, 5, 6] [
          ⟨(.some 20), .mv, [(.t 1)], none, 0, 0⟩,
          ⟨(.some 21), (.call 43), [(.t 20)], none, 0, 0⟩,
          ⟨(.some 1), .mv, [(.t 21)], none, 0, 0⟩])))
      (.ops [0, 1, 5, 6] [
        ⟨(.some 9), .mv, [(.t 6)], none, 0, 0⟩,
        ⟨(.some 10), (.arith .add), [(.t 9), (.c (.int .i64 1))], none, 0, 0⟩,
        ⟨(.some 6), .mv, [(.t 10)], none, 0, 0⟩]))))))
  (.seq
  (.ops [4] [
    ⟨(.some 22), .mv, [(.t 5)], none, 0, 0⟩,
    ⟨(.some 4), .mv, [(.t 22)], none, 0, 0⟩])
  .ret))))
def r69 : List ARes := [(.tmp 4)]
theorem ok69 : FnOk Tryd.prog 69 c69 r69 :=
  ⟨Tryd.f69, _, Tryd.func69, by kernel_rfl, rfl, by kernel_rfl, by kernel_rfl⟩
end Go.Proofs.YtdmdakaliilghaaDoor
end
section
/- Parts of the abstract code, under names of their own: if-statements, and what is behind them (printed by gencode.py). -/
namespace Go.Proofs.YtdmdakaliilghaaDoor
open Go.Adm
/-- rill/mac.blockOf -/
def c52_2 : ACode :=
  (.seq
  (.seq
  (.ops [1, 4, 5, 19] [
    ⟨(.some 19), .mv, [(.c (.int .i64 0))], none, 0, 0⟩])
  (.block 0
    (.loop [1, 4, 5, 19]
      (.seq
      (.ops [1, 4, 5, 19, 20] [
        ⟨(.some 20), (.cmp .lss), [(.t 19), (.c (.int .i64 64))], none, 0, 0⟩])
      (.seq
      (.cond (.t 20)
        .skip
        (.exit 0))
      (.seq
      (.block 1
        (.seq
        (.ops [1, 4, 5, 7, 19] [
          ⟨(.some 21), .mv, [(.t 19)], none, 0, 0⟩,
          ⟨(.some 7), .mv, [(.t 21)], none, 0, 0⟩])
        (.ops [1, 4, 5, 19] [
          ⟨(.some 22), .mv, [(.t 7)], none, 0, 0⟩,
          ⟨(.some 23), (.idxAddrArr 64 1), [(.t 5), (.t 22)], none, 0, 0⟩,
          ⟨(.some 24), (.load false 1), [(.t 23)], none, 0, 0⟩,
          ⟨(.some 25), .mv, [(.t 1)], none, 0, 0⟩,
          ⟨(.some 26), (.arith .xor), [(.t 24), (.t 25)], none, 0, 0⟩,
          ⟨(.some 27), (.idxAddrArr 64 1), [(.t 5), (.t 22)], none, 0, 0⟩,
          ⟨none, (.store 1), [(.t 27), (.t 26)], none, 0, 0⟩])))
      (.ops [1, 4, 5, 19] [
        ⟨(.some 28), (.arith .add), [(.t 19), (.c (.int .i64 1))], none, 0, 0⟩,
        ⟨(.some 19), .mv, [(.t 28)], none, 0, 0⟩])))))))
  (.seq
  (.ops [4] [
    ⟨(.some 29), (.load true 64), [(.t 5)], none, 0, 0⟩,
    ⟨none, (.store 64), [(.t 4), (.t 29)], none, 0, 0⟩])
  .ret))
def c52_1 : ACode :=
  (.seq
  (.ops [0, 1, 4, 5, 10] [
    ⟨(.some 8), .mv, [(.t 0)], none, 0, 0⟩,
    ⟨(.some 9), .len, [(.t 8)], none, 0, 0⟩,
    ⟨(.some 10), (.cmp .gtr), [(.t 9), (.c (.int .i64 64))], none, 0, 0⟩])
  (.cond (.t 10)
    (.seq
    (.ops [1, 4, 5, 6] [
      ⟨(.some 11), .mv, [(.t 0)], none, 0, 0⟩,
      ⟨(.some 12), (.call 34), [(.t 11)], none, 0, 0⟩,
      ⟨(.some 6), (.alloc (List.replicate 32 (.int .u8 0))), [], none, 0, 0⟩,
      ⟨none, (.store 32), [(.t 6), (.t 12)], none, 0, 0⟩])
    (.drawn [1, 4, 5] [
      ⟨(.some 13), (.sliceArr 64 1 false false false), [(.t 5)], none, 0, 0⟩,
      ⟨(.some 14), (.sliceArr 32 1 false false false), [(.t 6)], none, 0, 0⟩,
      ⟨(.some 15), (.copy 1), [(.t 13), (.t 14)], none, 0, 1⟩]))
    (.ops [1, 4, 5] [
      ⟨(.some 16), (.sliceArr 64 1 false false false), [(.t 5)], none, 0, 0⟩,
      ⟨(.some 17), .mv, [(.t 0)], none, 0, 0⟩,
      ⟨(.some 18), (.copy 1), [(.t 16), (.t 17)], none, 0, 0⟩])))
theorem p52 : c52 =
  (.seq
  (.ops [0, 1, 4] [
    ⟨(.some 4), (.alloc (List.replicate 64 (.int .u8 0))), [], none, 0, 0⟩])
  (.seq
  (.ops [0, 1, 4, 5] [
    ⟨(.some 5), (.alloc (List.replicate 64 (.int .u8 0))), [], none, 0, 0⟩])
  (.seq c52_1 c52_2))) := rfl
/-- rill/rillref02.Block -/
def c56_2 : ACode :=
  (.seq
  (.block 4
    (.loop [1, 5]
      (.seq
      (.seq
      (.ops [1, 5, 45] [
        ⟨(.some 43), .mv, [(.t 5)], none, 0, 0⟩,
        ⟨(.some 44), .len, [(.t 43)], none, 0, 0⟩,
        ⟨(.some 45), (.cmp .lss), [(.t 44), (.c (.int .i64 64))], none, 0, 0⟩])
      (.cond (.t 45)
        .skip
        (.exit 4)))
      (.block 5
        (.ops [1, 5] [
          ⟨(.some 46), .mv, [(.t 5)], none, 0, 0⟩,
          ⟨(.some 47), (.mkSl 1 [(.int .u8 0)] [(0, 1)]), [(.c (.int .u8 0))], none, 0, 0⟩,
          ⟨(.some 48), (.append 1 1), [(.t 46), (.t 47)], none, 0, 0⟩,
          ⟨(.some 5), .mv, [(.t 48)], none, 0, 0⟩])))))
  (.seq
  (.seq
  (.ops [1, 5, 9] [
    ⟨(.some 9), .mv, [(.c (.int .i64 0))], none, 0, 0⟩])
  (.block 6
    (.loop [1, 5, 9]
      (.seq
      (.seq
      (.ops [1, 5, 9, 52] [
        ⟨(.some 49), .mv, [(.t 9)], none, 0, 0⟩,
        ⟨(.some 50), .mv, [(.t 5)], none, 0, 0⟩,
        ⟨(.some 51), .len, [(.t 50)], none, 0, 0⟩,
        ⟨(.some 52), (.cmp .lss), [(.t 49), (.t 51)], none, 0, 0⟩])
      (.cond (.t 52)
        .skip
        (.exit 6)))
      (.seq
      (.block 7
        (.ops [1, 5, 9] [
          ⟨(.some 55), .mv, [(.t 5)], none, 0, 0⟩,
          ⟨(.some 56), .mv, [(.t 9)], none, 0, 0⟩,
          ⟨(.some 57), .mv, [(.t 5)], none, 0, 0⟩,
          ⟨(.some 58), .mv, [(.t 9)], none, 0, 0⟩,
          ⟨(.some 59), (.idxAddr 1), [(.t 57), (.t 58)], none, 0, 0⟩,
          ⟨(.some 60), (.load false 1), [(.t 59)], none, 0, 0⟩,
          ⟨(.some 61), .mv, [(.t 1)], none, 0, 0⟩,
          ⟨(.some 62), (.arith .xor), [(.t 60), (.t 61)], none, 0, 0⟩,
          ⟨(.some 63), (.idxAddr 1), [(.t 55), (.t 56)], none, 0, 0⟩,
          ⟨none, (.store 1), [(.t 63), (.t 62)], none, 0, 0⟩]))
      (.ops [1, 5, 9] [
        ⟨(.some 53), .mv, [(.t 9)], none, 0, 0⟩,
        ⟨(.some 54), (.arith .add), [(.t 53), (.c (.int .i64 1))], none, 0, 0⟩,
        ⟨(.some 9), .mv, [(.t 54)], none, 0, 0⟩]))))))
  (.seq
  (.ops [4] [
    ⟨(.some 64), .mv, [(.t 5)], none, 0, 0⟩,
    ⟨(.some 4), .mv, [(.t 64)], none, 0, 0⟩])
  .ret)))
def c56_1 : ACode :=
  (.seq
  (.ops [0, 1, 5, 30] [
    ⟨(.some 28), .mv, [(.t 0)], none, 0, 0⟩,
    ⟨(.some 29), .len, [(.t 28)], none, 0, 0⟩,
    ⟨(.some 30), (.cmp .gtr), [(.t 29), (.c (.int .i64 64))], none, 0, 0⟩])
  (.cond (.t 30)
    (.seq
    (.ops [1, 5, 7] [
      ⟨(.some 31), .mv, [(.t 0)], none, 0, 0⟩,
      ⟨(.some 32), (.call 35), [(.t 31)], none, 0, 0⟩,
      ⟨(.some 7), (.alloc (List.replicate 32 (.int .u8 0))), [], none, 0, 0⟩,
      ⟨none, (.store 32), [(.t 7), (.t 32)], none, 0, 0⟩])
    (.seq
    (.ops [1, 5, 7, 8] [
      ⟨(.some 8), .mv, [(.c (.int .i64 0))], none, 0, 0⟩])
    (.block 2
      (.loop [1, 5, 7, 8]
        (.seq
        (.seq
        (.ops [1, 5, 7, 8, 34] [
          ⟨(.some 33), .mv, [(.t 8)], none, 0, 0⟩,
          ⟨(.some 34), (.cmp .lss), [(.t 33), (.c (.int .i64 32))], none, 0, 0⟩])
        (.cond (.t 34)
          .skip
          (.exit 2)))
        (.seq
        (.block 3
          (.ops [1, 5, 7, 8] [
            ⟨(.some 37), .mv, [(.t 5)], none, 0, 0⟩,
            ⟨(.some 38), .mv, [(.t 8)], none, 0, 0⟩,
            ⟨(.some 39), (.idxAddrArr 32 1), [(.t 7), (.t 38)], none, 0, 0⟩,
            ⟨(.some 40), (.load false 1), [(.t 39)], none, 0, 0⟩,
            ⟨(.some 41), (.mkSl 1 [(.int .u8 0)] [(0, 1)]), [(.t 40)], none, 0, 0⟩,
            ⟨(.some 42), (.append 1 1), [(.t 37), (.t 41)], none, 0, 0⟩,
            ⟨(.some 5), .mv, [(.t 42)], none, 0, 0⟩]))
        (.ops [1, 5, 7, 8] [
          ⟨(.some 35), .mv, [(.t 8)], none, 0, 0⟩,
          ⟨(.some 36), (.arith .add), [(.t 35), (.c (.int .i64 1))], none, 0, 0⟩,
          ⟨(.some 8), .mv, [(.t 36)], none, 0, 0⟩])))))))
    .skip))
theorem p56 : c56 =
  (.seq
  (.ops [0, 1] [
    ⟨(.some 4), .mv, [(.c .nils)], none, 0, 0⟩])
  (.seq
  (.ops [0, 1, 5] [
    ⟨(.some 5), .mv, [(.c .nils)], none, 0, 0⟩])
  (.seq
  (.seq
  (.ops [0, 1, 5, 6] [
    ⟨(.some 6), .mv, [(.c (.int .i64 0))], none, 0, 0⟩])
  (.block 0
    (.loop [0, 1, 5, 6]
      (.seq
      (.seq
      (.ops [0, 1, 5, 6, 18] [
        ⟨(.some 10), .mv, [(.t 6)], none, 0, 0⟩,
        ⟨(.some 11), .mv, [(.t 0)], none, 0, 0⟩,
        ⟨(.some 12), .len, [(.t 11)], none, 0, 0⟩,
        ⟨(.some 13), (.cmp .lss), [(.t 10), (.t 12)], none, 0, 0⟩,
        ⟨(.some 14), .mv, [(.t 13)], none, 0, 0⟩,
        ⟨(.some 15), .mv, [(.t 0)], (.some (14, true)), 0, 0⟩,
        ⟨(.some 16), .len, [(.t 15)], (.some (14, true)), 0, 0⟩,
        ⟨(.some 17), (.cmp .leq), [(.t 16), (.c (.int .i64 64))], (.some (14, true)), 0, 0⟩,
        ⟨(.some 18), .pick, [(.t 14), (.t 17), (.c (.bool false))], none, 0, 0⟩])
      (.cond (.t 18)
        .skip
        (.exit 0)))
      (.seq
      (.block 1
        (.ops [0, 1, 5, 6] [
          ⟨(.some 21), .mv, [(.t 5)], none, 0, 0⟩,
          ⟨(.some 22), .mv, [(.t 0)], none, 0, 0⟩,
          ⟨(.some 23), .mv, [(.t 6)], none, 0, 0⟩,
          ⟨(.some 24), (.idxAddr 1), [(.t 22), (.t 23)], none, 0, 0⟩,
          ⟨(.some 25), (.load false 1), [(.t 24)], none, 0, 0⟩,
          ⟨(.some 26), (.mkSl 1 [(.int .u8 0)] [(0, 1)]), [(.t 25)], none, 0, 0⟩,
          ⟨(.some 27), (.append 1 1), [(.t 21), (.t 26)], none, 0, 0⟩,
          ⟨(.some 5), .mv, [(.t 27)], none, 0, 0⟩]))
      (.ops [0, 1, 5, 6] [
        ⟨(.some 19), .mv, [(.t 6)], none, 0, 0⟩,
        ⟨(.some 20), (.arith .add), [(.t 19), (.c (.int .i64 1))], none, 0, 0⟩,
        ⟨(.some 6), .mv, [(.t 20)], none, 0, 0⟩]))))))
  (.seq c56_1 c56_2)))) := rfl
end Go.Proofs.YtdmdakaliilghaaDoor
end
section
/- What the statements of all layers share: lists of bytes. -/
namespace Go.Proofs.YtdmdakaliilghaaDoor
open Go Go.Adm
set_option linter.unusedSimpArgs false
set_option maxRecDepth 100000

def lent (l : List B8) : List B8 := tab (l.length + 5) fun j => if j < l.length then gb l j else 165#8
theorem lent_len (l : List B8) : (lent l).length = l.length + 5 := tab_len _ _
theorem gb_eq_of {a b : List B8} (hl : a.length = b.length) : (∀ i, i < a.length → gb a i = gb b i) → a = b := gb_ext hl
theorem ans_samebytes {m : Mem} {x y : AV} {a b : List B8} (hx : RdB m x a) (hy : RdB m y b) (hl : a.length < 1152921504606846976) : Ans Tryd.prog 12 [x, y] m fun r m' => r = .bool (a == b) ∧ m' = m := by
  refine ans_ret mixed ok12 ?_
  by_cases h : a.length = b.length
  · have h' : ((a.length : Int) == (b.length : Int)) = true := by rw [h]; simp
    simp -implicitDefEqProofs (disch := (first | omega | (simp only [lenB, lent_len] <;> omega) | fail)) only [admQ, lenB, lent_len, aFill, AK.cls, implies_true, ↓reduceIte, reduceCtorEq, if_true, if_false, Nat.reduceAdd, Nat.reduceEqDiff, Nat.reduceMod, Nat.reduceLT, Nat.reduceLeDiff, Nat.reduceSub, Nat.reduceMul, Nat.reduceBEq, Int.reduceAdd, Int.reduceSub, Int.reduceMul, Int.reduceNeg, Int.reduceLT, Int.reduceLE, Int.reduceToNat, Int.reduceEq, Int.reduceBEq, c12, r12, hx.len, hy.len, h']
    refine LoopW.on (fun i : Nat => [(0, x), (1, y), (5, .int .i64 i)]) (fun i => a.length - i) (fun i m' => m' = m ∧ i ≤ a.length ∧ ∀ j, j < i → gb a j = gb b j) ?_ 0 _ _ rfl ⟨rfl, by omega, fun j hj => by omega⟩
    rintro i _ X ⟨rfl, hi, hj⟩ hX
    by_cases hlt : i < a.length
    · obtain ⟨b1, o1, cap1, s1, c1, rfl, hr1, hg1, hl1, hc1, hs1, ht1⟩ := hx.cons hlt
      obtain ⟨b2, o2, cap2, s2, c2, rfl, hr2, hg2, hl2, hc2, hs2, ht2⟩ := hy.cons (by omega : i < b.length)
      have e1 := hg1 i hlt
      have e2 := hg2 i (by omega)
      cases he : gb a i == gb b i
      · have hne : (a == b) = false := by
          rw [beq_eq_false_iff_ne]; rintro rfl; simp at he
        simp -implicitDefEqProofs (disch := (first | omega | (simp only [lenB, lent_len] <;> omega) | fail)) only [admQ, lenB, lent_len, aFill, AK.cls, implies_true, ↓reduceIte, reduceCtorEq, if_true, if_false, Nat.reduceAdd, Nat.reduceEqDiff, Nat.reduceMod, Nat.reduceLT, Nat.reduceLeDiff, Nat.reduceSub, Nat.reduceMul, Nat.reduceBEq, Int.reduceAdd, Int.reduceSub, Int.reduceMul, Int.reduceNeg, Int.reduceLT, Int.reduceLE, Int.reduceToNat, Int.reduceEq, Int.reduceBEq, hr1, hr2, e1, e2, he, hne]
      · simp -implicitDefEqProofs (disch := (first | omega | (simp only [lenB, lent_len] <;> omega) | fail)) only [admQ, lenB, lent_len, aFill, AK.cls, implies_true, ↓reduceIte, reduceCtorEq, if_true, if_false, Nat.reduceAdd, Nat.reduceEqDiff, Nat.reduceMod, Nat.reduceLT, Nat.reduceLeDiff, Nat.reduceSub, Nat.reduceMul, Nat.reduceBEq, Int.reduceAdd, Int.reduceSub, Int.reduceMul, Int.reduceNeg, Int.reduceLT, Int.reduceLE, Int.reduceToNat, Int.reduceEq, Int.reduceBEq, hr1, hr2, e1, e2, he]
        refine hX (i + 1) _ _ rfl (by omega) ⟨rfl, by omega, fun j hj2 => ?_⟩
        by_cases hji : j = i
        · subst hji; simpa using he
        · exact hj j (by omega)
    · have he : (a == b) = true := by rw [beq_iff_eq]; exact gb_ext h fun j hj2 => hj j (by omega)
      simp -implicitDefEqProofs (disch := (first | omega | (simp only [lenB, lent_len] <;> omega) | fail)) only [admQ, lenB, lent_len, aFill, AK.cls, implies_true, ↓reduceIte, reduceCtorEq, if_true, if_false, Nat.reduceAdd, Nat.reduceEqDiff, Nat.reduceMod, Nat.reduceLT, Nat.reduceLeDiff, Nat.reduceSub, Nat.reduceMul, Nat.reduceBEq, Int.reduceAdd, Int.reduceSub, Int.reduceMul, Int.reduceNeg, Int.reduceLT, Int.reduceLE, Int.reduceToNat, Int.reduceEq, Int.reduceBEq, hx.len, he]
  · have h' : ((a.length : Int) == (b.length : Int)) = false := by rw [beq_eq_false_iff_ne]; omega
    have he : (a == b) = false := by rw [beq_eq_false_iff_ne]; rintro rfl; exact h rfl
    simp -implicitDefEqProofs (disch := (first | omega | (simp only [lenB, lent_len] <;> omega) | fail)) only [admQ, lenB, lent_len, aFill, AK.cls, implies_true, ↓reduceIte, reduceCtorEq, if_true, if_false, Nat.reduceAdd, Nat.reduceEqDiff, Nat.reduceMod, Nat.reduceLT, Nat.reduceLeDiff, Nat.reduceSub, Nat.reduceMul, Nat.reduceBEq, Int.reduceAdd, Int.reduceSub, Int.reduceMul, Int.reduceNeg, Int.reduceLT, Int.reduceLE, Int.reduceToNat, Int.reduceEq, Int.reduceBEq, c12, r12, hx.len, hy.len, h', he]

theorem lent_take (l : List B8) : (lent l).take l.length = l := by
  apply gb_ext
  · simp [lent_len]
  · intro i hi
    simp only [List.length_take, lent_len] at hi
    simp only [gb, List.getD_eq_getElem?_getD, List.getElem?_take_of_lt (show i < l.length by omega), lent, tab_get _ (show i < l.length + 5 by omega), if_pos (show i < l.length by omega), Option.getD_some]
theorem ans_lentbytes {m : Mem} {x : AV} {l : List B8} (hx : RdB m x l) (hl : l.length < 1099511627000) : Ans Tryd.prog 13 [x] m fun r m' => ∃ p, r = .sl p 0 (l.length + 5) (l.length + 5) 0 ∧ Kept [] m m' ∧ m.length ≤ p ∧ own m' p = some (bys (lent l)) := by
  refine ans_ret mixed ok13 ?_
  have hmk : (0 : Int) ≤ ((l.length + 5 : Nat) : Int) ∧ ((l.length + 5 : Nat) : Int) ≤ ((l.length + 5 : Nat) : Int) ∧ ((l.length + 5 : Nat) : Int) * 1 ≤ 1099511627776 ∧ ((l.length + 5 : Nat) : Int) ≤ 1099511627776 := by omega
  simp -implicitDefEqProofs (disch := (first | omega | (simp only [lenB, lent_len] <;> omega) | fail)) only [admQ, lenB, lent_len, aFill, AK.cls, implies_true, ↓reduceIte, reduceCtorEq, if_true, if_false, Nat.reduceAdd, Nat.reduceEqDiff, Nat.reduceMod, Nat.reduceLT, Nat.reduceLeDiff, Nat.reduceSub, Nat.reduceMul, Nat.reduceBEq, Int.reduceAdd, Int.reduceSub, Int.reduceMul, Int.reduceNeg, Int.reduceLT, Int.reduceLE, Int.reduceToNat, Int.reduceEq, Int.reduceBEq, c13, r13, hx.len]
  have hr : rep (l.length + 5) [AV.int .u8 0] = bys (List.replicate (l.length + 5) 0#8) := by rw [← bys_rep]; simp [rep]
  simp -implicitDefEqProofs (disch := (first | omega | (simp only [lenB, lent_len] <;> omega) | fail)) only [admQ, lenB, lent_len, aFill, AK.cls, implies_true, ↓reduceIte, reduceCtorEq, if_true, if_false, Nat.reduceAdd, Nat.reduceEqDiff, Nat.reduceMod, Nat.reduceLT, Nat.reduceLeDiff, Nat.reduceSub, Nat.reduceMul, Nat.reduceBEq, Int.reduceAdd, Int.reduceSub, Int.reduceMul, Int.reduceNeg, Int.reduceLT, Int.reduceLE, Int.reduceToNat, Int.reduceEq, Int.reduceBEq, hr]
  let f : Nat → B8 := fun j => if j < l.length then gb l j else 165#8
  refine LoopW.on (fun i : Nat => [(0, x), (3, .sl m.length 0 (l.length + 5) (l.length + 5) 0), (4, .int .i64 i)]) (fun i => l.length + 5 - i) (fun i m' => i ≤ l.length + 5 ∧ m' = m ++ [.row (bys (upTo (l.length + 5) f (fun _ => 0#8) i)) false]) ?_ 0 _ _ rfl ⟨by omega, by rw [upTo_zero, tab_const]⟩
  rintro i m' X ⟨hi, rfl⟩ hX
  by_cases hlt : i < l.length + 5
  · have hxA := hx.app [.row (bys ((upTo (l.length + 5) f (fun _ => 0#8) i).set i 165#8)) false]
    have hsp : splice (bys (upTo (l.length + 5) f (fun _ => 0#8) i)) i [.int .u8 165] = _ := splice_byte (l := upTo (l.length + 5) f (fun _ => 0#8) i) (i := i) (x := 165#8) (by rw [upTo_len]; exact hlt)
    have hu : (upTo (l.length + 5) f (fun _ => 0#8) i).set i (f i) = _ := upTo_set
    by_cases h2 : i < l.length
    · obtain ⟨b, o, cap, s, c, rfl, hr1, hg1, _⟩ := hxA.cons h2
      have e1 := hg1 i h2
      have hf : f i = gb l i := if_pos h2
      rw [hf] at hu
      have hss : ((upTo (l.length + 5) f (fun _ => 0#8) i).set i 165#8).set i (gb l i) = upTo (l.length + 5) f (fun _ => 0#8) (i + 1) := by rw [List.set_set]; exact hu
      clear_value f
      simp -implicitDefEqProofs (disch := (first | omega | (simp only [lenB, lent_len] <;> omega) | fail)) only [admQ, lenB, lent_len, aFill, AK.cls, implies_true, ↓reduceIte, reduceCtorEq, if_true, if_false, Nat.reduceAdd, Nat.reduceEqDiff, Nat.reduceMod, Nat.reduceLT, Nat.reduceLeDiff, Nat.reduceSub, Nat.reduceMul, Nat.reduceBEq, Int.reduceAdd, Int.reduceSub, Int.reduceMul, Int.reduceNeg, Int.reduceLT, Int.reduceLE, Int.reduceToNat, Int.reduceEq, Int.reduceBEq, hx.len, hsp, hr1, e1, splice_byte, hss]
      exact hX (i + 1) _ _ rfl (by omega) ⟨by omega, rfl⟩
    · have hf : f i = 165#8 := if_neg h2
      rw [hf] at hu
      clear_value f
      simp -implicitDefEqProofs (disch := (first | omega | (simp only [lenB, lent_len] <;> omega) | fail)) only [admQ, lenB, lent_len, aFill, AK.cls, implies_true, ↓reduceIte, reduceCtorEq, if_true, if_false, Nat.reduceAdd, Nat.reduceEqDiff, Nat.reduceMod, Nat.reduceLT, Nat.reduceLeDiff, Nat.reduceSub, Nat.reduceMul, Nat.reduceBEq, Int.reduceAdd, Int.reduceSub, Int.reduceMul, Int.reduceNeg, Int.reduceLT, Int.reduceLE, Int.reduceToNat, Int.reduceEq, Int.reduceBEq, hx.len, hsp, hu]
      exact hX (i + 1) _ _ rfl (by omega) ⟨by omega, rfl⟩
  · obtain rfl : i = l.length + 5 := by omega
    have hu : upTo (l.length + 5) f (fun _ => 0#8) (l.length + 5) = lent l := upTo_all _ _ _
    simp -implicitDefEqProofs (disch := (first | omega | (simp only [lenB, lent_len] <;> omega) | fail)) only [admQ, lenB, lent_len, aFill, AK.cls, implies_true, ↓reduceIte, reduceCtorEq, if_true, if_false, Nat.reduceAdd, Nat.reduceEqDiff, Nat.reduceMod, Nat.reduceLT, Nat.reduceLeDiff, Nat.reduceSub, Nat.reduceMul, Nat.reduceBEq, Int.reduceAdd, Int.reduceSub, Int.reduceMul, Int.reduceNeg, Int.reduceLT, Int.reduceLE, Int.reduceToNat, Int.reduceEq, Int.reduceBEq, hu]
    exact ⟨m.length, rfl, .app _ _ _, by omega, by simp -implicitDefEqProofs (disch := (first | omega | (simp only [lenB, lent_len] <;> omega) | fail)) only [admQ, lenB, lent_len, aFill, AK.cls, implies_true, ↓reduceIte, reduceCtorEq, if_true, if_false, Nat.reduceAdd, Nat.reduceEqDiff, Nat.reduceMod, Nat.reduceLT, Nat.reduceLeDiff, Nat.reduceSub, Nat.reduceMul, Nat.reduceBEq, Int.reduceAdd, Int.reduceSub, Int.reduceMul, Int.reduceNeg, Int.reduceLT, Int.reduceLE, Int.reduceToNat, Int.reduceEq, Int.reduceBEq]⟩
theorem ans_keptbytes {m : Mem} {x y : AV} {a l : List B8} (hx : RdB m x a) (hy : RdB m y l) (hl : l.length < 1152921504606846976) : Ans Tryd.prog 15 [x, y] m fun r m' => r = .bool (a == lent l) ∧ m' = m := by
  refine ans_ret mixed ok15 ?_
  by_cases h : a.length = l.length + 5
  · obtain ⟨b1, o1, cap1, s1, c1, rfl, hr1, hg1, hl1, hc1, hs1, ht1⟩ := hx.cons (show 0 < a.length by omega)
    have h' : ((a.length : Int) == ((l.length + 5 : Nat) : Int)) = true := by rw [h]; simp
    simp -implicitDefEqProofs (disch := (first | omega | (simp only [lenB, lent_len] <;> omega) | fail)) only [admQ, lenB, lent_len, aFill, AK.cls, implies_true, ↓reduceIte, reduceCtorEq, if_true, if_false, Nat.reduceAdd, Nat.reduceEqDiff, Nat.reduceMod, Nat.reduceLT, Nat.reduceLeDiff, Nat.reduceSub, Nat.reduceMul, Nat.reduceBEq, Int.reduceAdd, Int.reduceSub, Int.reduceMul, Int.reduceNeg, Int.reduceLT, Int.reduceLE, Int.reduceToNat, Int.reduceEq, Int.reduceBEq, c15, r15, hx.len, hy.len, h']
    refine (ans_samebytes (hx.take (k := l.length) (by omega)) hy (by simp; omega)).mono ?_
    rintro _ m1 ⟨rfl, rfl⟩
    cases he : a.take l.length == l
    · have hne : (a == lent l) = false := by
        rw [beq_eq_false_iff_ne]; rintro rfl; rw [lent_take] at he; simp at he
      simp -implicitDefEqProofs (disch := (first | omega | (simp only [lenB, lent_len] <;> omega) | fail)) only [admQ, lenB, lent_len, aFill, AK.cls, implies_true, ↓reduceIte, reduceCtorEq, if_true, if_false, Nat.reduceAdd, Nat.reduceEqDiff, Nat.reduceMod, Nat.reduceLT, Nat.reduceLeDiff, Nat.reduceSub, Nat.reduceMul, Nat.reduceBEq, Int.reduceAdd, Int.reduceSub, Int.reduceMul, Int.reduceNeg, Int.reduceLT, Int.reduceLE, Int.reduceToNat, Int.reduceEq, Int.reduceBEq, hne]
    · simp -implicitDefEqProofs (disch := (first | omega | (simp only [lenB, lent_len] <;> omega) | fail)) only [admQ, lenB, lent_len, aFill, AK.cls, implies_true, ↓reduceIte, reduceCtorEq, if_true, if_false, Nat.reduceAdd, Nat.reduceEqDiff, Nat.reduceMod, Nat.reduceLT, Nat.reduceLeDiff, Nat.reduceSub, Nat.reduceMul, Nat.reduceBEq, Int.reduceAdd, Int.reduceSub, Int.reduceMul, Int.reduceNeg, Int.reduceLT, Int.reduceLE, Int.reduceToNat, Int.reduceEq, Int.reduceBEq, hy.len]
      refine LoopW.on (fun i : Nat => [(0, .sl b1 o1 a.length cap1 s1), (5, .int .i64 i)]) (fun i => a.length - i) (fun i m' => m' = m1 ∧ i ≤ a.length ∧ l.length ≤ i ∧ ∀ j, j < i → gb a j = gb (lent l) j) ?_ l.length _ _ rfl ⟨rfl, by omega, by omega, fun j hj => ?_⟩
      · rintro i _ X ⟨rfl, hi, hi2, hj⟩ hX
        by_cases hlt : i < a.length
        · have e1 := hg1 i hlt
          have e2 : gb (lent l) i = 165#8 := by rw [lent, gb_tab _ (by omega), if_neg (by omega)]
          cases he2 : gb a i == 165#8
          · have hne : (a == lent l) = false := by
              rw [beq_eq_false_iff_ne]; rintro rfl; rw [e2] at he2; simp at he2
            simp -implicitDefEqProofs (disch := (first | omega | (simp only [lenB, lent_len] <;> omega) | fail)) only [admQ, lenB, lent_len, aFill, AK.cls, implies_true, ↓reduceIte, reduceCtorEq, if_true, if_false, Nat.reduceAdd, Nat.reduceEqDiff, Nat.reduceMod, Nat.reduceLT, Nat.reduceLeDiff, Nat.reduceSub, Nat.reduceMul, Nat.reduceBEq, Int.reduceAdd, Int.reduceSub, Int.reduceMul, Int.reduceNeg, Int.reduceLT, Int.reduceLE, Int.reduceToNat, Int.reduceEq, Int.reduceBEq, hr1, e1, beql_u8 (show 165 < 2 ^ 8 by decide), he2, hne]
          · simp -implicitDefEqProofs (disch := (first | omega | (simp only [lenB, lent_len] <;> omega) | fail)) only [admQ, lenB, lent_len, aFill, AK.cls, implies_true, ↓reduceIte, reduceCtorEq, if_true, if_false, Nat.reduceAdd, Nat.reduceEqDiff, Nat.reduceMod, Nat.reduceLT, Nat.reduceLeDiff, Nat.reduceSub, Nat.reduceMul, Nat.reduceBEq, Int.reduceAdd, Int.reduceSub, Int.reduceMul, Int.reduceNeg, Int.reduceLT, Int.reduceLE, Int.reduceToNat, Int.reduceEq, Int.reduceBEq, hr1, e1, beql_u8 (show 165 < 2 ^ 8 by decide), he2]
            refine hX (i + 1) _ _ rfl (by omega) ⟨rfl, by omega, by omega, fun j hj2 => ?_⟩
            by_cases hji : j = i
            · subst hji; rw [e2]; simpa using he2
            · exact hj j (by omega)
        · have he2 : (a == lent l) = true := by rw [beq_iff_eq]; exact gb_ext (by rw [lent_len]; omega) fun j hj2 => hj j (by omega)
          simp -implicitDefEqProofs (disch := (first | omega | (simp only [lenB, lent_len] <;> omega) | fail)) only [admQ, lenB, lent_len, aFill, AK.cls, implies_true, ↓reduceIte, reduceCtorEq, if_true, if_false, Nat.reduceAdd, Nat.reduceEqDiff, Nat.reduceMod, Nat.reduceLT, Nat.reduceLeDiff, Nat.reduceSub, Nat.reduceMul, Nat.reduceBEq, Int.reduceAdd, Int.reduceSub, Int.reduceMul, Int.reduceNeg, Int.reduceLT, Int.reduceLE, Int.reduceToNat, Int.reduceEq, Int.reduceBEq, he2]
      · rw [beq_iff_eq] at he
        have e1 : gb a j = gb l j := by rw [← he]; simp [gb, List.getElem?_take_of_lt hj]
        rw [e1, lent, gb_tab _ (by omega), if_pos hj]
  · have h' : ((a.length : Int) == ((l.length + 5 : Nat) : Int)) = false := by rw [beq_eq_false_iff_ne]; omega
    have he : (a == lent l) = false := by rw [beq_eq_false_iff_ne]; rintro rfl; exact h (lent_len l)
    simp -implicitDefEqProofs (disch := (first | omega | (simp only [lenB, lent_len] <;> omega) | fail)) only [admQ, lenB, lent_len, aFill, AK.cls, implies_true, ↓reduceIte, reduceCtorEq, if_true, if_false, Nat.reduceAdd, Nat.reduceEqDiff, Nat.reduceMod, Nat.reduceLT, Nat.reduceLeDiff, Nat.reduceSub, Nat.reduceMul, Nat.reduceBEq, Int.reduceAdd, Int.reduceSub, Int.reduceMul, Int.reduceNeg, Int.reduceLT, Int.reduceLE, Int.reduceToNat, Int.reduceEq, Int.reduceBEq, c15, r15, hx.len, hy.len, h', he]
def spoil (l : List B8) : List B8 := tab l.length fun j => gb l j ^^^ 90#8
theorem ans_spoilbytes {m : Mem} {p cap s : Nat} {l : List B8} (hp : own m p = some (bys l)) (hl : l.length < 1152921504606846976) : Ans Tryd.prog 16 [.sl p 0 l.length cap s] m fun r m' => r = .tup [] ∧ m' = m.set p (.row (bys (spoil l)) false) := by
  refine ans_ret mixed ok16 ?_
  simp -implicitDefEqProofs (disch := (first | omega | (simp only [lenB, lent_len] <;> omega) | fail)) only [admQ, lenB, lent_len, aFill, AK.cls, implies_true, ↓reduceIte, reduceCtorEq, if_true, if_false, Nat.reduceAdd, Nat.reduceEqDiff, Nat.reduceMod, Nat.reduceLT, Nat.reduceLeDiff, Nat.reduceSub, Nat.reduceMul, Nat.reduceBEq, Int.reduceAdd, Int.reduceSub, Int.reduceMul, Int.reduceNeg, Int.reduceLT, Int.reduceLE, Int.reduceToNat, Int.reduceEq, Int.reduceBEq, c16, r16]
  let f : Nat → B8 := fun j => gb l j ^^^ 90#8
  refine LoopW.on (fun i : Nat => [(0, .sl p 0 l.length cap s), (2, .int .i64 i)]) (fun i => l.length - i) (fun i m' => i ≤ l.length ∧ m' = m.set p (.row (bys (upTo l.length f (gb l) i)) false)) ?_ 0 _ _ rfl ⟨by omega, ?_⟩
  · rintro i m' X ⟨hi, rfl⟩ hX
    have ho := own_set (own_lt hp) (bys (upTo l.length f (gb l) i))
    by_cases hlt : i < l.length
    · have hu : (upTo l.length f (gb l) i).set i (gb l i ^^^ 90#8) = _ := upTo_set (f := f)
      clear_value f
      simp -implicitDefEqProofs (disch := (first | omega | (simp only [lenB, lent_len] <;> omega) | fail)) only [admQ, lenB, lent_len, aFill, AK.cls, implies_true, ↓reduceIte, reduceCtorEq, if_true, if_false, Nat.reduceAdd, Nat.reduceEqDiff, Nat.reduceMod, Nat.reduceLT, Nat.reduceLeDiff, Nat.reduceSub, Nat.reduceMul, Nat.reduceBEq, Int.reduceAdd, Int.reduceSub, Int.reduceMul, Int.reduceNeg, Int.reduceLT, Int.reduceLE, Int.reduceToNat, Int.reduceEq, Int.reduceBEq, ho, rowOf_own ho, splice_byte, hu, List.set_set]
      exact hX (i + 1) _ _ rfl (by omega) ⟨by omega, rfl⟩
    · obtain rfl : i = l.length := by omega
      have hu : upTo l.length f (gb l) l.length = spoil l := upTo_all _ _ _
      simp -implicitDefEqProofs (disch := (first | omega | (simp only [lenB, lent_len] <;> omega) | fail)) only [admQ, lenB, lent_len, aFill, AK.cls, implies_true, ↓reduceIte, reduceCtorEq, if_true, if_false, Nat.reduceAdd, Nat.reduceEqDiff, Nat.reduceMod, Nat.reduceLT, Nat.reduceLeDiff, Nat.reduceSub, Nat.reduceMul, Nat.reduceBEq, Int.reduceAdd, Int.reduceSub, Int.reduceMul, Int.reduceNeg, Int.reduceLT, Int.reduceLE, Int.reduceToNat, Int.reduceEq, Int.reduceBEq, hu]
  · rw [upTo_zero, tab_gb rfl, set_same hp]
end Go.Proofs.YtdmdakaliilghaaDoor
end
