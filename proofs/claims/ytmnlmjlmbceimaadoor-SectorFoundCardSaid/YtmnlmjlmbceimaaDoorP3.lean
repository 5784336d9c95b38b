/- Texts of this seat, joined (part 3 of 5): an abstract memory for Go programs, this seat's functions as abstract code, and what each of them does. -/
import Derived.Test.YtmnlmjlmbceimaaDoorProg
import Derived.KernelRfl
import Derived.Test.YtmnlmjlmbceimaaDoorP2
set_option linter.unusedSimpArgs false
section
/- The abstract code of the functions, printed by a program of this session (gencode.py), and checked against the loaded program. -/
namespace Go.Proofs.YtmnlmjlmbceimaaDoor
open Go.Adm
abbrev ox (d : Nat) (k : AK) (xs : List AX) : AOper := ⟨some d, k, xs, none, 0, 0⟩
abbrev oy (k : AK) (xs : List AX) : AOper := ⟨none, k, xs, none, 0, 0⟩
abbrev og (d : Nat) (k : AK) (xs : List AX) (j : Nat) (b : Bool) : AOper := ⟨some d, k, xs, some (j, b), 0, 0⟩
abbrev od (d : Nat) (k : AK) (xs : List AX) (lo hi : Nat) : AOper := ⟨some d, k, xs, none, lo, hi⟩
abbrev oe (k : AK) (xs : List AX) (lo hi : Nat) : AOper := ⟨none, k, xs, none, lo, hi⟩
abbrev oh (d : Nat) (k : AK) (xs : List AX) (j : Nat) (b : Bool) (lo hi : Nat) : AOper := ⟨some d, k, xs, some (j, b), lo, hi⟩
theorem mixed : Tryd.prog.follows .mixedOrders = true := by kernel_rfl
/-- rill/rilllaw11.SectorBack -/
def c3 : ACode :=
 (.seq
 (.ops [0, 3] [
 ox 3 .box [.t 1],
 ox 4 .mv [.c (.bool false)]])
 (.seq
 (.seq
 (.ops [0, 3, 19] [
 ox 11 .mv [.t 0],
 ox 12 .len [.t 11],
 ox 13 (.cmp .gtr) [.t 12, .c (.int .i64 4096)],
 ox 14 .mv [.t 13],
 og 15 (.fieldAddr 4) [.t 3] 14 false,
 og 16 (.load false 1) [.t 15] 14 false,
 og 17 .len [.t 16] 14 false,
 og 18 (.cmp .gtr) [.t 17, .c (.int .i64 4096)] 14 false,
 ox 19 .pick [.t 14, .c (.bool true), .t 18]])
 (.cond (.t 19)
 (.seq
 (.ops [4] [
 ox 20 (.call 8) [],
 ox 4 .mv [.t 20]])
 .ret)
 .skip))
 (.seq
 (.ops [3, 5] [
 ox 21 .mv [.t 0],
 ox 22 (.call 9) [.t 21],
 ox 23 (.iface 26) [.t 22],
 ox 24 (.call 10) [],
 ox 25 (.iface 28) [.t 24],
 ox 26 (.mkSl 2 [.nili, .nili] [(0, 1), (1, 1)]) [.t 23, .t 25],
 ox 5 .mv [.t 26]])
 (.seq
 (.seq
 (.ops [3, 5, 6] [
 ox 6 .mv [.c (.int .i64 0)]])
 (.block 0
 (.loop [3, 5, 6]
 (.seq
 (.seq
 (.ops [3, 5, 6, 28] [
 ox 27 .mv [.t 6],
 ox 28 (.cmp .lss) [.t 27, .c (.int .i64 2)]])
 (.cond (.t 28)
 .skip
 (.exit 0)))
 (.seq
 (.block 1
 (.seq
 (.drawn [3, 5, 6, 7, 8] [
 ox 32 .mv [.t 5],
 ox 33 .mv [.t 6],
 ox 34 (.idxAddr 1) [.t 32, .t 33],
 ox 35 (.load false 1) [.t 34],
 ox 36 (.load true 5) [.t 3],
 od 37 (.call 11) [.t 35, .t 36] 0 1,
 od 31 .mv [.t 37] 1 1,
 od 38 (.extract 0) [.t 31] 1 1,
 od 39 (.extract 1) [.t 31] 1 1,
 od 7 .mv [.t 38] 1 1,
 od 8 .mv [.t 39] 1 1])
 (.seq
 (.seq
 (.ops [3, 5, 6, 7, 8, 42] [
 ox 40 (.load true 5) [.t 3],
 ox 41 (.call 12) [.t 40],
 ox 42 .not [.t 41]])
 (.cond (.t 42)
 (.seq
 (.seq
 (.ops [3, 5, 6, 49] [
 ox 43 .mv [.t 8],
 ox 44 (.eq false .int) [.t 43, .c (.int .i64 0)],
 ox 45 .mv [.t 44],
 og 46 .mv [.t 7] 45 false,
 og 47 .len [.t 46] 45 false,
 og 48 (.cmp .gtr) [.t 47, .c (.int .i64 0)] 45 false,
 ox 49 .pick [.t 45, .c (.bool true), .t 48]])
 (.cond (.t 49)
 (.seq
 (.ops [4] [
 ox 4 .mv [.c (.bool false)]])
 .ret)
 .skip))
 (.exit 1))
 .skip))
 (.seq
 (.drawn [3, 5, 6, 7, 8, 9, 10] [
 ox 51 .mv [.t 5],
 ox 52 .mv [.t 6],
 ox 53 (.idxAddr 1) [.t 51, .t 52],
 ox 54 (.load false 1) [.t 53],
 ox 55 (.fieldAddr 0) [.t 3],
 ox 56 (.load false 1) [.t 55],
 ox 57 (.fieldAddr 3) [.t 3],
 ox 58 (.load false 1) [.t 57],
 ox 59 .mv [.t 7],
 od 60 (.call 13) [.t 54, .t 56, .t 58, .t 59] 0 1,
 od 50 .mv [.t 60] 1 1,
 od 61 (.extract 0) [.t 50] 1 1,
 od 62 (.extract 1) [.t 50] 1 2,
 od 9 (.alloc [.int .i64 0, .int .i64 0, .int .i64 0, .int .i64 0, .nils]) [] 0 1,
 oe (.store 5) [.t 9, .t 61] 1 2,
 od 10 .mv [.t 62] 2 2])
 (.seq
 (.drawn [3, 5, 6, 90] [
 ox 63 .mv [.t 8],
 ox 64 (.eq true .int) [.t 63, .c (.int .i64 0)],
 ox 65 .mv [.t 64],
 og 66 .mv [.t 10] 65 false,
 og 67 (.eq true .int) [.t 66, .c (.int .i64 0)] 65 false,
 ox 68 .pick [.t 65, .c (.bool true), .t 67],
 ox 69 .mv [.t 68],
 og 70 (.load true 5) [.t 9] 69 false,
 og 71 (.load true 5) [.t 3] 69 false,
 oh 72 (.call 14) [.t 70, .t 71] 69 false 0 1,
 oh 73 .not [.t 72] 69 false 1 1,
 od 74 .pick [.t 69, .c (.bool true), .t 73] 1 1,
 od 75 .mv [.t 74] 1 1,
 oh 76 .mv [.t 7] 75 false 1 1,
 oh 77 .len [.t 76] 75 false 1 1,
 oh 78 (.fieldAddr 4) [.t 3] 75 false 1 1,
 oh 79 (.load false 1) [.t 78] 75 false 1 1,
 oh 80 .len [.t 79] 75 false 1 1,
 oh 81 (.arith .add) [.c (.int .i64 49), .t 80] 75 false 1 1,
 oh 82 (.eq true .int) [.t 77, .t 81] 75 false 1 1,
 od 83 .pick [.t 75, .c (.bool true), .t 82] 1 1,
 od 84 .mv [.t 83] 1 1,
 oh 85 .mv [.t 7] 84 false 1 1,
 oh 86 (.call 15) [.t 85] 84 false 1 2,
 oh 87 (.fieldAddr 0) [.t 3] 84 false 1 2,
 oh 88 (.load false 1) [.t 87] 84 false 1 2,
 oh 89 (.eq true .int) [.t 86, .t 88] 84 false 2 2,
 od 90 .pick [.t 84, .c (.bool true), .t 89] 2 2])
 (.cond (.t 90)
 (.seq
 (.ops [4] [
 ox 4 .mv [.c (.bool false)]])
 .ret)
 .skip))))))
 (.ops [3, 5, 6] [
 ox 29 .mv [.t 6],
 ox 30 (.arith .add) [.t 29, .c (.int .i64 1)],
 ox 6 .mv [.t 30]]))))))
 (.seq
 (.ops [4] [
 ox 91 (.call 8) [],
 ox 4 .mv [.t 91]])
 .ret)))))
def r3 : List ARes := [.tmp 4]
/-- rill/rilllaw11.SectorOnly -/
def c4 : ACode :=
 (.seq
 (.ops [0, 2, 4] [
 ox 4 .box [.t 1],
 ox 6 .mv [.c (.bool false)]])
 (.seq
 (.seq
 (.ops [0, 2, 4, 19] [
 ox 12 .mv [.t 0],
 ox 13 .len [.t 12],
 ox 14 (.cmp .gtr) [.t 13, .c (.int .i64 4096)],
 ox 15 .mv [.t 14],
 og 16 .mv [.t 2] 15 false,
 og 17 .len [.t 16] 15 false,
 og 18 (.cmp .gtr) [.t 17, .c (.int .i64 4096)] 15 false,
 ox 19 .pick [.t 15, .c (.bool true), .t 18]])
 (.cond (.t 19)
 (.seq
 (.ops [6] [
 ox 20 (.call 8) [],
 ox 6 .mv [.t 20]])
 .ret)
 .skip))
 (.seq
 (.ops [2, 4, 7] [
 ox 21 .mv [.t 0],
 ox 22 (.call 9) [.t 21],
 ox 7 .mv [.t 22]])
 (.seq
 (.ops [2, 4, 7, 8, 9] [
 ox 24 .mv [.t 7],
 ox 25 (.iface 26) [.t 24],
 ox 26 (.fieldAddr 0) [.t 4],
 ox 27 (.load false 1) [.t 26],
 ox 28 (.fieldAddr 1) [.t 4],
 ox 29 (.load false 1) [.t 28],
 ox 30 .mv [.t 2],
 ox 31 (.call 13) [.t 25, .t 27, .t 29, .t 30],
 ox 23 .mv [.t 31],
 ox 32 (.extract 0) [.t 23],
 ox 33 (.extract 1) [.t 23],
 ox 8 (.alloc [.int .i64 0, .int .i64 0, .int .i64 0, .int .i64 0, .nils]) [],
 oy (.store 5) [.t 8, .t 32],
 ox 9 .mv [.t 33]])
 (.seq
 (.seq
 (.ops [2, 4, 7, 8, 35] [
 ox 34 .mv [.t 9],
 ox 35 (.eq true .int) [.t 34, .c (.int .i64 0)]])
 (.cond (.t 35)
 (.seq
 (.ops [6] [
 ox 36 (.load true 5) [.t 8],
 ox 37 (.build [.int .i64 0, .int .i64 0, .int .i64 0, .int .i64 0, .nils] []) [],
 ox 38 (.call 14) [.t 36, .t 37],
 ox 39 .mv [.t 38],
 og 40 (.call 8) [] 39 true,
 ox 41 .pick [.t 39, .t 40, .c (.bool false)],
 ox 6 .mv [.t 41]])
 .ret)
 .skip))
 (.seq
 (.ops [2, 4, 8, 10, 11] [
 ox 43 .mv [.t 7],
 ox 44 (.iface 26) [.t 43],
 ox 45 (.load true 5) [.t 8],
 ox 46 (.call 11) [.t 44, .t 45],
 ox 42 .mv [.t 46],
 ox 47 (.extract 0) [.t 42],
 ox 48 (.extract 1) [.t 42],
 ox 10 .mv [.t 47],
 ox 11 .mv [.t 48]])
 (.seq
 (.ops [6] [
 ox 49 .mv [.t 11],
 ox 50 (.eq false .int) [.t 49, .c (.int .i64 0)],
 ox 51 .mv [.t 50],
 og 52 .mv [.t 10] 51 true,
 og 53 .mv [.t 2] 51 true,
 og 54 (.call 16) [.t 52, .t 53] 51 true,
 ox 55 .pick [.t 51, .t 54, .c (.bool false)],
 ox 56 .mv [.t 55],
 og 57 (.fieldAddr 0) [.t 8] 56 true,
 og 58 (.load false 1) [.t 57] 56 true,
 og 59 (.fieldAddr 0) [.t 4] 56 true,
 og 60 (.load false 1) [.t 59] 56 true,
 og 61 (.eq false .int) [.t 58, .t 60] 56 true,
 ox 62 .pick [.t 56, .t 61, .c (.bool false)],
 ox 63 .mv [.t 62],
 og 64 (.fieldAddr 3) [.t 8] 63 true,
 og 65 (.load false 1) [.t 64] 63 true,
 og 66 (.fieldAddr 1) [.t 4] 63 true,
 og 67 (.load false 1) [.t 66] 63 true,
 og 68 (.eq false .int) [.t 65, .t 67] 63 true,
 ox 69 .pick [.t 63, .t 68, .c (.bool false)],
 ox 70 .mv [.t 69],
 og 71 (.call 8) [] 70 true,
 ox 72 .pick [.t 70, .t 71, .c (.bool false)],
 ox 6 .mv [.t 72]])
 .ret)))))))
def r4 : List ARes := [.tmp 6]
/-- rill/rilllaw11.SectorFound -/
def c5 : ACode :=
 (.seq
 (.ops [0, 2, 4] [
 ox 4 .box [.t 1],
 ox 6 .mv [.c (.bool false)]])
 (.seq
 (.seq
 (.ops [0, 2, 4, 26] [
 ox 24 .mv [.t 2],
 ox 25 .len [.t 24],
 ox 26 (.cmp .gtr) [.t 25, .c (.int .i64 4096)]])
 (.cond (.t 26)
 (.seq
 (.ops [6] [
 ox 27 (.call 8) [],
 ox 6 .mv [.t 27]])
 .ret)
 .skip))
 (.seq
 (.ops [0, 2, 4, 7] [
 ox 28 (.call 10) [],
 ox 7 .mv [.t 28]])
 (.seq
 (.ops [0, 2, 4, 7, 8] [
 ox 8 .mv [.c (.bool false)]])
 (.seq
 (.ops [0, 2, 4, 7, 8, 9] [
 ox 9 .mv [.c .nils]])
 (.seq
 (.seq
 (.ops [0, 2, 4, 7, 8, 9, 10] [
 ox 10 .mv [.c (.int .i64 0)]])
 (.block 0
 (.loop [0, 2, 4, 7, 8, 9, 10]
 (.seq
 (.seq
 (.ops [0, 2, 4, 7, 8, 9, 10, 36] [
 ox 29 .mv [.t 10],
 ox 30 .mv [.t 0],
 ox 31 .len [.t 30],
 ox 32 (.cmp .lss) [.t 29, .t 31],
 ox 33 .mv [.t 32],
 og 34 .mv [.t 10] 33 true,
 og 35 (.cmp .lss) [.t 34, .c (.int .i64 30)] 33 true,
 ox 36 .pick [.t 33, .t 35, .c (.bool false)]])
 (.cond (.t 36)
 .skip
 (.exit 0)))
 (.seq
 (.block 1
 (.seq
 (.seq
 (.ops [0, 2, 4, 7, 8, 9, 10, 45] [
 ox 39 .mv [.t 0],
 ox 40 .mv [.t 10],
 ox 41 (.idxAddr 5) [.t 39, .t 40],
 ox 42 (.fieldAddr 4) [.t 41],
 ox 43 (.load false 1) [.t 42],
 ox 44 .len [.t 43],
 ox 45 (.cmp .gtr) [.t 44, .c (.int .i64 1024)]])
 (.cond (.t 45)
 (.seq
 (.ops [6] [
 ox 46 (.call 8) [],
 ox 6 .mv [.t 46]])
 .ret)
 .skip))
 (.seq
 (.ops [0, 2, 4, 7, 8, 9, 10, 11, 12] [
 ox 48 .mv [.t 7],
 ox 49 (.iface 28) [.t 48],
 ox 50 .mv [.t 0],
 ox 51 .mv [.t 10],
 ox 52 (.idxAddr 5) [.t 50, .t 51],
 ox 53 (.load true 5) [.t 52],
 ox 54 (.call 11) [.t 49, .t 53],
 ox 47 .mv [.t 54],
 ox 55 (.extract 0) [.t 47],
 ox 56 (.extract 1) [.t 47],
 ox 11 .mv [.t 55],
 ox 12 .mv [.t 56]])
 (.seq
 (.seq
 (.ops [0, 2, 4, 7, 8, 9, 10, 11, 58] [
 ox 57 .mv [.t 12],
 ox 58 (.eq true .int) [.t 57, .c (.int .i64 0)]])
 (.cond (.t 58)
 (.exit 1)
 .skip))
 (.seq
 (.ops [0, 2, 4, 7, 8, 9, 10, 11] [
 ox 59 .mv [.t 11],
 ox 9 .mv [.t 59]])
 (.drawn [0, 2, 4, 7, 8, 9, 10] [
 ox 60 .mv [.t 8],
 ox 61 .mv [.t 60],
 og 62 .mv [.t 0] 61 false,
 og 63 .mv [.t 10] 61 false,
 og 64 (.idxAddr 5) [.t 62, .t 63] 61 false,
 og 65 (.fieldAddr 0) [.t 64] 61 false,
 og 66 (.load false 1) [.t 65] 61 false,
 og 67 (.fieldAddr 0) [.t 4] 61 false,
 og 68 (.load false 1) [.t 67] 61 false,
 og 69 (.eq false .int) [.t 66, .t 68] 61 false,
 og 70 .mv [.t 69] 61 false,
 og 71 .mv [.t 0] 70 true,
 og 72 .mv [.t 10] 70 true,
 og 73 (.idxAddr 5) [.t 71, .t 72] 70 true,
 og 74 (.fieldAddr 3) [.t 73] 70 true,
 og 75 (.load false 1) [.t 74] 70 true,
 og 76 (.fieldAddr 1) [.t 4] 70 true,
 og 77 (.load false 1) [.t 76] 70 true,
 og 78 (.eq false .int) [.t 75, .t 77] 70 true,
 og 79 .pick [.t 70, .t 78, .c (.bool false)] 61 false,
 og 80 .mv [.t 79] 61 false,
 og 81 .mv [.t 11] 80 true,
 og 82 .mv [.t 2] 80 true,
 oh 83 (.call 16) [.t 81, .t 82] 80 true 0 1,
 oh 84 .pick [.t 80, .t 83, .c (.bool false)] 61 false 1 1,
 od 85 .pick [.t 61, .c (.bool true), .t 84] 1 1,
 od 8 .mv [.t 85] 1 1]))))))
 (.ops [0, 2, 4, 7, 8, 9, 10] [
 ox 37 .mv [.t 10],
 ox 38 (.arith .add) [.t 37, .c (.int .i64 1)],
 ox 10 .mv [.t 38]]))))))
 (.seq
 (.ops [0, 2, 7, 8, 9, 13, 14] [
 ox 87 .mv [.t 7],
 ox 88 (.iface 28) [.t 87],
 ox 89 (.fieldAddr 0) [.t 4],
 ox 90 (.load false 1) [.t 89],
 ox 91 (.fieldAddr 1) [.t 4],
 ox 92 (.load false 1) [.t 91],
 ox 93 .mv [.t 2],
 ox 94 (.call 13) [.t 88, .t 90, .t 92, .t 93],
 ox 86 .mv [.t 94],
 ox 95 (.extract 0) [.t 86],
 ox 96 (.extract 1) [.t 86],
 ox 13 (.alloc [.int .i64 0, .int .i64 0, .int .i64 0, .int .i64 0, .nils]) [],
 oy (.store 5) [.t 13, .t 95],
 ox 14 .mv [.t 96]])
 (.seq
 (.seq
 (.ops [0, 2, 7, 9, 110] [
 ox 97 .mv [.t 14],
 ox 98 (.eq false .int) [.t 97, .c (.int .i64 0)],
 ox 99 .mv [.t 8],
 ox 100 (.eq true .bool) [.t 98, .t 99],
 ox 101 .mv [.t 100],
 og 102 .mv [.t 14] 101 false,
 og 103 (.eq true .int) [.t 102, .c (.int .i64 0)] 101 false,
 og 104 .mv [.t 103] 101 false,
 og 105 (.load true 5) [.t 13] 104 true,
 og 106 (.build [.int .i64 0, .int .i64 0, .int .i64 0, .int .i64 0, .nils] []) [] 104 true,
 og 107 (.call 14) [.t 105, .t 106] 104 true,
 og 108 .not [.t 107] 104 true,
 og 109 .pick [.t 104, .t 108, .c (.bool false)] 101 false,
 ox 110 .pick [.t 101, .c (.bool true), .t 109]])
 (.cond (.t 110)
 (.seq
 (.ops [6] [
 ox 6 .mv [.c (.bool false)]])
 .ret)
 .skip))
 (.seq
 (.seq
 (.ops [0, 2, 7, 9, 15] [
 ox 15 .mv [.c (.int .i64 0)]])
 (.block 2
 (.loop [0, 2, 7, 9, 15]
 (.seq
 (.seq
 (.ops [0, 2, 7, 9, 15, 114] [
 ox 111 .mv [.t 15],
 ox 112 .mv [.t 9],
 ox 113 .len [.t 112],
 ox 114 (.cmp .lss) [.t 111, .t 113]])
 (.cond (.t 114)
 .skip
 (.exit 2)))
 (.seq
 (.block 3
 (.seq
 (.ops [0, 2, 7, 9, 15, 16] [
 ox 117 .mv [.t 9],
 ox 118 (.call 17) [.t 117],
 ox 16 .mv [.t 118]])
 (.seq
 (.ops [0, 2, 7, 9, 15, 16] [
 ox 119 .mv [.t 16],
 ox 120 .mv [.t 15],
 ox 121 .mv [.t 16],
 ox 122 .mv [.t 15],
 ox 123 (.idxAddr 1) [.t 121, .t 122],
 ox 124 (.load false 1) [.t 123],
 ox 125 .mv [.t 2],
 ox 126 .len [.t 125],
 ox 127 (.arith .rem) [.t 126, .c (.int .i64 255)],
 ox 128 (.arith .add) [.c (.int .i64 1), .t 127],
 ox 129 (.conv .u8) [.t 128],
 ox 130 (.arith .xor) [.t 124, .t 129],
 ox 131 (.idxAddr 1) [.t 119, .t 120],
 oy (.store 1) [.t 131, .t 130]])
 (.seq
 (.ops [0, 2, 7, 9, 15, 16, 17] [
 ox 17 .mv [.c (.bool false)]])
 (.seq
 (.seq
 (.ops [0, 2, 7, 9, 15, 16, 17, 18] [
 ox 18 .mv [.c (.int .i64 0)]])
 (.block 4
 (.loop [0, 2, 7, 9, 15, 16, 17, 18]
 (.seq
 (.seq
 (.ops [0, 2, 7, 9, 15, 16, 17, 18, 143] [
 ox 132 .mv [.t 18],
 ox 133 .mv [.t 0],
 ox 134 .len [.t 133],
 ox 135 (.cmp .lss) [.t 132, .t 134],
 ox 136 .mv [.t 135],
 og 137 .mv [.t 18] 136 true,
 og 138 (.cmp .lss) [.t 137, .c (.int .i64 30)] 136 true,
 ox 139 .pick [.t 136, .t 138, .c (.bool false)],
 ox 140 .mv [.t 139],
 og 141 .mv [.t 17] 140 true,
 og 142 .not [.t 141] 140 true,
 ox 143 .pick [.t 140, .t 142, .c (.bool false)]])
 (.cond (.t 143)
 .skip
 (.exit 4)))
 (.seq
 (.block 5
 (.seq
 (.ops [0, 2, 7, 9, 15, 16, 18, 19, 20] [
 ox 147 .mv [.t 7],
 ox 148 (.iface 28) [.t 147],
 ox 149 .mv [.t 0],
 ox 150 .mv [.t 18],
 ox 151 (.idxAddr 5) [.t 149, .t 150],
 ox 152 (.load true 5) [.t 151],
 ox 153 (.call 11) [.t 148, .t 152],
 ox 146 .mv [.t 153],
 ox 154 (.extract 0) [.t 146],
 ox 155 (.extract 1) [.t 146],
 ox 19 .mv [.t 154],
 ox 20 .mv [.t 155]])
 (.ops [0, 2, 7, 9, 15, 16, 17, 18] [
 ox 156 .mv [.t 20],
 ox 157 (.eq false .int) [.t 156, .c (.int .i64 0)],
 ox 158 .mv [.t 157],
 og 159 .mv [.t 19] 158 true,
 og 160 .mv [.t 16] 158 true,
 og 161 (.call 16) [.t 159, .t 160] 158 true,
 ox 162 .pick [.t 158, .t 161, .c (.bool false)],
 ox 17 .mv [.t 162]])))
 (.ops [0, 2, 7, 9, 15, 16, 17, 18] [
 ox 144 .mv [.t 18],
 ox 145 (.arith .add) [.t 144, .c (.int .i64 1)],
 ox 18 .mv [.t 145]]))))))
 (.seq
 (.ops [0, 2, 7, 9, 15, 16, 17, 21] [
 ox 21 .mv [.c (.int .i64 0)]])
 (.block 6
 (.loop [0, 2, 7, 9, 15, 16, 17, 21]
 (.seq
 (.seq
 (.ops [0, 2, 7, 9, 15, 16, 17, 21, 175] [
 ox 163 .mv [.t 21],
 ox 164 .mv [.t 0],
 ox 165 .len [.t 164],
 ox 166 (.cmp .lss) [.t 163, .t 165],
 ox 167 .mv [.t 166],
 og 168 .mv [.t 21] 167 true,
 og 169 (.cmp .lss) [.t 168, .c (.int .i64 30)] 167 true,
 ox 170 .pick [.t 167, .t 169, .c (.bool false)],
 ox 171 .mv [.t 170],
 og 172 .mv [.t 15] 171 true,
 og 173 (.arith .rem) [.t 172, .c (.int .i64 7)] 171 true,
 og 174 (.eq false .int) [.t 173, .c (.int .i64 0)] 171 true,
 ox 175 .pick [.t 171, .t 174, .c (.bool false)]])
 (.cond (.t 175)
 .skip
 (.exit 6)))
 (.seq
 (.block 7
 (.seq
 (.drawn [0, 2, 7, 9, 15, 16, 17, 21, 23] [
 ox 179 .mv [.t 7],
 ox 180 (.iface 28) [.t 179],
 ox 181 .mv [.t 0],
 ox 182 .mv [.t 21],
 ox 183 (.idxAddr 5) [.t 181, .t 182],
 ox 184 (.fieldAddr 0) [.t 183],
 ox 185 (.load false 1) [.t 184],
 ox 186 .mv [.t 0],
 ox 187 .mv [.t 21],
 ox 188 (.idxAddr 5) [.t 186, .t 187],
 ox 189 (.fieldAddr 3) [.t 188],
 ox 190 (.load false 1) [.t 189],
 ox 191 .mv [.t 16],
 od 192 (.call 13) [.t 180, .t 185, .t 190, .t 191] 0 1,
 od 178 .mv [.t 192] 1 1,
 od 193 (.extract 0) [.t 178] 1 1,
 od 194 (.extract 1) [.t 178] 1 2,
 od 22 (.alloc [.int .i64 0, .int .i64 0, .int .i64 0, .int .i64 0, .nils]) [] 0 1,
 oe (.store 5) [.t 22, .t 193] 1 2,
 od 23 .mv [.t 194] 2 2])
 (.seq
 (.ops [0, 2, 7, 9, 15, 16, 17, 21, 200] [
 ox 195 .mv [.t 23],
 ox 196 (.eq false .int) [.t 195, .c (.int .i64 0)],
 ox 197 .mv [.t 196],
 og 198 .mv [.t 17] 197 true,
 og 199 .not [.t 198] 197 true,
 ox 200 .pick [.t 197, .t 199, .c (.bool false)]])
 (.cond (.t 200)
 (.seq
 (.ops [6] [
 ox 6 .mv [.c (.bool false)]])
 .ret)
 .skip))))
 (.ops [0, 2, 7, 9, 15, 16, 17, 21] [
 ox 176 .mv [.t 21],
 ox 177 (.arith .add) [.t 176, .c (.int .i64 1)],
 ox 21 .mv [.t 177]])))))))))))
 (.ops [0, 2, 7, 9, 15] [
 ox 115 .mv [.t 15],
 ox 116 (.arith .add) [.t 115, .c (.int .i64 1)],
 ox 15 .mv [.t 116]]))))))
 (.seq
 (.ops [6] [
 ox 201 (.call 8) [],
 ox 6 .mv [.t 201]])
 .ret))))))))))
def r5 : List ARes := [.tmp 6]
theorem ok5 : FnOk Tryd.prog 5 c5 r5 :=
  ⟨Tryd.f5, _, Tryd.func5, by kernel_rfl, rfl, by kernel_rfl, by kernel_rfl⟩
/-- rill/rilllaw11.SectorKnown -/
def c6 : ACode :=
 (.seq
 (.ops [] [
 ox 0 .mv [.c (.bool false)]])
 (.seq
 (.ops [1] [
 ox 21 (.call 10) [],
 ox 1 .mv [.t 21]])
 (.seq
 (.drawn [1, 2] [
 ox 22 (.build [.int .i64 0, .int .i64 0, .int .i64 0, .int .i64 0, .nils] []) [],
 ox 23 (.build [.int .i64 0, .int .i64 0, .int .i64 0, .int .i64 0, .nils] [(0, 1)]) [.c (.int .i64 6)],
 ox 24 (.build [.int .i64 0, .int .i64 0, .int .i64 0, .int .i64 0, .nils] [(0, 1)]) [.c (.int .i64 (-1))],
 ox 25 (.build [.int .i64 0, .int .i64 0, .int .i64 0, .int .i64 0, .nils] [(0, 1)]) [.c (.int .i64 1)],
 ox 26 (.build [.int .i64 0, .int .i64 0, .int .i64 0, .int .i64 0, .nils] [(0, 1), (1, 1)]) [.c (.int .i64 5), .c (.int .i64 (-1))],
 ox 27 (.build [.int .i64 0, .int .i64 0, .int .i64 0, .int .i64 0, .nils] [(0, 1), (1, 1), (2, 1), (3, 1)]) [.c (.int .i64 5), .c (.int .i64 1099511627776), .c (.int .i64 1099511627776), .c (.int .i64 4095)],
 ox 28 (.build [.int .i64 0, .int .i64 0, .int .i64 0, .int .i64 0, .nils] [(0, 1), (2, 1)]) [.c (.int .i64 5), .c (.int .i64 1099511627777)],
 ox 29 (.build [.int .i64 0, .int .i64 0, .int .i64 0, .int .i64 0, .nils] [(0, 1), (3, 1)]) [.c (.int .i64 5), .c (.int .i64 4096)],
 ox 30 (.build [.int .i64 0, .int .i64 0, .int .i64 0, .int .i64 0, .nils] [(0, 1), (3, 1)]) [.c (.int .i64 5), .c (.int .i64 (-1))],
 ox 31 (.mkSlice [.int .u8 0] 1) [.c (.int .i64 975), .c (.int .i64 975)],
 ox 32 (.build [.int .i64 0, .int .i64 0, .int .i64 0, .int .i64 0, .nils] [(0, 1), (4, 1)]) [.c (.int .i64 4), .t 31],
 ox 33 (.mkSlice [.int .u8 0] 1) [.c (.int .i64 976), .c (.int .i64 976)],
 ox 34 (.build [.int .i64 0, .int .i64 0, .int .i64 0, .int .i64 0, .nils] [(0, 1), (4, 1)]) [.c (.int .i64 4), .t 33],
 ox 35 (.mkSl 11 (rep 5 [.int .i64 0, .int .i64 0, .int .i64 0, .int .i64 0, .nils, .int .i64 0, .int .i64 0, .int .i64 0, .int .i64 0, .nils] ++ ([.int .i64 0, .int .i64 0, .int .i64 0, .int .i64 0, .nils])) [(0, 5), (5, 5), (10, 5), (15, 5), (20, 5), (25, 5), (30, 5), (35, 5), (40, 5), (45, 5), (50, 5)]) [.t 22, .t 23, .t 24, .t 25, .t 26, .t 27, .t 28, .t 29, .t 30, .t 32, .t 34],
 ox 2 .mv [.t 35]])
 (.seq
 (.ops [1, 2, 3] [
 ox 36 (.mkSl 11 (List.replicate 11 (.int .i64 0)) [(0, 1), (1, 1), (2, 1), (3, 1), (4, 1), (5, 1), (6, 1), (7, 1), (8, 1), (9, 1), (10, 1)]) [.c (.int .i64 5), .c (.int .i64 5), .c (.int .i64 5), .c (.int .i64 0), .c (.int .i64 7), .c (.int .i64 0), .c (.int .i64 7), .c (.int .i64 7), .c (.int .i64 7), .c (.int .i64 0), .c (.int .i64 3)],
 ox 3 .mv [.t 36]])
 (.seq
 (.seq
 (.ops [1, 2, 3, 4] [
 ox 4 .mv [.c (.int .i64 0)]])
 (.block 0
 (.loop [1, 2, 3, 4]
 (.seq
 (.seq
 (.ops [1, 2, 3, 4, 40] [
 ox 37 .mv [.t 4],
 ox 38 .mv [.t 2],
 ox 39 .len [.t 38],
 ox 40 (.cmp .lss) [.t 37, .t 39]])
 (.cond (.t 40)
 .skip
 (.exit 0)))
 (.seq
 (.block 1
 (.seq
 (.ops [1, 2, 3, 4, 5, 6] [
 ox 44 .mv [.t 1],
 ox 45 (.iface 28) [.t 44],
 ox 46 .mv [.t 2],
 ox 47 .mv [.t 4],
 ox 48 (.idxAddr 5) [.t 46, .t 47],
 ox 49 (.load true 5) [.t 48],
 ox 50 (.call 11) [.t 45, .t 49],
 ox 43 .mv [.t 50],
 ox 51 (.extract 0) [.t 43],
 ox 52 (.extract 1) [.t 43],
 ox 5 .mv [.t 51],
 ox 6 .mv [.t 52]])
 (.seq
 (.seq
 (.ops [1, 2, 3, 4, 5, 6, 63] [
 ox 53 .mv [.t 6],
 ox 54 .mv [.t 3],
 ox 55 .mv [.t 4],
 ox 56 (.idxAddr 1) [.t 54, .t 55],
 ox 57 (.load false 1) [.t 56],
 ox 58 (.eq true .int) [.t 53, .t 57],
 ox 59 .mv [.t 58],
 og 60 .mv [.t 5] 59 false,
 og 61 .len [.t 60] 59 false,
 og 62 (.cmp .gtr) [.t 61, .c (.int .i64 1024)] 59 false,
 ox 63 .pick [.t 59, .c (.bool true), .t 62]])
 (.cond (.t 63)
 (.seq
 (.ops [0] [
 ox 0 .mv [.c (.bool false)]])
 .ret)
 .skip))
 (.seq
 (.drawn [1, 2, 3, 4, 6, 8] [
 ox 65 .mv [.t 1],
 ox 66 (.iface 28) [.t 65],
 ox 67 .mv [.t 2],
 ox 68 .mv [.t 4],
 ox 69 (.idxAddr 5) [.t 67, .t 68],
 ox 70 (.fieldAddr 0) [.t 69],
 ox 71 (.load false 1) [.t 70],
 ox 72 .mv [.t 2],
 ox 73 .mv [.t 4],
 ox 74 (.idxAddr 5) [.t 72, .t 73],
 ox 75 (.fieldAddr 3) [.t 74],
 ox 76 (.load false 1) [.t 75],
 ox 77 .mv [.t 5],
 od 78 (.call 13) [.t 66, .t 71, .t 76, .t 77] 0 1,
 od 64 .mv [.t 78] 1 1,
 od 79 (.extract 0) [.t 64] 1 1,
 od 80 (.extract 1) [.t 64] 1 2,
 od 7 (.alloc [.int .i64 0, .int .i64 0, .int .i64 0, .int .i64 0, .nils]) [] 0 1,
 oe (.store 5) [.t 7, .t 79] 1 2,
 od 8 .mv [.t 80] 2 2])
 (.seq
 (.ops [1, 2, 3, 4, 85] [
 ox 81 .mv [.t 8],
 ox 82 (.eq false .int) [.t 81, .c (.int .i64 0)],
 ox 83 .mv [.t 6],
 ox 84 (.eq false .int) [.t 83, .c (.int .i64 0)],
 ox 85 (.eq true .bool) [.t 82, .t 84]])
 (.cond (.t 85)
 (.seq
 (.ops [0] [
 ox 0 .mv [.c (.bool false)]])
 .ret)
 .skip))))))
 (.ops [1, 2, 3, 4] [
 ox 41 .mv [.t 4],
 ox 42 (.arith .add) [.t 41, .c (.int .i64 1)],
 ox 4 .mv [.t 42]]))))))
 (.seq
 (.ops [1, 9] [
 ox 87 .mv [.t 1],
 ox 88 (.iface 28) [.t 87],
 ox 89 (.build [.int .i64 0, .int .i64 0, .int .i64 0, .int .i64 0, .nils] [(0, 1), (3, 1)]) [.c (.int .i64 4), .c (.int .i64 3)],
 ox 90 (.call 11) [.t 88, .t 89],
 ox 86 .mv [.t 90],
 ox 91 (.extract 0) [.t 86],
 ox 92 (.extract 1) [.t 86],
 ox 9 .mv [.t 91],
 ox 10 .mv [.t 92]])
 (.seq
 (.seq
 (.ops [1, 9, 95] [
 ox 93 .mv [.t 9],
 ox 94 .len [.t 93],
 ox 95 (.eq true .int) [.t 94, .c (.int .i64 49)]])
 (.cond (.t 95)
 (.seq
 (.ops [0] [
 ox 0 .mv [.c (.bool false)]])
 .ret)
 .skip))
 (.seq
 (.ops [1, 9, 12] [
 ox 97 .mv [.t 1],
 ox 98 (.iface 28) [.t 97],
 ox 99 .mv [.t 9],
 ox 100 (.slice 1 false true false) [.t 99, .c (.int .i64 16)],
 ox 101 (.call 13) [.t 98, .c (.int .i64 4), .c (.int .i64 3), .t 100],
 ox 96 .mv [.t 101],
 ox 102 (.extract 0) [.t 96],
 ox 103 (.extract 1) [.t 96],
 ox 11 (.alloc [.int .i64 0, .int .i64 0, .int .i64 0, .int .i64 0, .nils]) [],
 oy (.store 5) [.t 11, .t 102],
 ox 12 .mv [.t 103]])
 (.seq
 (.ops [1, 9, 12, 14] [
 ox 105 .mv [.t 1],
 ox 106 (.iface 28) [.t 105],
 ox 107 (.mkSlice [.int .u8 0] 1) [.c (.int .i64 1025), .c (.int .i64 1025)],
 ox 108 (.call 13) [.t 106, .c (.int .i64 4), .c (.int .i64 3), .t 107],
 ox 104 .mv [.t 108],
 ox 109 (.extract 0) [.t 104],
 ox 110 (.extract 1) [.t 104],
 ox 13 (.alloc [.int .i64 0, .int .i64 0, .int .i64 0, .int .i64 0, .nils]) [],
 oy (.store 5) [.t 13, .t 109],
 ox 14 .mv [.t 110]])
 (.seq
 (.ops [1, 9, 12, 14, 16] [
 ox 112 .mv [.t 1],
 ox 113 (.iface 28) [.t 112],
 ox 114 .mv [.t 9],
 ox 115 (.call 13) [.t 113, .c (.int .i64 5), .c (.int .i64 3), .t 114],
 ox 111 .mv [.t 115],
 ox 116 (.extract 0) [.t 111],
 ox 117 (.extract 1) [.t 111],
 ox 15 (.alloc [.int .i64 0, .int .i64 0, .int .i64 0, .int .i64 0, .nils]) [],
 oy (.store 5) [.t 15, .t 116],
 ox 16 .mv [.t 117]])
 (.seq
 (.ops [1, 9, 12, 14, 16, 18] [
 ox 119 .mv [.t 1],
 ox 120 (.iface 28) [.t 119],
 ox 121 (.mkSlice [.int .u8 0] 1) [.c (.int .i64 20), .c (.int .i64 20)],
 ox 122 (.call 13) [.t 120, .c (.int .i64 0), .c (.int .i64 3), .t 121],
 ox 118 .mv [.t 122],
 ox 123 (.extract 0) [.t 118],
 ox 124 (.extract 1) [.t 118],
 ox 17 (.alloc [.int .i64 0, .int .i64 0, .int .i64 0, .int .i64 0, .nils]) [],
 oy (.store 5) [.t 17, .t 123],
 ox 18 .mv [.t 124]])
 (.seq
 (.ops [9, 12, 14, 16, 18, 20] [
 ox 126 .mv [.t 1],
 ox 127 (.iface 28) [.t 126],
 ox 128 .mv [.t 9],
 ox 129 (.call 13) [.t 127, .c (.int .i64 4), .c (.int .i64 4096), .t 128],
 ox 125 .mv [.t 129],
 ox 130 (.extract 0) [.t 125],
 ox 131 (.extract 1) [.t 125],
 ox 19 (.alloc [.int .i64 0, .int .i64 0, .int .i64 0, .int .i64 0, .nils]) [],
 oy (.store 5) [.t 19, .t 130],
 ox 20 .mv [.t 131]])
 (.seq
 (.ops [0] [
 ox 132 .mv [.t 12],
 ox 133 (.eq false .int) [.t 132, .c (.int .i64 2)],
 ox 134 .mv [.t 133],
 og 135 .mv [.t 14] 134 true,
 og 136 (.eq false .int) [.t 135, .c (.int .i64 3)] 134 true,
 ox 137 .pick [.t 134, .t 136, .c (.bool false)],
 ox 138 .mv [.t 137],
 og 139 .mv [.t 16] 138 true,
 og 140 (.eq false .int) [.t 139, .c (.int .i64 5)] 138 true,
 ox 141 .pick [.t 138, .t 140, .c (.bool false)],
 ox 142 .mv [.t 141],
 og 143 .mv [.t 18] 142 true,
 og 144 (.eq false .int) [.t 143, .c (.int .i64 5)] 142 true,
 ox 145 .pick [.t 142, .t 144, .c (.bool false)],
 ox 146 .mv [.t 145],
 og 147 .mv [.t 20] 146 true,
 og 148 (.eq false .int) [.t 147, .c (.int .i64 7)] 146 true,
 ox 149 .pick [.t 146, .t 148, .c (.bool false)],
 ox 150 .mv [.t 149],
 og 151 .mv [.t 9] 150 true,
 og 152 (.call 15) [.t 151] 150 true,
 og 153 (.eq false .int) [.t 152, .c (.int .i64 4)] 150 true,
 ox 154 .pick [.t 150, .t 153, .c (.bool false)],
 ox 155 .mv [.t 154],
 og 156 .mv [.t 9] 155 true,
 og 157 (.slice 1 false true false) [.t 156, .c (.int .i64 16)] 155 true,
 og 158 (.call 15) [.t 157] 155 true,
 og 159 (.eq false .int) [.t 158, .c (.int .i64 0)] 155 true,
 ox 160 .pick [.t 155, .t 159, .c (.bool false)],
 ox 161 .mv [.t 160],
 og 162 (.mkSlice [.int .u8 0] 1) [.c (.int .i64 99), .c (.int .i64 99)] 161 true,
 og 163 (.call 15) [.t 162] 161 true,
 og 164 (.eq false .int) [.t 163, .c (.int .i64 0)] 161 true,
 ox 165 .pick [.t 161, .t 164, .c (.bool false)],
 ox 166 .mv [.t 165],
 og 167 (.call 8) [] 166 true,
 ox 168 .pick [.t 166, .t 167, .c (.bool false)],
 ox 0 .mv [.t 168]])
 .ret)))))))))))))
def r6 : List ARes := [.tmp 0]
theorem ok6 : FnOk Tryd.prog 6 c6 r6 :=
  ⟨Tryd.f6, _, Tryd.func6, by kernel_rfl, rfl, by kernel_rfl, by kernel_rfl⟩
/-- rill/rilllaw11.SectorUnlike -/
def c7 : ACode :=
 (.seq
 (.ops [2, 3] [
 ox 2 .box [.t 0],
 ox 3 .box [.t 1],
 ox 4 .mv [.c (.bool false)]])
 (.seq
 (.seq
 (.ops [2, 3, 19] [
 ox 10 (.fieldAddr 4) [.t 2],
 ox 11 (.load false 1) [.t 10],
 ox 12 .len [.t 11],
 ox 13 (.cmp .gtr) [.t 12, .c (.int .i64 4096)],
 ox 14 .mv [.t 13],
 og 15 (.fieldAddr 4) [.t 3] 14 false,
 og 16 (.load false 1) [.t 15] 14 false,
 og 17 .len [.t 16] 14 false,
 og 18 (.cmp .gtr) [.t 17, .c (.int .i64 4096)] 14 false,
 ox 19 .pick [.t 14, .c (.bool true), .t 18]])
 (.cond (.t 19)
 (.seq
 (.ops [4] [
 ox 20 (.call 8) [],
 ox 4 .mv [.t 20]])
 .ret)
 .skip))
 (.seq
 (.ops [2, 3, 5] [
 ox 21 (.call 10) [],
 ox 5 .mv [.t 21]])
 (.seq
 (.ops [2, 3, 5, 6, 7] [
 ox 23 .mv [.t 5],
 ox 24 (.iface 28) [.t 23],
 ox 25 (.load true 5) [.t 2],
 ox 26 (.call 11) [.t 24, .t 25],
 ox 22 .mv [.t 26],
 ox 27 (.extract 0) [.t 22],
 ox 28 (.extract 1) [.t 22],
 ox 6 .mv [.t 27],
 ox 7 .mv [.t 28]])
 (.seq
 (.ops [2, 3, 6, 7, 8, 9] [
 ox 30 .mv [.t 5],
 ox 31 (.iface 28) [.t 30],
 ox 32 (.load true 5) [.t 3],
 ox 33 (.call 11) [.t 31, .t 32],
 ox 29 .mv [.t 33],
 ox 34 (.extract 0) [.t 29],
 ox 35 (.extract 1) [.t 29],
 ox 8 .mv [.t 34],
 ox 9 .mv [.t 35]])
 (.seq
 (.seq
 (.ops [2, 3, 6, 8, 41] [
 ox 36 .mv [.t 7],
 ox 37 (.eq true .int) [.t 36, .c (.int .i64 0)],
 ox 38 .mv [.t 37],
 og 39 .mv [.t 9] 38 false,
 og 40 (.eq true .int) [.t 39, .c (.int .i64 0)] 38 false,
 ox 41 .pick [.t 38, .c (.bool true), .t 40]])
 (.cond (.t 41)
 (.seq
 (.ops [4] [
 ox 42 (.call 8) [],
 ox 4 .mv [.t 42]])
 .ret)
 .skip))
 (.seq
 (.drawn [4] [
 ox 43 .mv [.t 6],
 ox 44 .mv [.t 8],
 od 45 (.call 16) [.t 43, .t 44] 0 1,
 od 46 (.load true 5) [.t 2] 0 1,
 od 47 (.load true 5) [.t 3] 0 1,
 od 48 (.call 14) [.t 46, .t 47] 1 2,
 od 49 (.eq false .bool) [.t 45, .t 48] 2 2,
 od 50 .mv [.t 49] 2 2,
 oh 51 (.call 8) [] 50 true 2 3,
 od 52 .pick [.t 50, .t 51, .c (.bool false)] 3 3,
 od 4 .mv [.t 52] 3 3])
 .ret)))))))
/-- rill/rilllaw11.known -/
def c8 : ACode :=
 (.seq
 (.ops [] [
 ox 0 .mv [.c (.bool false)]])
 (.seq
 (.ops [1] [
 ox 13 (.mkSl 5 [.int .u8 0, .int .u8 0, .int .u8 0, .int .u8 0, .int .u8 0] [(0, 1), (1, 1), (2, 1), (3, 1), (4, 1)]) [.c (.int .u8 112), .c (.int .u8 108), .c (.int .u8 97), .c (.int .u8 105), .c (.int .u8 110)],
 ox 14 .mark [.t 13],
 ox 15 (.build [.int .i64 0, .int .i64 0, .int .i64 0, .int .i64 0, .nils] [(0, 1), (1, 1), (2, 1), (3, 1), (4, 1)]) [.c (.int .i64 4), .c (.int .i64 1), .c (.int .i64 2), .c (.int .i64 3), .t 14],
 ox 1 (.alloc [.int .i64 0, .int .i64 0, .int .i64 0, .int .i64 0, .nils]) [],
 oy (.store 5) [.t 1, .t 15]])
 (.seq
 (.ops [1, 2] [
 ox 16 (.call 10) [],
 ox 2 .mv [.t 16]])
 (.seq
 (.drawn [1, 2, 3, 4] [
 ox 18 (.mkSl 3 [.int .u8 0, .int .u8 0, .int .u8 0] [(0, 1), (1, 1), (2, 1)]) [.c (.int .u8 107), .c (.int .u8 101), .c (.int .u8 121)],
 ox 19 .mark [.t 18],
 od 20 (.call 9) [.t 19] 0 1,
 od 21 (.iface 26) [.t 20] 1 1,
 od 22 (.load true 5) [.t 1] 0 1,
 od 23 (.call 11) [.t 21, .t 22] 1 2,
 od 17 .mv [.t 23] 2 2,
 od 24 (.extract 0) [.t 17] 2 2,
 od 25 (.extract 1) [.t 17] 2 2,
 od 3 .mv [.t 24] 2 2,
 od 4 .mv [.t 25] 2 2])
 (.seq
 (.ops [1, 2, 3, 4, 5, 6] [
 ox 27 .mv [.t 2],
 ox 28 (.iface 28) [.t 27],
 ox 29 (.load true 5) [.t 1],
 ox 30 (.call 11) [.t 28, .t 29],
 ox 26 .mv [.t 30],
 ox 31 (.extract 0) [.t 26],
 ox 32 (.extract 1) [.t 26],
 ox 5 .mv [.t 31],
 ox 6 .mv [.t 32]])
 (.seq
 (.ops [1, 2, 3, 4, 5, 6, 7, 8] [
 ox 34 (.mkSl 3 [.int .u8 0, .int .u8 0, .int .u8 0] [(0, 1), (1, 1), (2, 1)]) [.c (.int .u8 107), .c (.int .u8 101), .c (.int .u8 121)],
 ox 35 .mark [.t 34],
 ox 36 (.call 9) [.t 35],
 ox 37 (.iface 26) [.t 36],
 ox 38 .mv [.t 3],
 ox 39 (.call 13) [.t 37, .c (.int .i64 4), .c (.int .i64 3), .t 38],
 ox 33 .mv [.t 39],
 ox 40 (.extract 0) [.t 33],
 ox 41 (.extract 1) [.t 33],
 ox 7 (.alloc [.int .i64 0, .int .i64 0, .int .i64 0, .int .i64 0, .nils]) [],
 oy (.store 5) [.t 7, .t 40],
 ox 8 .mv [.t 41]])
 (.seq
 (.ops [1, 2, 3, 4, 5, 6, 7, 8, 9, 10] [
 ox 43 .mv [.t 2],
 ox 44 (.iface 28) [.t 43],
 ox 45 .mv [.t 5],
 ox 46 (.call 13) [.t 44, .c (.int .i64 4), .c (.int .i64 3), .t 45],
 ox 42 .mv [.t 46],
 ox 47 (.extract 0) [.t 42],
 ox 48 (.extract 1) [.t 42],
 ox 9 (.alloc [.int .i64 0, .int .i64 0, .int .i64 0, .int .i64 0, .nils]) [],
 oy (.store 5) [.t 9, .t 47],
 ox 10 .mv [.t 48]])
 (.seq
 (.ops [1, 3, 4, 5, 6, 7, 8, 9, 10, 12] [
 ox 50 .mv [.t 2],
 ox 51 (.iface 28) [.t 50],
 ox 52 .mv [.t 5],
 ox 53 (.call 13) [.t 51, .c (.int .i64 4), .c (.int .i64 4), .t 52],
 ox 49 .mv [.t 53],
 ox 54 (.extract 0) [.t 49],
 ox 55 (.extract 1) [.t 49],
 ox 11 (.alloc [.int .i64 0, .int .i64 0, .int .i64 0, .int .i64 0, .nils]) [],
 oy (.store 5) [.t 11, .t 54],
 ox 12 .mv [.t 55]])
 (.seq
 (.ops [0] [
 ox 56 .mv [.t 4],
 ox 57 (.eq false .int) [.t 56, .c (.int .i64 0)],
 ox 58 .mv [.t 57],
 og 59 .mv [.t 6] 58 true,
 og 60 (.eq false .int) [.t 59, .c (.int .i64 0)] 58 true,
 ox 61 .pick [.t 58, .t 60, .c (.bool false)],
 ox 62 .mv [.t 61],
 og 63 .mv [.t 3] 62 true,
 og 64 .len [.t 63] 62 true,
 og 65 (.eq false .int) [.t 64, .c (.int .i64 54)] 62 true,
 ox 66 .pick [.t 62, .t 65, .c (.bool false)],
 ox 67 .mv [.t 66],
 og 68 .mv [.t 5] 67 true,
 og 69 .len [.t 68] 67 true,
 og 70 (.eq false .int) [.t 69, .c (.int .i64 54)] 67 true,
 ox 71 .pick [.t 67, .t 70, .c (.bool false)],
 ox 72 .mv [.t 71],
 og 73 .mv [.t 8] 72 true,
 og 74 (.eq false .int) [.t 73, .c (.int .i64 0)] 72 true,
 ox 75 .pick [.t 72, .t 74, .c (.bool false)],
 ox 76 .mv [.t 75],
 og 77 .mv [.t 10] 76 true,
 og 78 (.eq false .int) [.t 77, .c (.int .i64 0)] 76 true,
 ox 79 .pick [.t 76, .t 78, .c (.bool false)],
 ox 80 .mv [.t 79],
 og 81 (.load true 5) [.t 7] 80 true,
 og 82 (.load true 5) [.t 1] 80 true,
 og 83 (.call 14) [.t 81, .t 82] 80 true,
 ox 84 .pick [.t 80, .t 83, .c (.bool false)],
 ox 85 .mv [.t 84],
 og 86 (.load true 5) [.t 9] 85 true,
 og 87 (.load true 5) [.t 1] 85 true,
 og 88 (.call 14) [.t 86, .t 87] 85 true,
 ox 89 .pick [.t 85, .t 88, .c (.bool false)],
 ox 90 .mv [.t 89],
 og 91 .mv [.t 12] 90 true,
 og 92 (.eq false .int) [.t 91, .c (.int .i64 19)] 90 true,
 ox 93 .pick [.t 90, .t 92, .c (.bool false)],
 ox 0 .mv [.t 93]])
 .ret)))))))))
def r8 : List ARes := [.tmp 0]
theorem ok8 : FnOk Tryd.prog 8 c8 r8 :=
  ⟨Tryd.f8, _, Tryd.func8, by kernel_rfl, rfl, by kernel_rfl, by kernel_rfl⟩
/-- rill/seal.New -/
def c9 : ACode :=
 (.seq
 (.ops [0] [
 ox 2 .mv [.c .nilp]])
 (.seq
 (.ops [3, 4] [
 ox 7 .mv [.t 0],
 ox 8 (.call 18) [.t 7, .c (.str ⟨#[101, 110, 99, 114, 121, 112, 116]⟩)],
 ox 9 .mv [.t 0],
 ox 10 (.call 18) [.t 9, .c (.str ⟨#[97, 117, 116, 104, 101, 110, 116, 105, 99, 97, 116, 101]⟩)],
 ox 3 (.alloc (List.replicate 32 (.int .u8 0))) [],
 ox 4 (.alloc (List.replicate 32 (.int .u8 0))) [],
 oy (.store 32) [.t 3, .t 8],
 oy (.store 32) [.t 4, .t 10]])
 (.seq
 (.ops [4, 5] [
 ox 12 (.sliceArr 32 1 false true false) [.t 3, .c (.int .i64 16)],
 ox 13 (.call 19) [.t 12],
 ox 11 .mv [.t 13],
 ox 14 (.extract 0) [.t 11],
 ox 15 (.extract 1) [.t 11],
 ox 5 .mv [.t 14],
 ox 6 .mv [.t 15]])
 (.seq
 (.ops [2] [
 ox 16 .mv [.t 5],
 ox 17 (.sliceArr 32 1 false false false) [.t 4],
 ox 18 (.build [.nilp, .nils] [(0, 1), (1, 1)]) [.t 16, .t 17],
 ox 19 .box [.t 18],
 ox 2 .mv [.t 19]])
 .ret))))
def r9 : List ARes := [.tmp 2]
theorem ok9 : FnOk Tryd.prog 9 c9 r9 :=
  ⟨Tryd.f9, _, Tryd.func9, by kernel_rfl, rfl, by kernel_rfl, by kernel_rfl⟩
/-- rill/names.New -/
def c10 : ACode :=
 (.seq
 (.ops [] [
 ox 0 .mv [.c .nilp]])
 (.seq
 (.ops [0] [
 ox 1 .mkMap [],
 ox 2 .mkMap [],
 ox 3 (.build [.mapn, .nils, .mapn] [(0, 1), (2, 1)]) [.t 1, .t 2],
 ox 4 .box [.t 3],
 ox 0 .mv [.t 4]])
 .ret))
def r10 : List ARes := [.tmp 0]
theorem ok10 : FnOk Tryd.prog 10 c10 r10 :=
  ⟨Tryd.f10, _, Tryd.func10, by kernel_rfl, rfl, by kernel_rfl, by kernel_rfl⟩
/-- rill/sector.Put -/
def c11 : ACode :=
 (.seq
 (.ops [0, 3] [
 ox 3 .box [.t 1],
 ox 4 .mv [.c .nils],
 ox 5 .mv [.c (.int .i64 0)]])
 (.seq
 (.block 0
 (.seq
 (.seq
 (.ops [0, 3, 7] [
 ox 8 (.fieldAddr 0) [.t 3],
 ox 9 (.load false 1) [.t 8],
 ox 10 (.cmp .lss) [.t 9, .c (.int .i64 1)],
 ox 7 .mv [.t 10]])
 (.cond (.t 7)
 .skip
 (.ops [0, 3, 7] [
 ox 11 (.fieldAddr 0) [.t 3],
 ox 12 (.load false 1) [.t 11],
 ox 13 (.cmp .gtr) [.t 12, .c (.int .i64 5)],
 ox 7 .mv [.t 13]])))
 (.cond (.t 7)
 (.seq
 (.ops [4, 5] [
 ox 4 .mv [.c .nils],
 ox 5 .mv [.c (.int .i64 5)]])
 .ret)
 (.seq
 (.ops [0, 3, 14] [
 ox 15 (.fieldAddr 1) [.t 3],
 ox 16 (.load false 1) [.t 15],
 ox 17 (.fieldAddr 2) [.t 3],
 ox 18 (.load false 1) [.t 17],
 ox 19 (.fieldAddr 3) [.t 3],
 ox 20 (.load false 1) [.t 19],
 ox 21 (.call 20) [.t 16, .t 18, .t 20],
 ox 22 .not [.t 21],
 ox 14 .mv [.t 22]])
 (.cond (.t 14)
 (.seq
 (.ops [4, 5] [
 ox 4 .mv [.c .nils],
 ox 5 .mv [.c (.int .i64 7)]])
 .ret)
 (.seq
 (.ops [0, 3, 23] [
 ox 24 (.fieldAddr 4) [.t 3],
 ox 25 (.load false 1) [.t 24],
 ox 26 .len [.t 25],
 ox 27 (.cmp .gtr) [.t 26, .c (.int .i64 975)],
 ox 23 .mv [.t 27]])
 (.cond (.t 23)
 (.seq
 (.ops [4, 5] [
 ox 4 .mv [.c .nils],
 ox 5 .mv [.c (.int .i64 3)]])
 .ret)
 .skip)))))))
 (.seq
 (.drawn [0, 3, 6] [
 ox 28 (.fieldAddr 0) [.t 3],
 ox 29 (.load false 1) [.t 28],
 ox 30 (.conv .u8) [.t 29],
 ox 31 (.mkSl 1 [.int .u8 0] [(0, 1)]) [.t 30],
 ox 32 (.fieldAddr 1) [.t 3],
 ox 33 (.load false 1) [.t 32],
 od 34 (.call 21) [.t 31, .t 33] 0 1,
 od 35 (.fieldAddr 2) [.t 3] 0 1,
 od 36 (.load false 1) [.t 35] 0 1,
 od 37 (.call 21) [.t 34, .t 36] 1 2,
 od 6 .mv [.t 37] 2 2])
 (.seq
 (.drawn [4, 5] [
 od 38 .mv [.t 6] 0 2,
 od 39 .mv [.t 0] 0 1,
 od 40 (.fieldAddr 1) [.t 3] 0 1,
 od 41 (.load false 1) [.t 40] 0 1,
 od 42 (.fieldAddr 2) [.t 3] 0 1,
 od 43 (.load false 1) [.t 42] 0 1,
 ox 44 (.fieldAddr 0) [.t 3],
 ox 45 (.load false 1) [.t 44],
 ox 46 (.fieldAddr 3) [.t 3],
 ox 47 (.load false 1) [.t 46],
 od 48 (.call 22) [.t 45, .t 47] 0 1,
 od 49 (.fieldAddr 4) [.t 3] 0 1,
 od 50 (.load false 1) [.t 49] 0 1,
 od 51 (.mkFn (.method "Seal") 1) [.t 39] 0 1,
 od 52 .nilCheck [.t 51] 0 1,
 od 53 .mv [.t 39] 0 1,
 od 54 (.invoke "Seal") [.t 53, .t 41, .t 43, .t 48, .t 50] 1 2,
 od 55 (.append 1 1) [.t 38, .t 54] 2 3,
 od 4 .mv [.t 55] 3 3,
 od 5 .mv [.c (.int .i64 0)] 3 3])
 .ret))))
def r11 : List ARes := [.tmp 4, .tmp 5]
theorem ok11 : FnOk Tryd.prog 11 c11 r11 :=
  ⟨Tryd.f11, _, Tryd.func11, by kernel_rfl, rfl, by kernel_rfl, by kernel_rfl⟩
/-- rill/sector.Get -/
def c13 : ACode :=
 (.seq
 (.ops [0, 1, 2, 3, 8] [
 ox 8 (.alloc [.int .i64 0, .int .i64 0, .int .i64 0, .int .i64 0, .nils]) [],
 ox 9 .mv [.c (.int .i64 0)]])
 (.seq
 (.block 0
 (.seq
 (.ops [0, 1, 2, 3, 8, 14] [
 ox 15 .mv [.t 3],
 ox 16 .len [.t 15],
 ox 17 (.cmp .lss) [.t 16, .c (.int .i64 17)],
 ox 14 .mv [.t 17]])
 (.cond (.t 14)
 (.seq
 (.ops [8, 9] [
 ox 18 (.build [.int .i64 0, .int .i64 0, .int .i64 0, .int .i64 0, .nils] []) [],
 oy (.store 5) [.t 8, .t 18],
 ox 9 .mv [.c (.int .i64 2)]])
 .ret)
 (.seq
 (.ops [0, 1, 2, 3, 8, 19] [
 ox 20 .mv [.t 3],
 ox 21 .len [.t 20],
 ox 22 (.cmp .gtr) [.t 21, .c (.int .i64 1024)],
 ox 19 .mv [.t 22]])
 (.cond (.t 19)
 (.seq
 (.ops [8, 9] [
 ox 23 (.build [.int .i64 0, .int .i64 0, .int .i64 0, .int .i64 0, .nils] []) [],
 oy (.store 5) [.t 8, .t 23],
 ox 9 .mv [.c (.int .i64 3)]])
 .ret)
 (.seq
 (.ops [0, 1, 2, 3, 8, 24] [
 ox 25 .mv [.t 1],
 ox 26 (.eq false .int) [.t 25, .c (.int .i64 0)],
 ox 27 .mv [.t 26],
 og 28 .mv [.t 3] 27 false,
 og 29 (.call 15) [.t 28] 27 false,
 og 30 .mv [.t 1] 27 false,
 og 31 (.eq true .int) [.t 29, .t 30] 27 false,
 ox 32 .pick [.t 27, .c (.bool true), .t 31],
 ox 24 .mv [.t 32]])
 (.cond (.t 24)
 (.seq
 (.ops [8, 9] [
 ox 33 (.build [.int .i64 0, .int .i64 0, .int .i64 0, .int .i64 0, .nils] []) [],
 oy (.store 5) [.t 8, .t 33],
 ox 9 .mv [.c (.int .i64 5)]])
 .ret)
 .skip)))))))
 (.seq
 (.ops [0, 1, 2, 3, 8, 10] [
 ox 34 .mv [.t 3],
 ox 35 (.slice 1 true true false) [.t 34, .c (.int .i64 1), .c (.int .i64 17)],
 ox 36 (.call 23) [.t 35],
 ox 10 .mv [.t 36]])
 (.seq
 (.ops [0, 1, 2, 3, 8, 11] [
 ox 37 .mv [.t 1],
 ox 38 .mv [.t 10],
 ox 39 (.call 24) [.t 38],
 ox 40 .mv [.t 10],
 ox 41 (.call 24) [.t 40],
 ox 42 .mv [.t 2],
 ox 43 (.build [.int .i64 0, .int .i64 0, .int .i64 0, .int .i64 0, .nils] [(0, 1), (1, 1), (2, 1), (3, 1)]) [.t 37, .t 39, .t 41, .t 42],
 ox 11 (.alloc [.int .i64 0, .int .i64 0, .int .i64 0, .int .i64 0, .nils]) [],
 oy (.store 5) [.t 11, .t 43]])
 (.seq
 (.seq
 (.ops [0, 1, 2, 3, 8, 11, 50] [
 ox 44 (.fieldAddr 1) [.t 11],
 ox 45 (.load false 1) [.t 44],
 ox 46 (.fieldAddr 2) [.t 11],
 ox 47 (.load false 1) [.t 46],
 ox 48 .mv [.t 2],
 ox 49 (.call 20) [.t 45, .t 47, .t 48],
 ox 50 .not [.t 49]])
 (.cond (.t 50)
 (.seq
 (.ops [8, 9] [
 ox 51 (.build [.int .i64 0, .int .i64 0, .int .i64 0, .int .i64 0, .nils] []) [],
 oy (.store 5) [.t 8, .t 51],
 ox 9 .mv [.c (.int .i64 7)]])
 .ret)
 .skip))
 (.seq
 (.drawn [8, 11, 12, 13] [
 od 53 .mv [.t 0] 0 1,
 od 54 (.fieldAddr 1) [.t 11] 0 1,
 od 55 (.load false 1) [.t 54] 0 1,
 od 56 (.fieldAddr 2) [.t 11] 0 1,
 od 57 (.load false 1) [.t 56] 0 1,
 ox 58 .mv [.t 1],
 ox 59 .mv [.t 2],
 od 60 (.call 22) [.t 58, .t 59] 0 1,
 od 61 .mv [.t 3] 0 1,
 od 62 (.slice 1 true false false) [.t 61, .c (.int .i64 17)] 0 1,
 od 63 (.mkFn (.method "Open") 1) [.t 53] 0 1,
 od 64 .nilCheck [.t 63] 0 1,
 od 65 .mv [.t 53] 0 1,
 od 66 (.invoke "Open") [.t 65, .t 55, .t 57, .t 60, .t 62] 1 2,
 od 52 .mv [.t 66] 2 2,
 od 67 (.extract 0) [.t 52] 2 2,
 od 68 (.extract 1) [.t 52] 2 2,
 od 12 .mv [.t 67] 2 2,
 od 13 .mv [.t 68] 2 2])
 (.seq
 (.seq
 (.ops [8, 11, 12, 70] [
 ox 69 .mv [.t 13],
 ox 70 .not [.t 69]])
 (.cond (.t 70)
 (.seq
 (.ops [8, 9] [
 ox 71 (.build [.int .i64 0, .int .i64 0, .int .i64 0, .int .i64 0, .nils] []) [],
 oy (.store 5) [.t 8, .t 71],
 ox 9 .mv [.c (.int .i64 19)]])
 .ret)
 .skip))
 (.seq
 (.ops [8, 11] [
 ox 72 .mv [.t 12],
 ox 73 (.fieldAddr 4) [.t 11],
 oy (.store 1) [.t 73, .t 72]])
 (.seq
 (.ops [8, 9] [
 ox 74 (.load true 5) [.t 11],
 oy (.store 5) [.t 8, .t 74],
 ox 9 .mv [.c (.int .i64 0)]])
 .ret)))))))))
def r13 : List ARes := [.cell 8 true 5, .tmp 9]
theorem ok13 : FnOk Tryd.prog 13 c13 r13 :=
  ⟨Tryd.f13, _, Tryd.func13, by kernel_rfl, rfl, by kernel_rfl, by kernel_rfl⟩
/-- rill/rillkit.SameSector -/
def c14 : ACode :=
 (.seq
 (.ops [2, 3] [
 ox 2 .box [.t 0],
 ox 3 .box [.t 1],
 ox 4 .mv [.c (.bool false)]])
 (.seq
 (.ops [4] [
 ox 5 (.fieldAddr 0) [.t 2],
 ox 6 (.load false 1) [.t 5],
 ox 7 (.fieldAddr 0) [.t 3],
 ox 8 (.load false 1) [.t 7],
 ox 9 (.eq false .int) [.t 6, .t 8],
 ox 10 .mv [.t 9],
 og 11 (.fieldAddr 1) [.t 2] 10 true,
 og 12 (.load false 1) [.t 11] 10 true,
 og 13 (.fieldAddr 1) [.t 3] 10 true,
 og 14 (.load false 1) [.t 13] 10 true,
 og 15 (.eq false .int) [.t 12, .t 14] 10 true,
 ox 16 .pick [.t 10, .t 15, .c (.bool false)],
 ox 17 .mv [.t 16],
 og 18 (.fieldAddr 2) [.t 2] 17 true,
 og 19 (.load false 1) [.t 18] 17 true,
 og 20 (.fieldAddr 2) [.t 3] 17 true,
 og 21 (.load false 1) [.t 20] 17 true,
 og 22 (.eq false .int) [.t 19, .t 21] 17 true,
 ox 23 .pick [.t 17, .t 22, .c (.bool false)],
 ox 24 .mv [.t 23],
 og 25 (.fieldAddr 3) [.t 2] 24 true,
 og 26 (.load false 1) [.t 25] 24 true,
 og 27 (.fieldAddr 3) [.t 3] 24 true,
 og 28 (.load false 1) [.t 27] 24 true,
 og 29 (.eq false .int) [.t 26, .t 28] 24 true,
 ox 30 .pick [.t 24, .t 29, .c (.bool false)],
 ox 31 .mv [.t 30],
 og 32 (.fieldAddr 4) [.t 2] 31 true,
 og 33 (.load false 1) [.t 32] 31 true,
 og 34 (.fieldAddr 4) [.t 3] 31 true,
 og 35 (.load false 1) [.t 34] 31 true,
 og 36 (.call 16) [.t 33, .t 35] 31 true,
 ox 37 .pick [.t 31, .t 36, .c (.bool false)],
 ox 4 .mv [.t 37]])
 .ret))
def r14 : List ARes := [.tmp 4]
theorem ok14 : FnOk Tryd.prog 14 c14 r14 :=
  ⟨Tryd.f14, _, Tryd.func14, by kernel_rfl, rfl, by kernel_rfl, by kernel_rfl⟩
/-- rill/sector.Kind -/
def c15 : ACode :=
 (.seq
 (.ops [0] [
 ox 2 .mv [.c (.int .i64 0)]])
 (.seq
 (.seq
 (.ops [0, 17] [
 ox 3 .mv [.t 0],
 ox 4 .len [.t 3],
 ox 5 (.cmp .lss) [.t 4, .c (.int .i64 17)],
 ox 6 .mv [.t 5],
 og 7 .mv [.t 0] 6 false,
 og 8 (.idxAddr 1) [.t 7, .c (.int .i64 0)] 6 false,
 og 9 (.load false 1) [.t 8] 6 false,
 og 10 (.cmp .lss) [.t 9, .c (.int .u8 1)] 6 false,
 ox 11 .pick [.t 6, .c (.bool true), .t 10],
 ox 12 .mv [.t 11],
 og 13 .mv [.t 0] 12 false,
 og 14 (.idxAddr 1) [.t 13, .c (.int .i64 0)] 12 false,
 og 15 (.load false 1) [.t 14] 12 false,
 og 16 (.cmp .gtr) [.t 15, .c (.int .u8 5)] 12 false,
 ox 17 .pick [.t 12, .c (.bool true), .t 16]])
 (.cond (.t 17)
 (.seq
 (.ops [2] [
 ox 2 .mv [.c (.int .i64 0)]])
 .ret)
 .skip))
 (.seq
 (.ops [2] [
 ox 18 .mv [.t 0],
 ox 19 (.idxAddr 1) [.t 18, .c (.int .i64 0)],
 ox 20 (.load false 1) [.t 19],
 ox 21 (.conv .i64) [.t 20],
 ox 2 .mv [.t 21]])
 .ret)))
def r15 : List ARes := [.tmp 2]
theorem ok15 : FnOk Tryd.prog 15 c15 r15 :=
  ⟨Tryd.f15, _, Tryd.func15, by kernel_rfl, rfl, by kernel_rfl, by kernel_rfl⟩
/-- rill/rillkit.SameBytes -/
def c16 : ACode :=
 (.seq
 (.ops [0, 1] [
 ox 4 .mv [.c (.bool false)]])
 (.seq
 (.seq
 (.ops [0, 1, 10] [
 ox 6 .mv [.t 0],
 ox 7 .len [.t 6],
 ox 8 .mv [.t 1],
 ox 9 .len [.t 8],
 ox 10 (.eq true .int) [.t 7, .t 9]])
 (.cond (.t 10)
 (.seq
 (.ops [4] [
 ox 4 .mv [.c (.bool false)]])
 .ret)
 .skip))
 (.seq
 (.seq
 (.ops [0, 1, 5] [
 ox 5 .mv [.c (.int .i64 0)]])
 (.block 0
 (.loop [0, 1, 5]
 (.seq
 (.seq
 (.ops [0, 1, 5, 14] [
 ox 11 .mv [.t 5],
 ox 12 .mv [.t 0],
 ox 13 .len [.t 12],
 ox 14 (.cmp .lss) [.t 11, .t 13]])
 (.cond (.t 14)
 .skip
 (.exit 0)))
 (.seq
 (.block 1
 (.seq
 (.drawn [0, 1, 5, 25] [
 ox 17 .mv [.t 0],
 ox 18 .mv [.t 5],
 ox 19 (.idxAddr 1) [.t 17, .t 18],
 ox 20 (.load false 1) [.t 19],
 ox 21 .mv [.t 1],
 ox 22 .mv [.t 5],
 ox 23 (.idxAddr 1) [.t 21, .t 22],
 ox 24 (.load false 1) [.t 23],
 ox 25 (.eq true .int) [.t 20, .t 24]])
 (.cond (.t 25)
 (.seq
 (.ops [4] [
 ox 4 .mv [.c (.bool false)]])
 .ret)
 .skip)))
 (.ops [0, 1, 5] [
 ox 15 .mv [.t 5],
 ox 16 (.arith .add) [.t 15, .c (.int .i64 1)],
 ox 5 .mv [.t 16]]))))))
 (.seq
 (.ops [4] [
 ox 4 .mv [.c (.bool true)]])
 .ret))))
def r16 : List ARes := [.tmp 4]
theorem ok16 : FnOk Tryd.prog 16 c16 r16 :=
  ⟨Tryd.f16, _, Tryd.func16, by kernel_rfl, rfl, by kernel_rfl, by kernel_rfl⟩
/-- rill/rillkit.CopyBytes -/
def c17 : ACode :=
 (.seq
 (.ops [0] [
 ox 2 .mv [.c .nils]])
 (.seq
 (.ops [0, 3] [
 ox 3 .mv [.c .nils]])
 (.seq
 (.seq
 (.ops [0, 3, 4] [
 ox 4 .mv [.c (.int .i64 0)]])
 (.block 0
 (.loop [0, 3, 4]
 (.seq
 (.seq
 (.ops [0, 3, 4, 8] [
 ox 5 .mv [.t 4],
 ox 6 .mv [.t 0],
 ox 7 .len [.t 6],
 ox 8 (.cmp .lss) [.t 5, .t 7]])
 (.cond (.t 8)
 .skip
 (.exit 0)))
 (.seq
 (.block 1
 (.ops [0, 3, 4] [
 ox 11 .mv [.t 3],
 ox 12 .mv [.t 0],
 ox 13 .mv [.t 4],
 ox 14 (.idxAddr 1) [.t 12, .t 13],
 ox 15 (.load false 1) [.t 14],
 ox 16 (.mkSl 1 [.int .u8 0] [(0, 1)]) [.t 15],
 ox 17 (.append 1 1) [.t 11, .t 16],
 ox 3 .mv [.t 17]]))
 (.ops [0, 3, 4] [
 ox 9 .mv [.t 4],
 ox 10 (.arith .add) [.t 9, .c (.int .i64 1)],
 ox 4 .mv [.t 10]]))))))
 (.seq
 (.ops [2] [
 ox 18 .mv [.t 3],
 ox 2 .mv [.t 18]])
 .ret))))
def r17 : List ARes := [.tmp 2]
theorem ok17 : FnOk Tryd.prog 17 c17 r17 :=
  ⟨Tryd.f17, _, Tryd.func17, by kernel_rfl, rfl, by kernel_rfl, by kernel_rfl⟩
/-- rill/mac.Derive -/
def c18 : ACode :=
 (.seq
 (.ops [0, 1, 4] [
 ox 4 (.alloc (List.replicate 32 (.int .u8 0))) []])
 (.seq
 (.ops [4] [
 ox 5 .mv [.t 0],
 ox 6 .mv [.t 1],
 ox 7 .s2b [.t 6],
 ox 8 (.call 25) [.t 5, .t 7],
 oy (.store 32) [.t 4, .t 8]])
 .ret))
def r18 : List ARes := [.cell 4 true 32]
theorem ok18 : FnOk Tryd.prog 18 c18 r18 :=
  ⟨Tryd.f18, _, Tryd.func18, by kernel_rfl, rfl, by kernel_rfl, by kernel_rfl⟩
/-- rill/aes.New -/
def c19 : ACode :=
 (.seq
 (.ops [0] [
 ox 2 .mv [.c .nilp],
 ox 3 .mv [.c (.int .i64 0)]])
 (.seq
 (.ops [0, 4] [
 ox 11 .mv [.t 0],
 ox 12 .len [.t 11],
 ox 4 .mv [.t 12]])
 (.seq
 (.seq
 (.ops [0, 4, 22] [
 ox 13 .mv [.t 4],
 ox 14 (.eq true .int) [.t 13, .c (.int .i64 16)],
 ox 15 .mv [.t 14],
 og 16 .mv [.t 4] 15 true,
 og 17 (.eq true .int) [.t 16, .c (.int .i64 24)] 15 true,
 ox 18 .pick [.t 15, .t 17, .c (.bool false)],
 ox 19 .mv [.t 18],
 og 20 .mv [.t 4] 19 true,
 og 21 (.eq true .int) [.t 20, .c (.int .i64 32)] 19 true,
 ox 22 .pick [.t 19, .t 21, .c (.bool false)]])
 (.cond (.t 22)
 (.seq
 (.ops [2, 3] [
 ox 2 .mv [.c .nilp],
 ox 3 .mv [.c (.int .i64 1)]])
 .ret)
 .skip))
 (.seq
 (.ops [0, 4, 5] [
 ox 23 (.call 26) [],
 ox 24 (.build ([.nils] ++ (List.replicate 256 (.int .u8 0))) [(1, 256)]) [.t 23],
 ox 25 .box [.t 24],
 ox 5 .mv [.t 25]])
 (.seq
 (.ops [4, 5, 6] [
 ox 26 (.mkSl 0 [] []) [],
 ox 27 .mv [.t 0],
 ox 28 (.append 1 1) [.t 26, .t 27],
 ox 6 .mv [.t 28]])
 (.seq
 (.ops [4, 5, 6, 7] [
 ox 7 .mv [.c (.int .u8 1)]])
 (.seq
 (.seq
 (.ops [4, 5, 6, 7, 8] [
 ox 29 .mv [.t 4],
 ox 8 .mv [.t 29]])
 (.block 0
 (.loop [4, 5, 6, 7, 8]
 (.seq
 (.seq
 (.ops [4, 5, 6, 7, 8, 35] [
 ox 30 .mv [.t 8],
 ox 31 .mv [.t 4],
 ox 32 (.arith .quo) [.t 31, .c (.int .i64 4)],
 ox 33 (.arith .add) [.t 32, .c (.int .i64 7)],
 ox 34 (.arith .mul) [.c (.int .i64 16), .t 33],
 ox 35 (.cmp .lss) [.t 30, .t 34]])
 (.cond (.t 35)
 .skip
 (.exit 0)))
 (.seq
 (.block 1
 (.seq
 (.ops [4, 5, 6, 7, 8, 9] [
 ox 38 .mv [.t 6],
 ox 39 .mv [.t 8],
 ox 40 (.arith .sub) [.t 39, .c (.int .i64 4)],
 ox 41 .mv [.t 8],
 ox 42 (.slice 1 true true false) [.t 38, .t 40, .t 41],
 ox 43 (.arrPtr 4) [.t 42],
 ox 44 (.load true 4) [.t 43],
 ox 9 (.alloc [.int .u8 0, .int .u8 0, .int .u8 0, .int .u8 0]) [],
 oy (.store 4) [.t 9, .t 44]])
 (.seq
 (.block 2
 (.seq
 (.ops [4, 5, 6, 7, 8, 9, 45] [
 ox 46 .mv [.t 8],
 ox 47 .mv [.t 4],
 ox 48 (.arith .rem) [.t 46, .t 47],
 ox 49 (.eq false .int) [.t 48, .c (.int .i64 0)],
 ox 45 .mv [.t 49]])
 (.cond (.t 45)
 (.seq
 (.drawn [4, 5, 6, 7, 8, 9] [
 ox 50 .mv [.t 5],
 ox 51 (.idxAddrArr 4 1) [.t 9, .c (.int .i64 1)],
 ox 52 (.load false 1) [.t 51],
 ox 53 .nilCheck [.t 50],
 ox 54 (.fieldAddr 1) [.t 53],
 ox 55 (.idxAddrArr 256 1) [.t 54, .t 52],
 ox 56 (.load false 1) [.t 55],
 ox 57 .mv [.t 7],
 ox 58 (.arith .xor) [.t 56, .t 57],
 ox 59 .mv [.t 5],
 ox 60 (.idxAddrArr 4 1) [.t 9, .c (.int .i64 2)],
 ox 61 (.load false 1) [.t 60],
 ox 62 .nilCheck [.t 59],
 ox 63 (.fieldAddr 1) [.t 62],
 ox 64 (.idxAddrArr 256 1) [.t 63, .t 61],
 ox 65 (.load false 1) [.t 64],
 ox 66 .mv [.t 5],
 ox 67 (.idxAddrArr 4 1) [.t 9, .c (.int .i64 3)],
 ox 68 (.load false 1) [.t 67],
 ox 69 .nilCheck [.t 66],
 ox 70 (.fieldAddr 1) [.t 69],
 ox 71 (.idxAddrArr 256 1) [.t 70, .t 68],
 ox 72 (.load false 1) [.t 71],
 ox 73 .mv [.t 5],
 ox 74 (.idxAddrArr 4 1) [.t 9, .c (.int .i64 0)],
 ox 75 (.load false 1) [.t 74],
 ox 76 .nilCheck [.t 73],
 ox 77 (.fieldAddr 1) [.t 76],
 ox 78 (.idxAddrArr 256 1) [.t 77, .t 75],
 ox 79 (.load false 1) [.t 78],
 ox 80 (.build [.int .u8 0, .int .u8 0, .int .u8 0, .int .u8 0] [(0, 1), (1, 1), (2, 1), (3, 1)]) [.t 58, .t 65, .t 72, .t 79],
 oe (.store 4) [.t 9, .t 80] 0 1])
 (.ops [4, 5, 6, 7, 8, 9] [
 ox 81 .mv [.t 7],
 ox 82 (.call 27) [.t 81],
 ox 7 .mv [.t 82]]))
 (.seq
 (.ops [4, 5, 6, 7, 8, 9, 83] [
 ox 84 .mv [.t 4],
 ox 85 (.eq false .int) [.t 84, .c (.int .i64 32)],
 ox 86 .mv [.t 85],
 og 87 .mv [.t 8] 86 true,
 og 88 .mv [.t 4] 86 true,
 og 89 (.arith .rem) [.t 87, .t 88] 86 true,
 og 90 (.eq false .int) [.t 89, .c (.int .i64 16)] 86 true,
 ox 91 .pick [.t 86, .t 90, .c (.bool false)],
 ox 83 .mv [.t 91]])
 (.cond (.t 83)
 (.drawn [4, 5, 6, 7, 8, 9] [
 ox 92 .mv [.t 5],
 ox 93 (.idxAddrArr 4 1) [.t 9, .c (.int .i64 0)],
 ox 94 (.load false 1) [.t 93],
 ox 95 .nilCheck [.t 92],
 ox 96 (.fieldAddr 1) [.t 95],
 ox 97 (.idxAddrArr 256 1) [.t 96, .t 94],
 ox 98 (.load false 1) [.t 97],
 ox 99 .mv [.t 5],
 ox 100 (.idxAddrArr 4 1) [.t 9, .c (.int .i64 1)],
 ox 101 (.load false 1) [.t 100],
 ox 102 .nilCheck [.t 99],
 ox 103 (.fieldAddr 1) [.t 102],
 ox 104 (.idxAddrArr 256 1) [.t 103, .t 101],
 ox 105 (.load false 1) [.t 104],
 ox 106 .mv [.t 5],
 ox 107 (.idxAddrArr 4 1) [.t 9, .c (.int .i64 2)],
 ox 108 (.load false 1) [.t 107],
 ox 109 .nilCheck [.t 106],
 ox 110 (.fieldAddr 1) [.t 109],
 ox 111 (.idxAddrArr 256 1) [.t 110, .t 108],
 ox 112 (.load false 1) [.t 111],
 ox 113 .mv [.t 5],
 ox 114 (.idxAddrArr 4 1) [.t 9, .c (.int .i64 3)],
 ox 115 (.load false 1) [.t 114],
 ox 116 .nilCheck [.t 113],
 ox 117 (.fieldAddr 1) [.t 116],
 ox 118 (.idxAddrArr 256 1) [.t 117, .t 115],
 ox 119 (.load false 1) [.t 118],
 ox 120 (.build [.int .u8 0, .int .u8 0, .int .u8 0, .int .u8 0] [(0, 1), (1, 1), (2, 1), (3, 1)]) [.t 98, .t 105, .t 112, .t 119],
 oe (.store 4) [.t 9, .t 120] 0 1])
 .skip)))))
 (.seq
 (.ops [4, 5, 6, 7, 8, 9, 121] [
 ox 121 .mv [.c (.int .i64 0)]])
 (.block 3
 (.loop [4, 5, 6, 7, 8, 9, 121]
 (.seq
 (.ops [4, 5, 6, 7, 8, 9, 121, 122] [
 ox 122 (.cmp .lss) [.t 121, .c (.int .i64 4)]])
 (.seq
 (.cond (.t 122)
 .skip
 (.exit 3))
 (.seq
 (.block 4
 (.seq
 (.ops [4, 5, 6, 7, 8, 9, 10, 121] [
 ox 123 .mv [.t 121],
 ox 10 .mv [.t 123]])
 (.drawn [4, 5, 6, 7, 8, 9, 121] [
 ox 124 .mv [.t 6],
 ox 125 .mv [.t 6],
 ox 126 .mv [.t 8],
 ox 127 .mv [.t 4],
 ox 128 (.arith .sub) [.t 126, .t 127],
 ox 129 .mv [.t 10],
 ox 130 (.arith .add) [.t 128, .t 129],
 ox 131 (.idxAddr 1) [.t 125, .t 130],
 ox 132 (.load false 1) [.t 131],
 ox 133 .mv [.t 10],
 ox 134 (.idxAddrArr 4 1) [.t 9, .t 133],
 ox 135 (.load false 1) [.t 134],
 ox 136 (.arith .xor) [.t 132, .t 135],
 ox 137 (.mkSl 1 [.int .u8 0] [(0, 1)]) [.t 136],
 od 138 (.append 1 1) [.t 124, .t 137] 0 1,
 od 6 .mv [.t 138] 1 1])))
 (.ops [4, 5, 6, 7, 8, 9, 121] [
 ox 139 (.arith .add) [.t 121, .c (.int .i64 1)],
 ox 121 .mv [.t 139]]))))))))))
 (.ops [4, 5, 6, 7, 8] [
 ox 36 .mv [.t 8],
 ox 37 (.arith .add) [.t 36, .c (.int .i64 4)],
 ox 8 .mv [.t 37]]))))))
 (.seq
 (.block 5
 (.loop [5, 6]
 (.seq
 (.seq
 (.ops [5, 6, 142] [
 ox 140 .mv [.t 6],
 ox 141 .len [.t 140],
 ox 142 (.cmp .gtr) [.t 141, .c (.int .i64 0)]])
 (.cond (.t 142)
 .skip
 (.exit 5)))
 (.seq
 (.block 6
 (.drawn [5, 6] [
 od 145 .mv [.t 5] 0 1,
 ox 146 .mv [.t 5],
 ox 147 .nilCheck [.t 146],
 ox 148 (.fieldAddr 0) [.t 147],
 ox 149 (.load false 1) [.t 148],
 ox 150 .mv [.t 6],
 ox 151 (.slice 1 false true false) [.t 150, .c (.int .i64 16)],
 ox 152 (.arrPtr 16) [.t 151],
 ox 153 (.load true 16) [.t 152],
 ox 154 (.mkSl 1 (List.replicate 16 (.int .u8 0)) [(0, 16)]) [.t 153],
 od 155 (.append 16 16) [.t 149, .t 154] 0 1,
 od 156 .nilCheck [.t 145] 1 1,
 od 157 (.fieldAddr 0) [.t 156] 1 1,
 oe (.store 1) [.t 157, .t 155] 1 2]))
 (.ops [5, 6] [
 ox 143 .mv [.t 6],
 ox 144 (.slice 1 true false false) [.t 143, .c (.int .i64 16)],
 ox 6 .mv [.t 144]])))))
 (.seq
 (.ops [2, 3] [
 ox 158 .mv [.t 5],
 ox 2 .mv [.t 158],
 ox 3 .mv [.c (.int .i64 0)]])
 .ret)))))))))
def r19 : List ARes := [.tmp 2, .tmp 3]
theorem ok19 : FnOk Tryd.prog 19 c19 r19 :=
  ⟨Tryd.f19, _, Tryd.func19, by kernel_rfl, rfl, by kernel_rfl, by kernel_rfl⟩
/-- rill/sector.right -/
def c20 : ACode :=
 (.seq
 (.ops [0, 1, 2] [
 ox 6 .mv [.c (.bool false)]])
 (.seq
 (.ops [6] [
 ox 7 .mv [.t 0],
 ox 8 .mv [.t 1],
 ox 9 .mv [.t 2],
 ox 10 .min [.t 7, .t 8, .t 9],
 ox 11 (.cmp .geq) [.t 10, .c (.int .i64 0)],
 ox 12 .mv [.t 11],
 og 13 .mv [.t 0] 12 true,
 og 14 .mv [.t 1] 12 true,
 og 15 .max [.t 13, .t 14] 12 true,
 og 16 (.cmp .leq) [.t 15, .c (.int .i64 1099511627776)] 12 true,
 ox 17 .pick [.t 12, .t 16, .c (.bool false)],
 ox 18 .mv [.t 17],
 og 19 .mv [.t 2] 18 true,
 og 20 (.cmp .lss) [.t 19, .c (.int .i64 4096)] 18 true,
 ox 21 .pick [.t 18, .t 20, .c (.bool false)],
 ox 6 .mv [.t 21]])
 .ret))
def r20 : List ARes := [.tmp 6]
theorem ok20 : FnOk Tryd.prog 20 c20 r20 :=
  ⟨Tryd.f20, _, Tryd.func20, by kernel_rfl, rfl, by kernel_rfl, by kernel_rfl⟩
/-- rill/pack.Int -/
def c21 : ACode :=
 (.seq
 (.ops [0, 1] [
 ox 4 .mv [.c .nils]])
 (.seq
 (.ops [4] [
 ox 5 .mv [.t 0],
 ox 6 .mv [.t 1],
 ox 7 (.call 29) [.t 6],
 ox 8 (.call 28) [.t 5, .t 7],
 ox 4 .mv [.t 8]])
 .ret))
def r21 : List ARes := [.tmp 4]
theorem ok21 : FnOk Tryd.prog 21 c21 r21 :=
  ⟨Tryd.f21, _, Tryd.func21, by kernel_rfl, rfl, by kernel_rfl, by kernel_rfl⟩
/-- rill/sector.head -/
def c22 : ACode :=
 (.seq
 (.ops [0, 1] [
 ox 4 .mv [.c .nils]])
 (.seq
 (.ops [4] [
 ox 5 .mv [.t 0],
 ox 6 (.conv .u8) [.t 5],
 ox 7 (.mkSl 1 [.int .u8 0] [(0, 1)]) [.t 6],
 ox 8 .mv [.t 1],
 ox 9 (.call 21) [.t 7, .t 8],
 ox 4 .mv [.t 9]])
 .ret))
def r22 : List ARes := [.tmp 4]
theorem ok22 : FnOk Tryd.prog 22 c22 r22 :=
  ⟨Tryd.f22, _, Tryd.func22, by kernel_rfl, rfl, by kernel_rfl, by kernel_rfl⟩
/-- rill/pack.Read -/
def c23 : ACode :=
 (.seq
 (.ops [0] [
 ox 2 .mv [.c .nilp]])
 (.seq
 (.ops [2] [
 ox 3 .mv [.t 0],
 ox 4 (.call 28) [.t 3, .c .nils],
 ox 5 (.build [.nils, .bool false] [(0, 1)]) [.t 4],
 ox 6 .box [.t 5],
 ox 2 .mv [.t 6]])
 .ret))
def r23 : List ARes := [.tmp 2]
theorem ok23 : FnOk Tryd.prog 23 c23 r23 :=
  ⟨Tryd.f23, _, Tryd.func23, by kernel_rfl, rfl, by kernel_rfl, by kernel_rfl⟩
/-- (*rill/pack.Reader).Int -/
def c24 : ACode :=
 (.seq
 (.ops [0] [
 ox 2 .mv [.c (.int .i64 0)]])
 (.seq
 (.ops [2] [
 ox 3 .mv [.t 0],
 ox 4 (.call 30) [.t 3, .c (.int .i64 8), .c (.fn (.func 31) [] [])],
 ox 2 .mv [.t 4]])
 .ret))
def r24 : List ARes := [.tmp 2]
theorem ok24 : FnOk Tryd.prog 24 c24 r24 :=
  ⟨Tryd.f24, _, Tryd.func24, by kernel_rfl, rfl, by kernel_rfl, by kernel_rfl⟩
/-- rill/mac.Of -/
def c25 : ACode :=
 (.seq
 (.ops [0, 1, 4] [
 ox 4 (.alloc (List.replicate 32 (.int .u8 0))) []])
 (.seq
 (.ops [1, 4, 5, 6] [
 ox 9 .mv [.t 0],
 ox 10 (.call 32) [.t 9, .c (.int .u8 54)],
 ox 11 .mv [.t 0],
 ox 12 (.call 32) [.t 11, .c (.int .u8 92)],
 ox 5 (.alloc (List.replicate 64 (.int .u8 0))) [],
 ox 6 (.alloc (List.replicate 64 (.int .u8 0))) [],
 oy (.store 64) [.t 5, .t 10],
 oy (.store 64) [.t 6, .t 12]])
 (.seq
 (.ops [1, 4, 5, 6, 7] [
 ox 13 (.call 33) [],
 ox 7 .mv [.t 13]])
 (.seq
 (.ops [1, 4, 6, 7] [
 ox 14 .mv [.t 7],
 ox 15 (.sliceArr 64 1 false false false) [.t 5],
 ox 16 (.call 34) [.t 14, .t 15]])
 (.seq
 (.ops [4, 6, 7] [
 ox 17 .mv [.t 7],
 ox 18 .mv [.t 1],
 ox 19 (.call 34) [.t 17, .t 18]])
 (.seq
 (.ops [4, 6, 8] [
 ox 20 .mv [.t 7],
 ox 21 (.call 35) [.t 20],
 ox 8 (.alloc (List.replicate 32 (.int .u8 0))) [],
 oy (.store 32) [.t 8, .t 21]])
 (.seq
 (.ops [4, 6, 7, 8] [
 ox 22 (.call 33) [],
 ox 7 .mv [.t 22]])
 (.seq
 (.ops [4, 7, 8] [
 ox 23 .mv [.t 7],
 ox 24 (.sliceArr 64 1 false false false) [.t 6],
 ox 25 (.call 34) [.t 23, .t 24]])
 (.seq
 (.ops [4, 7] [
 ox 26 .mv [.t 7],
 ox 27 (.sliceArr 32 1 false false false) [.t 8],
 ox 28 (.call 34) [.t 26, .t 27]])
 (.seq
 (.ops [4] [
 ox 29 .mv [.t 7],
 ox 30 (.call 35) [.t 29],
 oy (.store 32) [.t 4, .t 30]])
 .ret))))))))))
def r25 : List ARes := [.cell 4 true 32]
theorem ok25 : FnOk Tryd.prog 25 c25 r25 :=
  ⟨Tryd.f25, _, Tryd.func25, by kernel_rfl, rfl, by kernel_rfl, by kernel_rfl⟩
/-- rill/aes.table -/
def c26 : ACode :=
 (.seq
 (.ops [0] [
 ox 0 (.alloc (List.replicate 256 (.int .u8 0))) []])
 (.seq
 (.ops [0, 1] [
 ox 1 (.alloc (List.replicate 256 (.int .u8 0))) []])
 (.seq
 (.ops [0, 1, 2, 3] [
 ox 2 .mv [.c (.int .u8 1)],
 ox 3 .mv [.c (.int .u8 1)]])
 (.seq
 (.block 0
 (.loop [0, 1, 2, 3]
 (.block 1
 (.seq
 (.ops [0, 1, 2, 3] [
 ox 4 .mv [.t 2],
 ox 5 .mv [.t 2],
 ox 6 (.call 27) [.t 5],
 ox 7 (.arith .xor) [.t 4, .t 6],
 ox 2 .mv [.t 7]])
 (.seq
 (.ops [0, 1, 2, 3] [
 ox 8 .mv [.t 3],
 ox 9 .mv [.t 3],
 ox 10 (.shift .shl) [.t 9, .c (.int .u64 1)],
 ox 11 (.arith .xor) [.t 8, .t 10],
 ox 3 .mv [.t 11]])
 (.seq
 (.ops [0, 1, 2, 3] [
 ox 12 .mv [.t 3],
 ox 13 .mv [.t 3],
 ox 14 (.shift .shl) [.t 13, .c (.int .u64 2)],
 ox 15 (.arith .xor) [.t 12, .t 14],
 ox 3 .mv [.t 15]])
 (.seq
 (.ops [0, 1, 2, 3] [
 ox 16 .mv [.t 3],
 ox 17 .mv [.t 3],
 ox 18 (.shift .shl) [.t 17, .c (.int .u64 4)],
 ox 19 (.arith .xor) [.t 16, .t 18],
 ox 3 .mv [.t 19]])
 (.seq
 (.seq
 (.ops [0, 1, 2, 3, 22] [
 ox 20 .mv [.t 3],
 ox 21 (.arith .and) [.t 20, .c (.int .u8 128)],
 ox 22 (.eq true .int) [.t 21, .c (.int .u8 0)]])
 (.cond (.t 22)
 (.ops [0, 1, 2, 3] [
 ox 23 .mv [.t 3],
 ox 24 (.arith .xor) [.t 23, .c (.int .u8 9)],
 ox 3 .mv [.t 24]])
 .skip))
 (.seq
 (.ops [0, 1, 2, 3] [
 ox 25 .mv [.t 2],
 ox 26 .mv [.t 3],
 ox 27 .mv [.t 3],
 ox 28 (.shift .shl) [.t 27, .c (.int .u64 1)],
 ox 29 .mv [.t 3],
 ox 30 (.shift .shr) [.t 29, .c (.int .u64 7)],
 ox 31 (.arith .or) [.t 28, .t 30],
 ox 32 (.arith .xor) [.t 26, .t 31],
 ox 33 .mv [.t 3],
 ox 34 (.shift .shl) [.t 33, .c (.int .u64 2)],
 ox 35 .mv [.t 3],
 ox 36 (.shift .shr) [.t 35, .c (.int .u64 6)],
 ox 37 (.arith .or) [.t 34, .t 36],
 ox 38 (.arith .xor) [.t 32, .t 37],
 ox 39 .mv [.t 3],
 ox 40 (.shift .shl) [.t 39, .c (.int .u64 3)],
 ox 41 .mv [.t 3],
 ox 42 (.shift .shr) [.t 41, .c (.int .u64 5)],
 ox 43 (.arith .or) [.t 40, .t 42],
 ox 44 (.arith .xor) [.t 38, .t 43],
 ox 45 .mv [.t 3],
 ox 46 (.shift .shl) [.t 45, .c (.int .u64 4)],
 ox 47 .mv [.t 3],
 ox 48 (.shift .shr) [.t 47, .c (.int .u64 4)],
 ox 49 (.arith .or) [.t 46, .t 48],
 ox 50 (.arith .xor) [.t 44, .t 49],
 ox 51 (.arith .xor) [.t 50, .c (.int .u8 99)],
 ox 52 (.idxAddrArr 256 1) [.t 1, .t 25],
 oy (.store 1) [.t 52, .t 51]])
 (.seq
 (.ops [0, 1, 2, 3, 54] [
 ox 53 .mv [.t 2],
 ox 54 (.eq false .int) [.t 53, .c (.int .u8 1)]])
 (.cond (.t 54)
 (.exit 0)
 .skip)))))))))))
 (.seq
 (.ops [0, 1] [
 ox 55 (.idxAddrArr 256 1) [.t 1, .c (.int .i64 0)],
 oy (.store 1) [.t 55, .c (.int .u8 99)]])
 (.seq
 (.ops [0] [
 ox 56 (.load true 256) [.t 1],
 oy (.store 256) [.t 0, .t 56]])
 .ret))))))
def r26 : List ARes := [.cell 0 true 256]
theorem ok26 : FnOk Tryd.prog 26 c26 r26 :=
  ⟨Tryd.f26, _, Tryd.func26, by kernel_rfl, rfl, by kernel_rfl, by kernel_rfl⟩
/-- rill/aes.twice -/
def c27 : ACode :=
 (.seq
 (.ops [0] [
 ox 2 .mv [.c (.int .u8 0)]])
 (.seq
 (.seq
 (.ops [0, 5] [
 ox 3 .mv [.t 0],
 ox 4 (.arith .and) [.t 3, .c (.int .u8 128)],
 ox 5 (.eq true .int) [.t 4, .c (.int .u8 0)]])
 (.cond (.t 5)
 (.seq
 (.ops [2] [
 ox 6 .mv [.t 0],
 ox 7 (.shift .shl) [.t 6, .c (.int .u64 1)],
 ox 8 (.arith .xor) [.t 7, .c (.int .u8 27)],
 ox 2 .mv [.t 8]])
 .ret)
 .skip))
 (.seq
 (.ops [2] [
 ox 9 .mv [.t 0],
 ox 10 (.shift .shl) [.t 9, .c (.int .u64 1)],
 ox 2 .mv [.t 10]])
 .ret)))
def r27 : List ARes := [.tmp 2]
theorem ok27 : FnOk Tryd.prog 27 c27 r27 :=
  ⟨Tryd.f27, _, Tryd.func27, by kernel_rfl, rfl, by kernel_rfl, by kernel_rfl⟩
/-- rill/pack.behind -/
def c28 : ACode :=
 (.seq
 (.ops [0, 1] [
 ox 4 .mv [.c .nils]])
 (.seq
 (.ops [4] [
 ox 5 .mv [.t 0],
 ox 6 .len [.t 5],
 ox 7 .mv [.t 1],
 ox 8 .len [.t 7],
 ox 9 (.arith .add) [.t 6, .t 8],
 ox 10 (.mkSlice [.int .u8 0] 1) [.c (.int .i64 0), .t 9],
 ox 11 .mv [.t 0],
 ox 12 (.append 1 1) [.t 10, .t 11],
 ox 13 .mv [.t 1],
 ox 14 (.append 1 1) [.t 12, .t 13],
 ox 4 .mv [.t 14]])
 .ret))
def r28 : List ARes := [.tmp 4]
theorem ok28 : FnOk Tryd.prog 28 c28 r28 :=
  ⟨Tryd.f28, _, Tryd.func28, by kernel_rfl, rfl, by kernel_rfl, by kernel_rfl⟩
/-- rill/pack.eight -/
def c29 : ACode :=
 (.seq
 (.ops [0] [
 ox 2 .mv [.c .nils]])
 (.seq
 (.ops [3] [
 ox 4 .mv [.t 0],
 ox 5 (.conv .u64) [.t 4],
 ox 3 .mv [.t 5]])
 (.seq
 (.ops [2] [
 ox 6 .mv [.t 3],
 ox 7 (.shift .shr) [.t 6, .c (.int .u64 56)],
 ox 8 (.conv .u8) [.t 7],
 ox 9 .mv [.t 3],
 ox 10 (.shift .shr) [.t 9, .c (.int .u64 48)],
 ox 11 (.conv .u8) [.t 10],
 ox 12 .mv [.t 3],
 ox 13 (.shift .shr) [.t 12, .c (.int .u64 40)],
 ox 14 (.conv .u8) [.t 13],
 ox 15 .mv [.t 3],
 ox 16 (.shift .shr) [.t 15, .c (.int .u64 32)],
 ox 17 (.conv .u8) [.t 16],
 ox 18 .mv [.t 3],
 ox 19 (.shift .shr) [.t 18, .c (.int .u64 24)],
 ox 20 (.conv .u8) [.t 19],
 ox 21 .mv [.t 3],
 ox 22 (.shift .shr) [.t 21, .c (.int .u64 16)],
 ox 23 (.conv .u8) [.t 22],
 ox 24 .mv [.t 3],
 ox 25 (.shift .shr) [.t 24, .c (.int .u64 8)],
 ox 26 (.conv .u8) [.t 25],
 ox 27 .mv [.t 3],
 ox 28 (.conv .u8) [.t 27],
 ox 29 (.mkSl 8 [.int .u8 0, .int .u8 0, .int .u8 0, .int .u8 0, .int .u8 0, .int .u8 0, .int .u8 0, .int .u8 0] [(0, 1), (1, 1), (2, 1), (3, 1), (4, 1), (5, 1), (6, 1), (7, 1)]) [.t 8, .t 11, .t 14, .t 17, .t 20, .t 23, .t 26, .t 28],
 ox 2 .mv [.t 29]])
 .ret)))
def r29 : List ARes := [.tmp 2]
theorem ok29 : FnOk Tryd.prog 29 c29 r29 :=
  ⟨Tryd.f29, _, Tryd.func29, by kernel_rfl, rfl, by kernel_rfl, by kernel_rfl⟩
/-- rill/pack.take[int] -/
def c30 : ACode :=
 (.seq
 (.ops [0, 1, 2] [
 ox 6 .mv [.c (.int .i64 0)]])
 (.seq
 (.seq
 (.ops [0, 1, 2, 21] [
 ox 9 .mv [.t 0],
 ox 10 .nilCheck [.t 9],
 ox 11 (.fieldAddr 1) [.t 10],
 ox 12 (.load false 1) [.t 11],
 ox 13 .mv [.t 12],
 og 14 .mv [.t 0] 13 false,
 og 15 .nilCheck [.t 14] 13 false,
 og 16 (.fieldAddr 0) [.t 15] 13 false,
 og 17 (.load false 1) [.t 16] 13 false,
 og 18 .len [.t 17] 13 false,
 og 19 .mv [.t 1] 13 false,
 og 20 (.cmp .lss) [.t 18, .t 19] 13 false,
 ox 21 .pick [.t 13, .c (.bool true), .t 20]])
 (.cond (.t 21)
 (.seq
 (.ops [] [
 ox 22 .mv [.t 0],
 ox 23 .nilCheck [.t 22],
 ox 24 (.fieldAddr 1) [.t 23],
 oy (.store 1) [.t 24, .c (.bool true)]])
 (.seq
 (.ops [7] [
 ox 7 .mv [.c (.int .i64 0)]])
 (.seq
 (.ops [6] [
 ox 25 .mv [.t 7],
 ox 6 .mv [.t 25]])
 .ret)))
 .skip))
 (.seq
 (.ops [0, 1, 2, 8] [
 ox 26 .mv [.t 0],
 ox 27 .nilCheck [.t 26],
 ox 28 (.fieldAddr 0) [.t 27],
 ox 29 (.load false 1) [.t 28],
 ox 30 .mv [.t 1],
 ox 31 (.slice 1 false true false) [.t 29, .t 30],
 ox 8 .mv [.t 31]])
 (.seq
 (.ops [2, 8] [
 ox 32 .mv [.t 0],
 ox 33 .mv [.t 0],
 ox 34 .nilCheck [.t 33],
 ox 35 (.fieldAddr 0) [.t 34],
 ox 36 (.load false 1) [.t 35],
 ox 37 .mv [.t 1],
 ox 38 (.slice 1 true false false) [.t 36, .t 37],
 ox 39 .nilCheck [.t 32],
 ox 40 (.fieldAddr 0) [.t 39],
 oy (.store 1) [.t 40, .t 38]])
 (.seq
 (.ops [6] [
 ox 41 .mv [.t 2],
 ox 42 .mv [.t 8],
 ox 43 .callv [.t 41, .t 42],
 ox 6 .mv [.t 43]])
 .ret)))))
def r30 : List ARes := [.tmp 6]
theorem ok30 : FnOk Tryd.prog 30 c30 r30 :=
  ⟨Tryd.f30, _, Tryd.func30, by kernel_rfl, rfl, by kernel_rfl, by kernel_rfl⟩
/-- rill/pack.number -/
def c31 : ACode :=
 (.seq
 (.ops [0] [
 ox 2 .mv [.c (.int .i64 0)]])
 (.seq
 (.ops [0, 3] [
 ox 3 .mv [.c (.int .u64 0)]])
 (.seq
 (.seq
 (.ops [3, 6, 7, 8] [
 ox 6 .mv [.t 0],
 ox 7 .len [.t 6],
 ox 8 .mv [.c (.int .i64 0)]])
 (.block 0
 (.loop [3, 6, 7, 8]
 (.seq
 (.ops [3, 6, 7, 8, 9] [
 ox 9 (.cmp .lss) [.t 8, .t 7]])
 (.seq
 (.cond (.t 9)
 .skip
 (.exit 0))
 (.seq
 (.block 1
 (.seq
 (.ops [3, 5, 6, 7, 8] [
 ox 10 (.idxAddr 1) [.t 6, .t 8],
 ox 11 (.load false 1) [.t 10],
 ox 5 .mv [.t 11]])
 (.ops [3, 6, 7, 8] [
 ox 12 .mv [.t 3],
 ox 13 (.shift .shl) [.t 12, .c (.int .u64 8)],
 ox 14 .mv [.t 5],
 ox 15 (.conv .u64) [.t 14],
 ox 16 (.arith .or) [.t 13, .t 15],
 ox 3 .mv [.t 16]])))
 (.ops [3, 6, 7, 8] [
 ox 17 (.arith .add) [.t 8, .c (.int .i64 1)],
 ox 8 .mv [.t 17]])))))))
 (.seq
 (.ops [2] [
 ox 18 .mv [.t 3],
 ox 19 (.conv .i64) [.t 18],
 ox 2 .mv [.t 19]])
 .ret))))
def r31 : List ARes := [.tmp 2]
theorem ok31 : FnOk Tryd.prog 31 c31 r31 :=
  ⟨Tryd.f31, _, Tryd.func31, by kernel_rfl, rfl, by kernel_rfl, by kernel_rfl⟩
/-- rill/mac.blockOf -/
def c32 : ACode :=
 (.seq
 (.ops [0, 1, 4] [
 ox 4 (.alloc (List.replicate 64 (.int .u8 0))) []])
 (.seq
 (.ops [0, 1, 4, 5] [
 ox 5 (.alloc (List.replicate 64 (.int .u8 0))) []])
 (.seq
 (.seq
 (.ops [0, 1, 4, 5, 10] [
 ox 8 .mv [.t 0],
 ox 9 .len [.t 8],
 ox 10 (.cmp .gtr) [.t 9, .c (.int .i64 64)]])
 (.cond (.t 10)
 (.seq
 (.ops [1, 4, 5, 6] [
 ox 11 .mv [.t 0],
 ox 12 (.call 36) [.t 11],
 ox 6 (.alloc (List.replicate 32 (.int .u8 0))) [],
 oy (.store 32) [.t 6, .t 12]])
 (.drawn [1, 4, 5] [
 ox 13 (.sliceArr 64 1 false false false) [.t 5],
 ox 14 (.sliceArr 32 1 false false false) [.t 6],
 od 15 (.copy 1) [.t 13, .t 14] 0 1]))
 (.ops [1, 4, 5] [
 ox 16 (.sliceArr 64 1 false false false) [.t 5],
 ox 17 .mv [.t 0],
 ox 18 (.copy 1) [.t 16, .t 17]])))
 (.seq
 (.seq
 (.ops [1, 4, 5, 19] [
 ox 19 .mv [.c (.int .i64 0)]])
 (.block 0
 (.loop [1, 4, 5, 19]
 (.seq
 (.ops [1, 4, 5, 19, 20] [
 ox 20 (.cmp .lss) [.t 19, .c (.int .i64 64)]])
 (.seq
 (.cond (.t 20)
 .skip
 (.exit 0))
 (.seq
 (.block 1
 (.seq
 (.ops [1, 4, 5, 7, 19] [
 ox 21 .mv [.t 19],
 ox 7 .mv [.t 21]])
 (.ops [1, 4, 5, 19] [
 ox 22 .mv [.t 7],
 ox 23 (.idxAddrArr 64 1) [.t 5, .t 22],
 ox 24 (.load false 1) [.t 23],
 ox 25 .mv [.t 1],
 ox 26 (.arith .xor) [.t 24, .t 25],
 ox 27 (.idxAddrArr 64 1) [.t 5, .t 22],
 oy (.store 1) [.t 27, .t 26]])))
 (.ops [1, 4, 5, 19] [
 ox 28 (.arith .add) [.t 19, .c (.int .i64 1)],
 ox 19 .mv [.t 28]])))))))
 (.seq
 (.ops [4] [
 ox 29 (.load true 64) [.t 5],
 oy (.store 64) [.t 4, .t 29]])
 .ret)))))
def r32 : List ARes := [.cell 4 true 64]
theorem ok32 : FnOk Tryd.prog 32 c32 r32 :=
  ⟨Tryd.f32, _, Tryd.func32, by kernel_rfl, rfl, by kernel_rfl, by kernel_rfl⟩
/-- rill/sha.New -/
def c33 : ACode :=
 (.seq
 (.ops [] [
 ox 0 .mv [.c .nilp]])
 (.seq
 (.ops [0] [
 ox 1 (.build [.int .u32 0, .int .u32 0, .int .u32 0, .int .u32 0, .int .u32 0, .int .u32 0, .int .u32 0, .int .u32 0] [(0, 1), (1, 1), (2, 1), (3, 1), (4, 1), (5, 1), (6, 1), (7, 1)]) [.c (.int .u32 1779033703), .c (.int .u32 3144134277), .c (.int .u32 1013904242), .c (.int .u32 2773480762), .c (.int .u32 1359893119), .c (.int .u32 2600822924), .c (.int .u32 528734635), .c (.int .u32 1541459225)],
 ox 2 (.build [.int .u32 0, .int .u32 0, .int .u32 0, .int .u32 0, .int .u32 0, .int .u32 0, .int .u32 0, .int .u32 0, .nils, .int .i64 0] [(0, 8)]) [.t 1],
 ox 3 .box [.t 2],
 ox 0 .mv [.t 3]])
 .ret))
def r33 : List ARes := [.tmp 0]
theorem ok33 : FnOk Tryd.prog 33 c33 r33 :=
  ⟨Tryd.f33, _, Tryd.func33, by kernel_rfl, rfl, by kernel_rfl, by kernel_rfl⟩
/-- (*rill/sha.Hash).Add -/
def c34 : ACode :=
 (.seq
 (.ops [0, 1] [
 ox 5 .mv [.t 0],
 ox 6 .nilCheck [.t 5],
 ox 7 (.fieldAddr 9) [.t 6],
 ox 8 (.load false 1) [.t 7],
 ox 9 .mv [.t 1],
 ox 10 .len [.t 9],
 ox 11 (.arith .add) [.t 8, .t 10],
 ox 12 .nilCheck [.t 5],
 ox 13 (.fieldAddr 9) [.t 12],
 oy (.store 1) [.t 13, .t 11]])
 (.seq
 (.ops [0] [
 ox 14 .mv [.t 0],
 ox 15 .mv [.t 0],
 ox 16 .nilCheck [.t 15],
 ox 17 (.fieldAddr 8) [.t 16],
 ox 18 (.load false 1) [.t 17],
 ox 19 .mv [.t 1],
 ox 20 (.append 1 1) [.t 18, .t 19],
 ox 21 .nilCheck [.t 14],
 ox 22 (.fieldAddr 8) [.t 21],
 oy (.store 1) [.t 22, .t 20]])
 (.seq
 (.ops [0, 4] [
 ox 4 .mv [.c (.int .i64 0)]])
 (.seq
 (.block 0
 (.loop [0, 4]
 (.seq
 (.seq
 (.ops [0, 4, 30] [
 ox 23 .mv [.t 0],
 ox 24 .nilCheck [.t 23],
 ox 25 (.fieldAddr 8) [.t 24],
 ox 26 (.load false 1) [.t 25],
 ox 27 .len [.t 26],
 ox 28 .mv [.t 4],
 ox 29 (.arith .sub) [.t 27, .t 28],
 ox 30 (.cmp .geq) [.t 29, .c (.int .i64 64)]])
 (.cond (.t 30)
 .skip
 (.exit 0)))
 (.seq
 (.block 1
 (.drawn [0, 4] [
 od 33 .mv [.t 0] 0 1,
 ox 34 .mv [.t 0],
 ox 35 .nilCheck [.t 34],
 ox 36 (.fieldAddr 0) [.t 35],
 ox 37 (.load true 8) [.t 36],
 ox 38 .mv [.t 0],
 ox 39 .nilCheck [.t 38],
 ox 40 (.fieldAddr 8) [.t 39],
 ox 41 (.load false 1) [.t 40],
 ox 42 .mv [.t 4],
 ox 43 .mv [.t 4],
 ox 44 (.arith .add) [.t 43, .c (.int .i64 64)],
 ox 45 (.slice 1 true true false) [.t 41, .t 42, .t 44],
 od 46 (.call 37) [.t 37, .t 45] 0 1,
 od 47 .nilCheck [.t 33] 1 1,
 od 48 (.fieldAddr 0) [.t 47] 1 1,
 oe (.store 8) [.t 48, .t 46] 1 2]))
 (.ops [0, 4] [
 ox 31 .mv [.t 4],
 ox 32 (.arith .add) [.t 31, .c (.int .i64 64)],
 ox 4 .mv [.t 32]])))))
 (.ops [] [
 ox 49 .mv [.t 0],
 ox 50 (.mkSl 0 [] []) [],
 ox 51 .mv [.t 0],
 ox 52 .nilCheck [.t 51],
 ox 53 (.fieldAddr 8) [.t 52],
 ox 54 (.load false 1) [.t 53],
 ox 55 .mv [.t 4],
 ox 56 (.slice 1 true false false) [.t 54, .t 55],
 ox 57 (.append 1 1) [.t 50, .t 56],
 ox 58 .nilCheck [.t 49],
 ox 59 (.fieldAddr 8) [.t 58],
 oy (.store 1) [.t 59, .t 57]])))))
def r34 : List ARes := []
theorem ok34 : FnOk Tryd.prog 34 c34 r34 :=
  ⟨Tryd.f34, _, Tryd.func34, by kernel_rfl, rfl, by kernel_rfl, by kernel_rfl⟩
/-- (*rill/sha.Hash).Sum -/
def c35 : ACode :=
 (.seq
 (.ops [0, 2] [
 ox 2 (.alloc (List.replicate 32 (.int .u8 0))) []])
 (.seq
 (.ops [0, 2, 3] [
 ox 9 (.mkSl 0 [] []) [],
 ox 10 .mv [.t 0],
 ox 11 .nilCheck [.t 10],
 ox 12 (.fieldAddr 8) [.t 11],
 ox 13 (.load false 1) [.t 12],
 ox 14 (.append 1 1) [.t 9, .t 13],
 ox 15 (.mkSl 1 [.int .u8 0] [(0, 1)]) [.c (.int .u8 128)],
 ox 16 (.append 1 1) [.t 14, .t 15],
 ox 3 .mv [.t 16]])
 (.seq
 (.block 0
 (.loop [0, 2, 3]
 (.seq
 (.seq
 (.ops [0, 2, 3, 20] [
 ox 17 .mv [.t 3],
 ox 18 .len [.t 17],
 ox 19 (.arith .rem) [.t 18, .c (.int .i64 64)],
 ox 20 (.eq true .int) [.t 19, .c (.int .i64 56)]])
 (.cond (.t 20)
 .skip
 (.exit 0)))
 (.block 1
 (.ops [0, 2, 3] [
 ox 21 .mv [.t 3],
 ox 22 (.mkSl 1 [.int .u8 0] [(0, 1)]) [.c (.int .u8 0)],
 ox 23 (.append 1 1) [.t 21, .t 22],
 ox 3 .mv [.t 23]])))))
 (.seq
 (.ops [0, 2, 3, 4] [
 ox 24 .mv [.t 0],
 ox 25 .nilCheck [.t 24],
 ox 26 (.fieldAddr 9) [.t 25],
 ox 27 (.load false 1) [.t 26],
 ox 28 (.conv .u64) [.t 27],
 ox 29 (.arith .mul) [.t 28, .c (.int .u64 8)],
 ox 4 .mv [.t 29]])
 (.seq
 (.seq
 (.ops [0, 2, 3, 4, 5] [
 ox 5 .mv [.c (.int .i64 56)]])
 (.block 2
 (.loop [0, 2, 3, 4, 5]
 (.seq
 (.seq
 (.ops [0, 2, 3, 4, 5, 31] [
 ox 30 .mv [.t 5],
 ox 31 (.cmp .geq) [.t 30, .c (.int .i64 0)]])
 (.cond (.t 31)
 .skip
 (.exit 2)))
 (.seq
 (.block 3
 (.ops [0, 2, 3, 4, 5] [
 ox 34 .mv [.t 3],
 ox 35 .mv [.t 4],
 ox 36 .mv [.t 5],
 ox 37 (.shift .shr) [.t 35, .t 36],
 ox 38 (.conv .u8) [.t 37],
 ox 39 (.mkSl 1 [.int .u8 0] [(0, 1)]) [.t 38],
 ox 40 (.append 1 1) [.t 34, .t 39],
 ox 3 .mv [.t 40]]))
 (.ops [0, 2, 3, 4, 5] [
 ox 32 .mv [.t 5],
 ox 33 (.arith .sub) [.t 32, .c (.int .i64 8)],
 ox 5 .mv [.t 33]]))))))
 (.seq
 (.ops [2, 3, 6] [
 ox 41 .mv [.t 0],
 ox 42 .nilCheck [.t 41],
 ox 43 (.fieldAddr 0) [.t 42],
 ox 44 (.load true 8) [.t 43],
 ox 6 (.alloc [.int .u32 0, .int .u32 0, .int .u32 0, .int .u32 0, .int .u32 0, .int .u32 0, .int .u32 0, .int .u32 0]) [],
 oy (.store 8) [.t 6, .t 44]])
 (.seq
 (.block 4
 (.loop [2, 3, 6]
 (.seq
 (.seq
 (.ops [2, 3, 6, 47] [
 ox 45 .mv [.t 3],
 ox 46 .len [.t 45],
 ox 47 (.cmp .gtr) [.t 46, .c (.int .i64 0)]])
 (.cond (.t 47)
 .skip
 (.exit 4)))
 (.seq
 (.block 5
 (.drawn [2, 3, 6] [
 ox 50 (.load true 8) [.t 6],
 ox 51 .mv [.t 3],
 ox 52 (.slice 1 false true false) [.t 51, .c (.int .i64 64)],
 od 53 (.call 37) [.t 50, .t 52] 0 1,
 oe (.store 8) [.t 6, .t 53] 1 2]))
 (.ops [2, 3, 6] [
 ox 48 .mv [.t 3],
 ox 49 (.slice 1 true false false) [.t 48, .c (.int .i64 64)],
 ox 3 .mv [.t 49]])))))
 (.seq
 (.ops [2, 6, 7] [
 ox 7 (.alloc (List.replicate 32 (.int .u8 0))) []])
 (.seq
 (.seq
 (.ops [2, 6, 7, 54] [
 ox 54 .mv [.c (.int .i64 0)]])
 (.block 6
 (.loop [2, 6, 7, 54]
 (.seq
 (.ops [2, 6, 7, 54, 55] [
 ox 55 (.cmp .lss) [.t 54, .c (.int .i64 32)]])
 (.seq
 (.cond (.t 55)
 .skip
 (.exit 6))
 (.seq
 (.block 7
 (.seq
 (.ops [2, 6, 7, 8, 54] [
 ox 56 .mv [.t 54],
 ox 8 .mv [.t 56]])
 (.ops [2, 6, 7, 54] [
 ox 57 .mv [.t 8],
 ox 58 .mv [.t 8],
 ox 59 (.arith .quo) [.t 58, .c (.int .i64 4)],
 ox 60 (.idxAddrArr 8 1) [.t 6, .t 59],
 ox 61 (.load false 1) [.t 60],
 ox 62 .mv [.t 8],
 ox 63 (.arith .rem) [.t 62, .c (.int .i64 4)],
 ox 64 (.arith .mul) [.c (.int .i64 8), .t 63],
 ox 65 (.arith .sub) [.c (.int .i64 24), .t 64],
 ox 66 (.shift .shr) [.t 61, .t 65],
 ox 67 (.conv .u8) [.t 66],
 ox 68 (.idxAddrArr 32 1) [.t 7, .t 57],
 oy (.store 1) [.t 68, .t 67]])))
 (.ops [2, 6, 7, 54] [
 ox 69 (.arith .add) [.t 54, .c (.int .i64 1)],
 ox 54 .mv [.t 69]])))))))
 (.seq
 (.ops [2] [
 ox 70 (.load true 32) [.t 7],
 oy (.store 32) [.t 2, .t 70]])
 .ret))))))))))
def r35 : List ARes := [.cell 2 true 32]
theorem ok35 : FnOk Tryd.prog 35 c35 r35 :=
  ⟨Tryd.f35, _, Tryd.func35, by kernel_rfl, rfl, by kernel_rfl, by kernel_rfl⟩
/-- rill/sha.Of -/
def c36 : ACode :=
 (.seq
 (.ops [0, 2] [
 ox 2 (.alloc (List.replicate 32 (.int .u8 0))) []])
 (.seq
 (.ops [0, 2, 3] [
 ox 4 (.call 33) [],
 ox 3 .mv [.t 4]])
 (.seq
 (.ops [2, 3] [
 ox 5 .mv [.t 3],
 ox 6 .mv [.t 0],
 ox 7 (.call 34) [.t 5, .t 6]])
 (.seq
 (.ops [2] [
 ox 8 .mv [.t 3],
 ox 9 (.call 35) [.t 8],
 oy (.store 32) [.t 2, .t 9]])
 .ret))))
def r36 : List ARes := [.cell 2 true 32]
theorem ok36 : FnOk Tryd.prog 36 c36 r36 :=
  ⟨Tryd.f36, _, Tryd.func36, by kernel_rfl, rfl, by kernel_rfl, by kernel_rfl⟩
/-- rill/sha.take -/
def c37 : ACode :=
 (.seq
 (.ops [1, 2, 4] [
 ox 2 .box [.t 0],
 ox 4 (.alloc [.int .u32 0, .int .u32 0, .int .u32 0, .int .u32 0, .int .u32 0, .int .u32 0, .int .u32 0, .int .u32 0]) []])
 (.seq
 (.ops [1, 2, 4, 5] [
 ox 5 (.alloc (List.replicate 64 (.int .u32 0))) []])
 (.seq
 (.seq
 (.ops [1, 2, 4, 5, 21] [
 ox 21 .mv [.c (.int .i64 0)]])
 (.block 0
 (.loop [1, 2, 4, 5, 21]
 (.seq
 (.ops [1, 2, 4, 5, 21, 22] [
 ox 22 (.cmp .lss) [.t 21, .c (.int .i64 16)]])
 (.seq
 (.cond (.t 22)
 .skip
 (.exit 0))
 (.seq
 (.block 1
 (.seq
 (.ops [1, 2, 4, 5, 6, 21] [
 ox 23 .mv [.t 21],
 ox 6 .mv [.t 23]])
 (.drawn [1, 2, 4, 5, 21] [
 ox 24 .mv [.t 6],
 ox 25 .mv [.t 1],
 ox 26 .mv [.t 6],
 ox 27 (.arith .mul) [.c (.int .i64 4), .t 26],
 ox 28 (.idxAddr 1) [.t 25, .t 27],
 ox 29 (.load false 1) [.t 28],
 ox 30 (.conv .u32) [.t 29],
 ox 31 (.shift .shl) [.t 30, .c (.int .u64 24)],
 ox 32 .mv [.t 1],
 ox 33 .mv [.t 6],
 ox 34 (.arith .mul) [.c (.int .i64 4), .t 33],
 ox 35 (.arith .add) [.t 34, .c (.int .i64 1)],
 ox 36 (.idxAddr 1) [.t 32, .t 35],
 ox 37 (.load false 1) [.t 36],
 ox 38 (.conv .u32) [.t 37],
 ox 39 (.shift .shl) [.t 38, .c (.int .u64 16)],
 ox 40 (.arith .or) [.t 31, .t 39],
 ox 41 .mv [.t 1],
 ox 42 .mv [.t 6],
 ox 43 (.arith .mul) [.c (.int .i64 4), .t 42],
 ox 44 (.arith .add) [.t 43, .c (.int .i64 2)],
 ox 45 (.idxAddr 1) [.t 41, .t 44],
 ox 46 (.load false 1) [.t 45],
 ox 47 (.conv .u32) [.t 46],
 ox 48 (.shift .shl) [.t 47, .c (.int .u64 8)],
 ox 49 (.arith .or) [.t 40, .t 48],
 ox 50 .mv [.t 1],
 ox 51 .mv [.t 6],
 ox 52 (.arith .mul) [.c (.int .i64 4), .t 51],
 ox 53 (.arith .add) [.t 52, .c (.int .i64 3)],
 ox 54 (.idxAddr 1) [.t 50, .t 53],
 ox 55 (.load false 1) [.t 54],
 ox 56 (.conv .u32) [.t 55],
 ox 57 (.arith .or) [.t 49, .t 56],
 ox 58 (.idxAddrArr 64 1) [.t 5, .t 24],
 oe (.store 1) [.t 58, .t 57] 0 1])))
 (.ops [1, 2, 4, 5, 21] [
 ox 59 (.arith .add) [.t 21, .c (.int .i64 1)],
 ox 21 .mv [.t 59]])))))))
 (.seq
 (.seq
 (.ops [2, 4, 5, 7] [
 ox 7 .mv [.c (.int .i64 16)]])
 (.block 2
 (.loop [2, 4, 5, 7]
 (.seq
 (.seq
 (.ops [2, 4, 5, 7, 61] [
 ox 60 .mv [.t 7],
 ox 61 (.cmp .lss) [.t 60, .c (.int .i64 64)]])
 (.cond (.t 61)
 .skip
 (.exit 2)))
 (.seq
 (.block 3
 (.seq
 (.drawn [2, 4, 5, 7, 8, 9] [
 ox 64 .mv [.t 7],
 ox 65 (.arith .sub) [.t 64, .c (.int .i64 2)],
 ox 66 (.idxAddrArr 64 1) [.t 5, .t 65],
 ox 67 (.load false 1) [.t 66],
 ox 68 .mv [.t 7],
 ox 69 (.arith .sub) [.t 68, .c (.int .i64 15)],
 ox 70 (.idxAddrArr 64 1) [.t 5, .t 69],
 ox 71 (.load false 1) [.t 70],
 ox 8 .mv [.t 67],
 ox 9 .mv [.t 71]])
 (.drawn [2, 4, 5, 7] [
 od 72 .mv [.t 7] 0 4,
 ox 73 .mv [.t 8],
 od 74 (.call 38) [.t 73, .c (.int .u64 17)] 0 1,
 od 75 .mv [.t 8] 0 1,
 od 76 (.call 38) [.t 75, .c (.int .u64 19)] 1 2,
 od 77 (.arith .xor) [.t 74, .t 76] 2 4,
 od 78 .mv [.t 8] 0 4,
 od 79 (.shift .shr) [.t 78, .c (.int .u64 10)] 0 4,
 od 80 (.arith .xor) [.t 77, .t 79] 2 4,
 od 81 .mv [.t 7] 0 4,
 od 82 (.arith .sub) [.t 81, .c (.int .i64 7)] 0 4,
 od 83 (.idxAddrArr 64 1) [.t 5, .t 82] 0 4,
 od 84 (.load false 1) [.t 83] 0 4,
 od 85 (.arith .add) [.t 80, .t 84] 2 4,
 od 86 .mv [.t 9] 0 2,
 od 87 (.call 38) [.t 86, .c (.int .u64 7)] 2 3,
 od 88 .mv [.t 9] 0 3,
 od 89 (.call 38) [.t 88, .c (.int .u64 18)] 3 4,
 od 90 (.arith .xor) [.t 87, .t 89] 4 4,
 od 91 .mv [.t 9] 0 4,
 od 92 (.shift .shr) [.t 91, .c (.int .u64 3)] 0 4,
 od 93 (.arith .xor) [.t 90, .t 92] 4 4,
 od 94 (.arith .add) [.t 85, .t 93] 4 4,
 od 95 .mv [.t 7] 0 4,
 od 96 (.arith .sub) [.t 95, .c (.int .i64 16)] 0 4,
 od 97 (.idxAddrArr 64 1) [.t 5, .t 96] 0 4,
 od 98 (.load false 1) [.t 97] 0 4,
 od 99 (.arith .add) [.t 94, .t 98] 4 4,
 od 100 (.idxAddrArr 64 1) [.t 5, .t 72] 4 4,
 oe (.store 1) [.t 100, .t 99] 4 5])))
 (.ops [2, 4, 5, 7] [
 ox 62 .mv [.t 7],
 ox 63 (.arith .add) [.t 62, .c (.int .i64 1)],
 ox 7 .mv [.t 63]]))))))
 (.seq
 (.drawn [2, 4, 5, 10, 11, 12, 13, 14, 15, 16, 17] [
 ox 101 (.idxAddrArr 8 1) [.t 2, .c (.int .i64 0)],
 ox 102 (.load false 1) [.t 101],
 ox 103 (.idxAddrArr 8 1) [.t 2, .c (.int .i64 1)],
 ox 104 (.load false 1) [.t 103],
 ox 105 (.idxAddrArr 8 1) [.t 2, .c (.int .i64 2)],
 ox 106 (.load false 1) [.t 105],
 ox 107 (.idxAddrArr 8 1) [.t 2, .c (.int .i64 3)],
 ox 108 (.load false 1) [.t 107],
 ox 109 (.idxAddrArr 8 1) [.t 2, .c (.int .i64 4)],
 ox 110 (.load false 1) [.t 109],
 ox 111 (.idxAddrArr 8 1) [.t 2, .c (.int .i64 5)],
 ox 112 (.load false 1) [.t 111],
 ox 113 (.idxAddrArr 8 1) [.t 2, .c (.int .i64 6)],
 ox 114 (.load false 1) [.t 113],
 ox 115 (.idxAddrArr 8 1) [.t 2, .c (.int .i64 7)],
 ox 116 (.load false 1) [.t 115],
 ox 10 .mv [.t 102],
 ox 11 .mv [.t 104],
 ox 12 .mv [.t 106],
 ox 13 .mv [.t 108],
 ox 14 .mv [.t 110],
 ox 15 .mv [.t 112],
 ox 16 .mv [.t 114],
 ox 17 .mv [.t 116]])
 (.seq
 (.seq
 (.ops [2, 4, 5, 10, 11, 12, 13, 14, 15, 16, 17, 117] [
 ox 117 .mv [.c (.int .i64 0)]])
 (.block 4
 (.loop [2, 4, 5, 10, 11, 12, 13, 14, 15, 16, 17, 117]
 (.seq
 (.ops [2, 4, 5, 10, 11, 12, 13, 14, 15, 16, 17, 117, 118] [
 ox 118 (.cmp .lss) [.t 117, .c (.int .i64 64)]])
 (.seq
 (.cond (.t 118)
 .skip
 (.exit 4))
 (.seq
 (.block 5
 (.seq
 (.ops [2, 4, 5, 10, 11, 12, 13, 14, 15, 16, 17, 18, 117] [
 ox 119 .mv [.t 117],
 ox 18 .mv [.t 119]])
 (.seq
 (.drawn [2, 4, 5, 10, 11, 12, 13, 14, 15, 16, 19, 117] [
 od 120 .mv [.t 17] 0 3,
 ox 121 .mv [.t 14],
 od 122 (.call 38) [.t 121, .c (.int .u64 6)] 0 1,
 od 123 .mv [.t 14] 0 1,
 od 124 (.call 38) [.t 123, .c (.int .u64 11)] 1 2,
 od 125 (.arith .xor) [.t 122, .t 124] 2 3,
 od 126 .mv [.t 14] 0 2,
 od 127 (.call 38) [.t 126, .c (.int .u64 25)] 2 3,
 od 128 (.arith .xor) [.t 125, .t 127] 3 3,
 od 129 (.arith .add) [.t 120, .t 128] 3 3,
 od 130 .mv [.t 14] 0 3,
 od 131 .mv [.t 15] 0 3,
 od 132 (.arith .and) [.t 130, .t 131] 0 3,
 od 133 .mv [.t 14] 0 3,
 od 134 .bnot [.t 133] 0 3,
 od 135 .mv [.t 16] 0 3,
 od 136 (.arith .and) [.t 134, .t 135] 0 3,
 od 137 (.arith .xor) [.t 132, .t 136] 0 3,
 od 138 (.arith .add) [.t 129, .t 137] 3 3,
 od 139 .mv [.t 18] 0 3,
 od 140 (.idxAddrArr 64 1) [.c (.ptr 0 0), .t 139] 0 3,
 od 141 (.load false 1) [.t 140] 0 3,
 od 142 (.arith .add) [.t 138, .t 141] 3 3,
 od 143 .mv [.t 18] 0 3,
 od 144 (.idxAddrArr 64 1) [.t 5, .t 143] 0 3,
 od 145 (.load false 1) [.t 144] 0 3,
 od 146 (.arith .add) [.t 142, .t 145] 3 3,
 od 19 .mv [.t 146] 3 3])
 (.seq
 (.ops [2, 4, 5, 10, 11, 12, 13, 14, 15, 16, 19, 20, 117] [
 ox 147 .mv [.t 10],
 ox 148 (.call 38) [.t 147, .c (.int .u64 2)],
 ox 149 .mv [.t 10],
 ox 150 (.call 38) [.t 149, .c (.int .u64 13)],
 ox 151 (.arith .xor) [.t 148, .t 150],
 ox 152 .mv [.t 10],
 ox 153 (.call 38) [.t 152, .c (.int .u64 22)],
 ox 154 (.arith .xor) [.t 151, .t 153],
 ox 155 .mv [.t 10],
 ox 156 .mv [.t 11],
 ox 157 (.arith .and) [.t 155, .t 156],
 ox 158 .mv [.t 10],
 ox 159 .mv [.t 12],
 ox 160 (.arith .and) [.t 158, .t 159],
 ox 161 (.arith .xor) [.t 157, .t 160],
 ox 162 .mv [.t 11],
 ox 163 .mv [.t 12],
 ox 164 (.arith .and) [.t 162, .t 163],
 ox 165 (.arith .xor) [.t 161, .t 164],
 ox 166 (.arith .add) [.t 154, .t 165],
 ox 20 .mv [.t 166]])
 (.ops [2, 4, 5, 10, 11, 12, 13, 14, 15, 16, 17, 117] [
 ox 167 .mv [.t 16],
 ox 168 .mv [.t 15],
 ox 169 .mv [.t 14],
 ox 170 .mv [.t 13],
 ox 171 .mv [.t 19],
 ox 172 (.arith .add) [.t 170, .t 171],
 ox 173 .mv [.t 12],
 ox 174 .mv [.t 11],
 ox 175 .mv [.t 10],
 ox 176 .mv [.t 19],
 ox 177 .mv [.t 20],
 ox 178 (.arith .add) [.t 176, .t 177],
 ox 17 .mv [.t 167],
 ox 16 .mv [.t 168],
 ox 15 .mv [.t 169],
 ox 14 .mv [.t 172],
 ox 13 .mv [.t 173],
 ox 12 .mv [.t 174],
 ox 11 .mv [.t 175],
 ox 10 .mv [.t 178]])))))
 (.ops [2, 4, 5, 10, 11, 12, 13, 14, 15, 16, 17, 117] [
 ox 179 (.arith .add) [.t 117, .c (.int .i64 1)],
 ox 117 .mv [.t 179]])))))))
 (.seq
 (.ops [4] [
 ox 180 (.idxAddrArr 8 1) [.t 2, .c (.int .i64 0)],
 ox 181 (.load false 1) [.t 180],
 ox 182 .mv [.t 10],
 ox 183 (.arith .add) [.t 181, .t 182],
 ox 184 (.idxAddrArr 8 1) [.t 2, .c (.int .i64 1)],
 ox 185 (.load false 1) [.t 184],
 ox 186 .mv [.t 11],
 ox 187 (.arith .add) [.t 185, .t 186],
 ox 188 (.idxAddrArr 8 1) [.t 2, .c (.int .i64 2)],
 ox 189 (.load false 1) [.t 188],
 ox 190 .mv [.t 12],
 ox 191 (.arith .add) [.t 189, .t 190],
 ox 192 (.idxAddrArr 8 1) [.t 2, .c (.int .i64 3)],
 ox 193 (.load false 1) [.t 192],
 ox 194 .mv [.t 13],
 ox 195 (.arith .add) [.t 193, .t 194],
 ox 196 (.idxAddrArr 8 1) [.t 2, .c (.int .i64 4)],
 ox 197 (.load false 1) [.t 196],
 ox 198 .mv [.t 14],
 ox 199 (.arith .add) [.t 197, .t 198],
 ox 200 (.idxAddrArr 8 1) [.t 2, .c (.int .i64 5)],
 ox 201 (.load false 1) [.t 200],
 ox 202 .mv [.t 15],
 ox 203 (.arith .add) [.t 201, .t 202],
 ox 204 (.idxAddrArr 8 1) [.t 2, .c (.int .i64 6)],
 ox 205 (.load false 1) [.t 204],
 ox 206 .mv [.t 16],
 ox 207 (.arith .add) [.t 205, .t 206],
 ox 208 (.idxAddrArr 8 1) [.t 2, .c (.int .i64 7)],
 ox 209 (.load false 1) [.t 208],
 ox 210 .mv [.t 17],
 ox 211 (.arith .add) [.t 209, .t 210],
 ox 212 (.build [.int .u32 0, .int .u32 0, .int .u32 0, .int .u32 0, .int .u32 0, .int .u32 0, .int .u32 0, .int .u32 0] [(0, 1), (1, 1), (2, 1), (3, 1), (4, 1), (5, 1), (6, 1), (7, 1)]) [.t 183, .t 187, .t 191, .t 195, .t 199, .t 203, .t 207, .t 211],
 oy (.store 8) [.t 4, .t 212]])
 .ret)))))))
def r37 : List ARes := [.cell 4 true 8]
theorem ok37 : FnOk Tryd.prog 37 c37 r37 :=
  ⟨Tryd.f37, _, Tryd.func37, by kernel_rfl, rfl, by kernel_rfl, by kernel_rfl⟩
/-- rill/sha.turn -/
def c38 : ACode :=
 (.seq
 (.ops [0, 1] [
 ox 4 .mv [.c (.int .u32 0)]])
 (.seq
 (.ops [4] [
 ox 5 .mv [.t 0],
 ox 6 .mv [.t 1],
 ox 7 (.shift .shr) [.t 5, .t 6],
 ox 8 .mv [.t 0],
 ox 9 .mv [.t 1],
 ox 10 (.arith .sub) [.c (.int .u64 32), .t 9],
 ox 11 (.shift .shl) [.t 8, .t 10],
 ox 12 (.arith .or) [.t 7, .t 11],
 ox 4 .mv [.t 12]])
 .ret))
def r38 : List ARes := [.tmp 4]
theorem ok38 : FnOk Tryd.prog 38 c38 r38 :=
  ⟨Tryd.f38, _, Tryd.func38, by kernel_rfl, rfl, by kernel_rfl, by kernel_rfl⟩
/-- (*rill/seal.Box).Open -/
def c54 : ACode :=
 (.seq
 (.ops [0, 1, 2, 3, 4] [
 ox 10 .mv [.c .nils],
 ox 11 .mv [.c (.bool false)]])
 (.seq
 (.ops [0, 1, 2, 3, 4, 12] [
 ox 13 .mv [.t 4],
 ox 14 .len [.t 13],
 ox 15 (.arith .sub) [.t 14, .c (.int .i64 32)],
 ox 12 .mv [.t 15]])
 (.seq
 (.seq
 (.ops [0, 1, 2, 3, 4, 12, 24] [
 ox 16 .mv [.t 1],
 ox 17 .mv [.t 2],
 ox 18 (.mkSl 2 [.int .i64 0, .int .i64 0] [(0, 1), (1, 1)]) [.t 16, .t 17],
 ox 19 (.call 57) [.t 18],
 ox 20 .not [.t 19],
 ox 21 .mv [.t 20],
 og 22 .mv [.t 12] 21 false,
 og 23 (.cmp .lss) [.t 22, .c (.int .i64 0)] 21 false,
 ox 24 .pick [.t 21, .c (.bool true), .t 23]])
 (.cond (.t 24)
 (.seq
 (.ops [10, 11] [
 ox 10 .mv [.c .nils],
 ox 11 .mv [.c (.bool false)]])
 .ret)
 .skip))
 (.seq
 (.seq
 (.drawn [0, 1, 2, 4, 12, 39] [
 ox 25 .mv [.t 0],
 ox 26 .mv [.t 1],
 ox 27 .mv [.t 2],
 ox 28 .mv [.t 3],
 ox 29 .mv [.t 4],
 ox 30 .mv [.t 12],
 ox 31 (.slice 1 false true false) [.t 29, .t 30],
 od 32 (.call 59) [.t 25, .t 26, .t 27, .t 28, .t 31] 0 1,
 od 33 .mv [.t 4] 0 1,
 od 34 .mv [.t 12] 0 1,
 od 35 (.slice 1 true false false) [.t 33, .t 34] 0 1,
 od 36 (.arrPtr 32) [.t 35] 0 1,
 od 37 (.load true 32) [.t 36] 0 1,
 od 38 (.call 58) [.t 32, .t 37] 1 2,
 od 39 .not [.t 38] 2 2])
 (.cond (.t 39)
 (.seq
 (.ops [10, 11] [
 ox 10 .mv [.c .nils],
 ox 11 .mv [.c (.bool false)]])
 .ret)
 .skip))
 (.seq
 (.drawn [10, 11] [
 ox 40 .mv [.t 0],
 ox 41 .nilCheck [.t 40],
 ox 42 (.fieldAddr 0) [.t 41],
 ox 43 (.load false 1) [.t 42],
 ox 44 .mv [.t 1],
 ox 45 .mv [.t 2],
 ox 46 .mv [.t 4],
 ox 47 .mv [.t 12],
 ox 48 (.slice 1 false true false) [.t 46, .t 47],
 od 49 (.call 60) [.t 43, .t 44, .t 45, .t 48] 0 1,
 od 10 .mv [.t 49] 1 1,
 od 11 .mv [.c (.bool true)] 1 1])
 .ret)))))
def r54 : List ARes := [.tmp 10, .tmp 11]
theorem ok54 : FnOk Tryd.prog 54 c54 r54 :=
  ⟨Tryd.f54, _, Tryd.func54, by kernel_rfl, rfl, by kernel_rfl, by kernel_rfl⟩
/-- (*rill/seal.Box).Seal -/
def c55 : ACode :=
 (.seq
 (.ops [0, 1, 2, 3, 4] [
 ox 10 .mv [.c .nils]])
 (.seq
 (.seq
 (.ops [0, 1, 2, 3, 4, 17] [
 ox 13 .mv [.t 1],
 ox 14 .mv [.t 2],
 ox 15 (.mkSl 2 [.int .i64 0, .int .i64 0] [(0, 1), (1, 1)]) [.t 13, .t 14],
 ox 16 (.call 57) [.t 15],
 ox 17 .not [.t 16]])
 (.cond (.t 17)
 (.seq
 (.ops [10] [
 ox 10 .mv [.c .nils]])
 .ret)
 .skip))
 (.seq
 (.ops [0, 1, 2, 3, 11] [
 ox 18 .mv [.t 0],
 ox 19 .nilCheck [.t 18],
 ox 20 (.fieldAddr 0) [.t 19],
 ox 21 (.load false 1) [.t 20],
 ox 22 .mv [.t 1],
 ox 23 .mv [.t 2],
 ox 24 .mv [.t 4],
 ox 25 (.call 60) [.t 21, .t 22, .t 23, .t 24],
 ox 11 .mv [.t 25]])
 (.seq
 (.ops [11, 12] [
 ox 26 .mv [.t 0],
 ox 27 .mv [.t 1],
 ox 28 .mv [.t 2],
 ox 29 .mv [.t 3],
 ox 30 .mv [.t 11],
 ox 31 (.call 59) [.t 26, .t 27, .t 28, .t 29, .t 30],
 ox 12 (.alloc (List.replicate 32 (.int .u8 0))) [],
 oy (.store 32) [.t 12, .t 31]])
 (.seq
 (.ops [10] [
 ox 32 .mv [.t 11],
 ox 33 (.sliceArr 32 1 false false false) [.t 12],
 ox 34 (.mkSl 2 [.nils, .nils] [(0, 1), (1, 1)]) [.t 32, .t 33],
 ox 35 (.call 61) [.t 34],
 ox 10 .mv [.t 35]])
 .ret)))))
def r55 : List ARes := [.tmp 10]
theorem ok55 : FnOk Tryd.prog 55 c55 r55 :=
  ⟨Tryd.f55, _, Tryd.func55, by kernel_rfl, rfl, by kernel_rfl, by kernel_rfl⟩
/-- rill/seal.placed -/
def c57 : ACode :=
 (.seq
 (.ops [0] [
 ox 2 .mv [.c (.bool false)]])
 (.seq
 (.seq
 (.ops [5, 6, 7] [
 ox 5 .mv [.t 0],
 ox 6 .len [.t 5],
 ox 7 .mv [.c (.int .i64 0)]])
 (.block 0
 (.loop [5, 6, 7]
 (.seq
 (.ops [5, 6, 7, 8] [
 ox 8 (.cmp .lss) [.t 7, .t 6]])
 (.seq
 (.cond (.t 8)
 .skip
 (.exit 0))
 (.seq
 (.block 1
 (.seq
 (.ops [4, 5, 6, 7] [
 ox 9 (.idxAddr 1) [.t 5, .t 7],
 ox 10 (.load false 1) [.t 9],
 ox 4 .mv [.t 10]])
 (.seq
 (.ops [5, 6, 7, 16] [
 ox 11 .mv [.t 4],
 ox 12 (.cmp .lss) [.t 11, .c (.int .i64 0)],
 ox 13 .mv [.t 12],
 og 14 .mv [.t 4] 13 false,
 og 15 (.cmp .gtr) [.t 14, .c (.int .i64 1099511627776)] 13 false,
 ox 16 .pick [.t 13, .c (.bool true), .t 15]])
 (.cond (.t 16)
 (.seq
 (.ops [2] [
 ox 2 .mv [.c (.bool false)]])
 .ret)
 .skip))))
 (.ops [5, 6, 7] [
 ox 17 (.arith .add) [.t 7, .c (.int .i64 1)],
 ox 7 .mv [.t 17]])))))))
 (.seq
 (.ops [2] [
 ox 2 .mv [.c (.bool true)]])
 .ret)))
def r57 : List ARes := [.tmp 2]
theorem ok57 : FnOk Tryd.prog 57 c57 r57 :=
  ⟨Tryd.f57, _, Tryd.func57, by kernel_rfl, rfl, by kernel_rfl, by kernel_rfl⟩
/-- rill/mac.Same -/
def c58 : ACode :=
 (.seq
 (.ops [2, 3] [
 ox 2 .box [.t 0],
 ox 3 .box [.t 1],
 ox 4 .mv [.c (.bool false)]])
 (.seq
 (.ops [2, 3, 5] [
 ox 5 .mv [.c (.int .u8 0)]])
 (.seq
 (.seq
 (.ops [2, 3, 5, 7] [
 ox 7 .mv [.c (.int .i64 0)]])
 (.block 0
 (.loop [2, 3, 5, 7]
 (.seq
 (.ops [2, 3, 5, 7, 8] [
 ox 8 (.cmp .lss) [.t 7, .c (.int .i64 32)]])
 (.seq
 (.cond (.t 8)
 .skip
 (.exit 0))
 (.seq
 (.block 1
 (.seq
 (.ops [2, 3, 5, 6, 7] [
 ox 9 .mv [.t 7],
 ox 6 .mv [.t 9]])
 (.drawn [2, 3, 5, 7] [
 ox 10 .mv [.t 5],
 ox 11 .mv [.t 6],
 ox 12 (.idxAddrArr 32 1) [.t 2, .t 11],
 ox 13 (.load false 1) [.t 12],
 ox 14 .mv [.t 6],
 ox 15 (.idxAddrArr 32 1) [.t 3, .t 14],
 ox 16 (.load false 1) [.t 15],
 ox 17 (.arith .xor) [.t 13, .t 16],
 ox 18 (.arith .or) [.t 10, .t 17],
 ox 5 .mv [.t 18]])))
 (.ops [2, 3, 5, 7] [
 ox 19 (.arith .add) [.t 7, .c (.int .i64 1)],
 ox 7 .mv [.t 19]])))))))
 (.seq
 (.ops [4] [
 ox 20 .mv [.t 5],
 ox 21 (.eq false .int) [.t 20, .c (.int .u8 0)],
 ox 4 .mv [.t 21]])
 .ret))))
def r58 : List ARes := [.tmp 4]
theorem ok58 : FnOk Tryd.prog 58 c58 r58 :=
  ⟨Tryd.f58, _, Tryd.func58, by kernel_rfl, rfl, by kernel_rfl, by kernel_rfl⟩
/-- (*rill/seal.Box).tag -/
def c59 : ACode :=
 (.seq
 (.ops [0, 1, 2, 3, 4, 10] [
 ox 10 (.alloc (List.replicate 32 (.int .u8 0))) []])
 (.seq
 (.drawn [10] [
 od 11 .mv [.t 0] 0 4,
 od 12 .nilCheck [.t 11] 0 4,
 od 13 (.fieldAddr 1) [.t 12] 0 4,
 od 14 (.load false 1) [.t 13] 0 4,
 ox 15 .mv [.t 3],
 ox 16 .len [.t 15],
 od 17 (.call 62) [.t 16] 0 1,
 od 18 .mv [.t 3] 0 3,
 od 19 .mv [.t 1] 0 1,
 od 20 (.call 62) [.t 19] 1 2,
 od 21 .mv [.t 2] 0 2,
 od 22 (.call 62) [.t 21] 2 3,
 od 23 .mv [.t 4] 0 3,
 od 24 (.mkSl 5 [.nils, .nils, .nils, .nils, .nils] [(0, 1), (1, 1), (2, 1), (3, 1), (4, 1)]) [.t 17, .t 18, .t 20, .t 22, .t 23] 3 3,
 od 25 (.call 61) [.t 24] 3 4,
 od 26 (.call 25) [.t 14, .t 25] 4 5,
 oe (.store 32) [.t 10, .t 26] 5 6])
 .ret))
def r59 : List ARes := [.cell 10 true 32]
theorem ok59 : FnOk Tryd.prog 59 c59 r59 :=
  ⟨Tryd.f59, _, Tryd.func59, by kernel_rfl, rfl, by kernel_rfl, by kernel_rfl⟩
/-- rill/ctr.Xor -/
def c60 : ACode :=
 (.seq
 (.ops [0, 1, 2, 3] [
 ox 8 .mv [.c .nils]])
 (.seq
 (.ops [3, 9] [
 ox 13 .mv [.t 0],
 ox 14 .mv [.t 1],
 ox 15 .mv [.t 2],
 ox 16 (.call 63) [.t 13, .t 14, .t 15],
 ox 9 .mv [.t 16]])
 (.seq
 (.ops [3, 9, 10] [
 ox 17 .mv [.t 3],
 ox 18 .len [.t 17],
 ox 19 (.mkSlice [.int .u8 0] 1) [.t 18, .t 18],
 ox 10 .mv [.t 19]])
 (.seq
 (.seq
 (.ops [9, 10, 20, 21, 22] [
 ox 20 .mv [.t 3],
 ox 21 .len [.t 20],
 ox 22 .mv [.c (.int .i64 0)]])
 (.block 0
 (.loop [9, 10, 20, 21, 22]
 (.seq
 (.ops [9, 10, 20, 21, 22, 23] [
 ox 23 (.cmp .lss) [.t 22, .t 21]])
 (.seq
 (.cond (.t 23)
 .skip
 (.exit 0))
 (.seq
 (.block 1
 (.seq
 (.ops [9, 10, 11, 12, 20, 21, 22] [
 ox 24 .mv [.t 22],
 ox 25 (.idxAddr 1) [.t 20, .t 22],
 ox 26 (.load false 1) [.t 25],
 ox 11 .mv [.t 24],
 ox 12 .mv [.t 26]])
 (.ops [9, 10, 20, 21, 22] [
 ox 27 .mv [.t 10],
 ox 28 .mv [.t 11],
 ox 29 .mv [.t 12],
 ox 30 .mv [.t 9],
 ox 31 .callv [.t 30],
 ox 32 (.arith .xor) [.t 29, .t 31],
 ox 33 (.idxAddr 1) [.t 27, .t 28],
 oy (.store 1) [.t 33, .t 32]])))
 (.ops [9, 10, 20, 21, 22] [
 ox 34 (.arith .add) [.t 22, .c (.int .i64 1)],
 ox 22 .mv [.t 34]])))))))
 (.seq
 (.ops [8] [
 ox 35 .mv [.t 10],
 ox 8 .mv [.t 35]])
 .ret)))))
def r60 : List ARes := [.tmp 8]
theorem ok60 : FnOk Tryd.prog 60 c60 r60 :=
  ⟨Tryd.f60, _, Tryd.func60, by kernel_rfl, rfl, by kernel_rfl, by kernel_rfl⟩
/-- rill/seal.join -/
def c61 : ACode :=
 (.seq
 (.ops [0] [
 ox 2 .mv [.c .nils]])
 (.seq
 (.ops [0, 3] [
 ox 3 .mv [.c .nils]])
 (.seq
 (.seq
 (.ops [3, 6, 7, 8] [
 ox 6 .mv [.t 0],
 ox 7 .len [.t 6],
 ox 8 .mv [.c (.int .i64 0)]])
 (.block 0
 (.loop [3, 6, 7, 8]
 (.seq
 (.ops [3, 6, 7, 8, 9] [
 ox 9 (.cmp .lss) [.t 8, .t 7]])
 (.seq
 (.cond (.t 9)
 .skip
 (.exit 0))
 (.seq
 (.block 1
 (.seq
 (.ops [3, 5, 6, 7, 8] [
 ox 10 (.idxAddr 1) [.t 6, .t 8],
 ox 11 (.load false 1) [.t 10],
 ox 5 .mv [.t 11]])
 (.ops [3, 6, 7, 8] [
 ox 12 .mv [.t 3],
 ox 13 .mv [.t 5],
 ox 14 (.append 1 1) [.t 12, .t 13],
 ox 3 .mv [.t 14]])))
 (.ops [3, 6, 7, 8] [
 ox 15 (.arith .add) [.t 8, .c (.int .i64 1)],
 ox 8 .mv [.t 15]])))))))
 (.seq
 (.ops [2] [
 ox 16 .mv [.t 3],
 ox 2 .mv [.t 16]])
 .ret))))
def r61 : List ARes := [.tmp 2]
theorem ok61 : FnOk Tryd.prog 61 c61 r61 :=
  ⟨Tryd.f61, _, Tryd.func61, by kernel_rfl, rfl, by kernel_rfl, by kernel_rfl⟩
/-- rill/seal.eight -/
def c62 : ACode :=
 (.seq
 (.ops [0] [
 ox 2 .mv [.c .nils]])
 (.seq
 (.ops [0, 3] [
 ox 3 .mv [.c .nils]])
 (.seq
 (.seq
 (.ops [0, 3, 4] [
 ox 4 .mv [.c (.int .i64 56)]])
 (.block 0
 (.loop [0, 3, 4]
 (.seq
 (.seq
 (.ops [0, 3, 4, 6] [
 ox 5 .mv [.t 4],
 ox 6 (.cmp .geq) [.t 5, .c (.int .i64 0)]])
 (.cond (.t 6)
 .skip
 (.exit 0)))
 (.seq
 (.block 1
 (.ops [0, 3, 4] [
 ox 9 .mv [.t 3],
 ox 10 .mv [.t 0],
 ox 11 .mv [.t 4],
 ox 12 (.shift .shr) [.t 10, .t 11],
 ox 13 (.conv .u8) [.t 12],
 ox 14 (.mkSl 1 [.int .u8 0] [(0, 1)]) [.t 13],
 ox 15 (.append 1 1) [.t 9, .t 14],
 ox 3 .mv [.t 15]]))
 (.ops [0, 3, 4] [
 ox 7 .mv [.t 4],
 ox 8 (.arith .sub) [.t 7, .c (.int .i64 8)],
 ox 4 .mv [.t 8]]))))))
 (.seq
 (.ops [2] [
 ox 16 .mv [.t 3],
 ox 2 .mv [.t 16]])
 .ret))))
def r62 : List ARes := [.tmp 2]
theorem ok62 : FnOk Tryd.prog 62 c62 r62 :=
  ⟨Tryd.f62, _, Tryd.func62, by kernel_rfl, rfl, by kernel_rfl, by kernel_rfl⟩
/-- rill/ctr.stream -/
def c63 : ACode :=
 (.seq
 (.ops [1, 2, 3] [
 ox 3 .box [.t 0],
 ox 6 .mv [.c .nilf]])
 (.seq
 (.ops [1, 2, 3, 7, 8] [
 ox 7 (.alloc (List.replicate 16 (.int .u8 0))) [],
 ox 8 (.alloc (List.replicate 16 (.int .u8 0))) []])
 (.seq
 (.ops [2, 3, 7, 8] [
 ox 11 (.sliceArr 16 1 false true true) [.t 7, .c (.int .i64 6), .c (.int .i64 6)],
 ox 12 .mv [.t 1],
 ox 13 (.conv .u64) [.t 12],
 ox 14 (.call 64) [.t 11, .t 13]])
 (.seq
 (.ops [3, 7, 8] [
 ox 15 (.sliceArr 16 1 true true true) [.t 7, .c (.int .i64 6), .c (.int .i64 12), .c (.int .i64 12)],
 ox 16 .mv [.t 2],
 ox 17 (.conv .u64) [.t 16],
 ox 18 (.call 64) [.t 15, .t 17]])
 (.seq
 (.ops [3, 7, 8, 9, 10] [
 ox 9 (.alloc [.int .i64 0]) [],
 ox 10 (.alloc [.int .u64 0]) [],
 oy (.store 1) [.t 9, .c (.int .i64 16)],
 oy (.store 1) [.t 10, .c (.int .u64 0)]])
 (.seq
 (.ops [6] [
 ox 19 (.mkFn (.func 65) 0) [.t 9, .t 7, .t 10, .t 3, .t 8],
 ox 6 .mv [.t 19]])
 .ret))))))
def r63 : List ARes := [.tmp 6]
theorem ok63 : FnOk Tryd.prog 63 c63 r63 :=
  ⟨Tryd.f63, _, Tryd.func63, by kernel_rfl, rfl, by kernel_rfl, by kernel_rfl⟩
/-- rill/ctr.put -/
def c64 : ACode :=
 (.seq
 (.ops [0, 1, 6, 7] [
 ox 5 .mv [.t 0],
 ox 6 .len [.t 5],
 ox 7 .mv [.c (.int .i64 0)]])
 (.block 0
 (.loop [0, 1, 6, 7]
 (.seq
 (.ops [0, 1, 6, 7, 8] [
 ox 8 (.cmp .lss) [.t 7, .t 6]])
 (.seq
 (.cond (.t 8)
 .skip
 (.exit 0))
 (.seq
 (.block 1
 (.seq
 (.ops [0, 1, 4, 6, 7] [
 ox 9 .mv [.t 7],
 ox 4 .mv [.t 9]])
 (.ops [0, 1, 6, 7] [
 ox 10 .mv [.t 0],
 ox 11 .mv [.t 4],
 ox 12 .mv [.t 1],
 ox 13 .mv [.t 0],
 ox 14 .len [.t 13],
 ox 15 (.arith .sub) [.t 14, .c (.int .i64 1)],
 ox 16 .mv [.t 4],
 ox 17 (.arith .sub) [.t 15, .t 16],
 ox 18 (.arith .mul) [.c (.int .i64 8), .t 17],
 ox 19 (.shift .shr) [.t 12, .t 18],
 ox 20 (.conv .u8) [.t 19],
 ox 21 (.idxAddr 1) [.t 10, .t 11],
 oy (.store 1) [.t 21, .t 20]])))
 (.ops [0, 1, 6, 7] [
 ox 22 (.arith .add) [.t 7, .c (.int .i64 1)],
 ox 7 .mv [.t 22]])))))))
def r64 : List ARes := []
theorem ok64 : FnOk Tryd.prog 64 c64 r64 :=
  ⟨Tryd.f64, _, Tryd.func64, by kernel_rfl, rfl, by kernel_rfl, by kernel_rfl⟩
/-- rill/ctr.stream$1 -/
def c65 : ACode :=
 (.seq
 (.ops [0, 1, 2, 3, 4] [
 ox 5 .mv [.c (.int .u8 0)]])
 (.seq
 (.seq
 (.ops [0, 1, 2, 3, 4, 7] [
 ox 6 (.load false 1) [.t 0],
 ox 7 (.eq false .int) [.t 6, .c (.int .i64 16)]])
 (.cond (.t 7)
 (.seq
 (.drawn [0, 1, 2, 3, 4] [
 ox 8 (.sliceArr 16 1 true false false) [.t 1, .c (.int .i64 12)],
 ox 9 (.load false 1) [.t 2],
 od 10 (.call 64) [.t 8, .t 9] 0 1])
 (.seq
 (.ops [0, 2, 4] [
 ox 11 (.load false 1) [.t 3],
 ox 12 (.load true 16) [.t 1],
 ox 13 (.call 66) [.t 11, .t 12],
 oy (.store 16) [.t 4, .t 13]])
 (.drawn [0, 4] [
 od 14 (.load false 1) [.t 2] 0 1,
 od 15 (.arith .add) [.t 14, .c (.int .u64 1)] 0 1,
 oe (.store 1) [.t 0, .c (.int .i64 0)] 0 1,
 oe (.store 1) [.t 2, .t 15] 1 2])))
 .skip))
 (.seq
 (.ops [0, 4] [
 ox 16 (.load false 1) [.t 0],
 ox 17 (.arith .add) [.t 16, .c (.int .i64 1)],
 oy (.store 1) [.t 0, .t 17]])
 (.seq
 (.ops [5] [
 ox 18 (.load false 1) [.t 0],
 ox 19 (.arith .sub) [.t 18, .c (.int .i64 1)],
 ox 20 (.idxAddrArr 16 1) [.t 4, .t 19],
 ox 21 (.load false 1) [.t 20],
 ox 5 .mv [.t 21]])
 .ret))))
def r65 : List ARes := [.tmp 5]
theorem ok65 : FnOk Tryd.prog 65 c65 r65 :=
  ⟨Tryd.f65, _, Tryd.func65, by kernel_rfl, rfl, by kernel_rfl, by kernel_rfl⟩
/-- (*rill/aes.Cipher).Block -/
def c66 : ACode :=
 (.seq
 (.ops [0, 3, 4] [
 ox 3 .box [.t 1],
 ox 4 (.alloc (List.replicate 16 (.int .u8 0))) []])
 (.seq
 (.drawn [0, 4, 5] [
 ox 10 (.load true 16) [.t 3],
 ox 11 .mv [.t 0],
 ox 12 .nilCheck [.t 11],
 ox 13 (.fieldAddr 0) [.t 12],
 ox 14 (.load false 1) [.t 13],
 ox 15 (.idxAddr 16) [.t 14, .c (.int .i64 0)],
 ox 16 (.load true 16) [.t 15],
 od 17 (.call 67) [.t 10, .t 16] 0 1,
 od 5 (.alloc (List.replicate 16 (.int .u8 0))) [] 0 1,
 oe (.store 16) [.t 5, .t 17] 1 2])
 (.seq
 (.seq
 (.ops [0, 4, 5, 22, 23, 24] [
 ox 18 .mv [.t 0],
 ox 19 .nilCheck [.t 18],
 ox 20 (.fieldAddr 0) [.t 19],
 ox 21 (.load false 1) [.t 20],
 ox 22 (.slice 16 true false false) [.t 21, .c (.int .i64 1)],
 ox 23 .len [.t 22],
 ox 24 .mv [.c (.int .i64 0)]])
 (.block 0
 (.loop [0, 4, 5, 22, 23, 24]
 (.seq
 (.ops [0, 4, 5, 22, 23, 24, 25] [
 ox 25 (.cmp .lss) [.t 24, .t 23]])
 (.seq
 (.cond (.t 25)
 .skip
 (.exit 0))
 (.seq
 (.block 1
 (.seq
 (.ops [0, 4, 5, 6, 7, 22, 23, 24] [
 ox 26 .mv [.t 24],
 ox 27 (.idxAddr 16) [.t 22, .t 24],
 ox 28 (.load true 16) [.t 27],
 ox 7 (.alloc (List.replicate 16 (.int .u8 0))) [],
 ox 6 .mv [.t 26],
 oy (.store 16) [.t 7, .t 28]])
 (.seq
 (.ops [0, 4, 5, 6, 7, 8, 22, 23, 24] [
 ox 8 (.alloc (List.replicate 16 (.int .u8 0))) []])
 (.seq
 (.seq
 (.ops [0, 4, 5, 6, 7, 8, 22, 23, 24, 29] [
 ox 29 .mv [.c (.int .i64 0)]])
 (.block 2
 (.loop [0, 4, 5, 6, 7, 8, 22, 23, 24, 29]
 (.seq
 (.ops [0, 4, 5, 6, 7, 8, 22, 23, 24, 29, 30] [
 ox 30 (.cmp .lss) [.t 29, .c (.int .i64 16)]])
 (.seq
 (.cond (.t 30)
 .skip
 (.exit 2))
 (.seq
 (.block 3
 (.seq
 (.ops [0, 4, 5, 6, 7, 8, 9, 22, 23, 24, 29] [
 ox 31 .mv [.t 29],
 ox 9 .mv [.t 31]])
 (.drawn [0, 4, 5, 6, 7, 8, 22, 23, 24, 29] [
 ox 32 .mv [.t 9],
 ox 33 .mv [.t 0],
 ox 34 .mv [.t 9],
 ox 35 .mv [.t 9],
 ox 36 (.arith .rem) [.t 35, .c (.int .i64 4)],
 ox 37 (.arith .mul) [.c (.int .i64 4), .t 36],
 ox 38 (.arith .add) [.t 34, .t 37],
 ox 39 (.arith .rem) [.t 38, .c (.int .i64 16)],
 ox 40 (.idxAddrArr 16 1) [.t 5, .t 39],
 ox 41 (.load false 1) [.t 40],
 ox 42 .nilCheck [.t 33],
 ox 43 (.fieldAddr 1) [.t 42],
 ox 44 (.idxAddrArr 256 1) [.t 43, .t 41],
 ox 45 (.load false 1) [.t 44],
 ox 46 (.idxAddrArr 16 1) [.t 8, .t 32],
 oe (.store 1) [.t 46, .t 45] 0 1])))
 (.ops [0, 4, 5, 6, 7, 8, 22, 23, 24, 29] [
 ox 47 (.arith .add) [.t 29, .c (.int .i64 1)],
 ox 29 .mv [.t 47]])))))))
 (.seq
 (.seq
 (.ops [0, 4, 5, 7, 8, 22, 23, 24, 55] [
 ox 48 .mv [.t 6],
 ox 49 .mv [.t 0],
 ox 50 .nilCheck [.t 49],
 ox 51 (.fieldAddr 0) [.t 50],
 ox 52 (.load false 1) [.t 51],
 ox 53 .len [.t 52],
 ox 54 (.arith .sub) [.t 53, .c (.int .i64 2)],
 ox 55 (.cmp .lss) [.t 48, .t 54]])
 (.cond (.t 55)
 (.ops [0, 4, 5, 7, 8, 22, 23, 24] [
 ox 56 (.load true 16) [.t 8],
 ox 57 (.call 68) [.t 56],
 oy (.store 16) [.t 8, .t 57]])
 .skip))
 (.ops [0, 4, 5, 22, 23, 24] [
 ox 58 (.load true 16) [.t 8],
 ox 59 (.load true 16) [.t 7],
 ox 60 (.call 67) [.t 58, .t 59],
 oy (.store 16) [.t 5, .t 60]]))))))
 (.ops [0, 4, 5, 22, 23, 24] [
 ox 61 (.arith .add) [.t 24, .c (.int .i64 1)],
 ox 24 .mv [.t 61]])))))))
 (.seq
 (.ops [4] [
 ox 62 (.load true 16) [.t 5],
 oy (.store 16) [.t 4, .t 62]])
 .ret))))
def r66 : List ARes := [.cell 4 true 16]
theorem ok66 : FnOk Tryd.prog 66 c66 r66 :=
  ⟨Tryd.f66, _, Tryd.func66, by kernel_rfl, rfl, by kernel_rfl, by kernel_rfl⟩
/-- rill/aes.over -/
def c67 : ACode :=
 (.seq
 (.ops [2, 3, 4] [
 ox 2 .box [.t 0],
 ox 3 .box [.t 1],
 ox 4 (.alloc (List.replicate 16 (.int .u8 0))) []])
 (.seq
 (.seq
 (.ops [2, 3, 4, 6] [
 ox 6 .mv [.c (.int .i64 0)]])
 (.block 0
 (.loop [2, 3, 4, 6]
 (.seq
 (.ops [2, 3, 4, 6, 7] [
 ox 7 (.cmp .lss) [.t 6, .c (.int .i64 16)]])
 (.seq
 (.cond (.t 7)
 .skip
 (.exit 0))
 (.seq
 (.block 1
 (.seq
 (.ops [2, 3, 4, 5, 6] [
 ox 8 .mv [.t 6],
 ox 5 .mv [.t 8]])
 (.drawn [2, 3, 4, 6] [
 ox 9 .mv [.t 5],
 ox 10 (.idxAddrArr 16 1) [.t 2, .t 9],
 ox 11 (.load false 1) [.t 10],
 ox 12 .mv [.t 5],
 ox 13 (.idxAddrArr 16 1) [.t 3, .t 12],
 ox 14 (.load false 1) [.t 13],
 ox 15 (.arith .xor) [.t 11, .t 14],
 ox 16 (.idxAddrArr 16 1) [.t 2, .t 9],
 oe (.store 1) [.t 16, .t 15] 0 1])))
 (.ops [2, 3, 4, 6] [
 ox 17 (.arith .add) [.t 6, .c (.int .i64 1)],
 ox 6 .mv [.t 17]])))))))
 (.seq
 (.ops [4] [
 ox 18 (.load true 16) [.t 2],
 oy (.store 16) [.t 4, .t 18]])
 .ret)))
def r67 : List ARes := [.cell 4 true 16]
theorem ok67 : FnOk Tryd.prog 67 c67 r67 :=
  ⟨Tryd.f67, _, Tryd.func67, by kernel_rfl, rfl, by kernel_rfl, by kernel_rfl⟩
/-- rill/aes.mix -/
def c68 : ACode :=
 (.seq
 (.ops [1, 2] [
 ox 1 .box [.t 0],
 ox 2 (.alloc (List.replicate 16 (.int .u8 0))) []])
 (.seq
 (.ops [1, 2, 3] [
 ox 3 (.alloc (List.replicate 16 (.int .u8 0))) []])
 (.seq
 (.seq
 (.ops [1, 2, 3, 4] [
 ox 4 .mv [.c (.int .i64 0)]])
 (.block 0
 (.loop [1, 2, 3, 4]
 (.seq
 (.seq
 (.ops [1, 2, 3, 4, 8] [
 ox 7 .mv [.t 4],
 ox 8 (.cmp .lss) [.t 7, .c (.int .i64 16)]])
 (.cond (.t 8)
 .skip
 (.exit 0)))
 (.seq
 (.block 1
 (.seq
 (.drawn [1, 2, 3, 4, 5] [
 ox 11 .mv [.t 4],
 ox 12 (.idxAddrArr 16 1) [.t 1, .t 11],
 ox 13 (.load false 1) [.t 12],
 ox 14 .mv [.t 4],
 ox 15 (.arith .add) [.t 14, .c (.int .i64 1)],
 ox 16 (.idxAddrArr 16 1) [.t 1, .t 15],
 ox 17 (.load false 1) [.t 16],
 ox 18 (.arith .xor) [.t 13, .t 17],
 ox 19 .mv [.t 4],
 ox 20 (.arith .add) [.t 19, .c (.int .i64 2)],
 ox 21 (.idxAddrArr 16 1) [.t 1, .t 20],
 ox 22 (.load false 1) [.t 21],
 ox 23 (.arith .xor) [.t 18, .t 22],
 ox 24 .mv [.t 4],
 ox 25 (.arith .add) [.t 24, .c (.int .i64 3)],
 ox 26 (.idxAddrArr 16 1) [.t 1, .t 25],
 ox 27 (.load false 1) [.t 26],
 ox 28 (.arith .xor) [.t 23, .t 27],
 ox 5 .mv [.t 28]])
 (.seq
 (.ops [1, 2, 3, 4, 5, 29] [
 ox 29 .mv [.c (.int .i64 0)]])
 (.block 2
 (.loop [1, 2, 3, 4, 5, 29]
 (.seq
 (.ops [1, 2, 3, 4, 5, 29, 30] [
 ox 30 (.cmp .lss) [.t 29, .c (.int .i64 4)]])
 (.seq
 (.cond (.t 30)
 .skip
 (.exit 2))
 (.seq
 (.block 3
 (.seq
 (.ops [1, 2, 3, 4, 5, 6, 29] [
 ox 31 .mv [.t 29],
 ox 6 .mv [.t 31]])
 (.drawn [1, 2, 3, 4, 5, 29] [
 od 32 .mv [.t 4] 0 1,
 od 33 .mv [.t 6] 0 1,
 od 34 (.arith .add) [.t 32, .t 33] 0 1,
 od 35 .mv [.t 4] 0 1,
 od 36 .mv [.t 6] 0 1,
 od 37 (.arith .add) [.t 35, .t 36] 0 1,
 od 38 (.idxAddrArr 16 1) [.t 1, .t 37] 0 1,
 od 39 (.load false 1) [.t 38] 0 1,
 od 40 .mv [.t 5] 0 1,
 od 41 (.arith .xor) [.t 39, .t 40] 0 1,
 ox 42 .mv [.t 4],
 ox 43 .mv [.t 6],
 ox 44 (.arith .add) [.t 42, .t 43],
 ox 45 (.idxAddrArr 16 1) [.t 1, .t 44],
 ox 46 (.load false 1) [.t 45],
 ox 47 .mv [.t 4],
 ox 48 .mv [.t 6],
 ox 49 (.arith .add) [.t 48, .c (.int .i64 1)],
 ox 50 (.arith .rem) [.t 49, .c (.int .i64 4)],
 ox 51 (.arith .add) [.t 47, .t 50],
 ox 52 (.idxAddrArr 16 1) [.t 1, .t 51],
 ox 53 (.load false 1) [.t 52],
 ox 54 (.arith .xor) [.t 46, .t 53],
 od 55 (.call 27) [.t 54] 0 1,
 od 56 (.arith .xor) [.t 41, .t 55] 1 1,
 od 57 (.idxAddrArr 16 1) [.t 3, .t 34] 1 1,
 oe (.store 1) [.t 57, .t 56] 1 2])))
 (.ops [1, 2, 3, 4, 5, 29] [
 ox 58 (.arith .add) [.t 29, .c (.int .i64 1)],
 ox 29 .mv [.t 58]])))))))))
 (.ops [1, 2, 3, 4] [
 ox 9 .mv [.t 4],
 ox 10 (.arith .add) [.t 9, .c (.int .i64 4)],
 ox 4 .mv [.t 10]]))))))
 (.seq
 (.ops [2] [
 ox 59 (.load true 16) [.t 3],
 oy (.store 16) [.t 2, .t 59]])
 .ret))))
def r68 : List ARes := [.cell 2 true 16]
theorem ok68 : FnOk Tryd.prog 68 c68 r68 :=
  ⟨Tryd.f68, _, Tryd.func68, by kernel_rfl, rfl, by kernel_rfl, by kernel_rfl⟩
/-- (*rill/names.Names).Open -/
def c69 : ACode :=
 (.seq
 (.ops [0, 1, 2, 3, 4] [
 ox 10 .mv [.c .nils],
 ox 11 .mv [.c (.bool false)]])
 (.seq
 (.seq
 (.ops [0, 1, 2, 3, 4, 18] [
 ox 16 .mv [.t 4],
 ox 17 .len [.t 16],
 ox 18 (.cmp .lss) [.t 17, .c (.int .i64 32)]])
 (.cond (.t 18)
 (.seq
 (.ops [10, 11] [
 ox 10 .mv [.c .nils],
 ox 11 .mv [.c (.bool false)]])
 .ret)
 .skip))
 (.seq
 (.drawn [0, 1, 2, 3, 12, 13] [
 ox 19 .mv [.t 4],
 ox 20 .mv [.t 4],
 ox 21 .len [.t 20],
 ox 22 (.arith .sub) [.t 21, .c (.int .i64 32)],
 ox 23 (.slice 1 false true false) [.t 19, .t 22],
 ox 24 .mv [.t 4],
 ox 25 .mv [.t 4],
 ox 26 .len [.t 25],
 ox 27 (.arith .sub) [.t 26, .c (.int .i64 32)],
 ox 28 (.slice 1 true false false) [.t 24, .t 27],
 ox 12 .mv [.t 23],
 ox 13 .mv [.t 28]])
 (.seq
 (.drawn [12, 13, 14, 15] [
 ox 30 .mv [.t 0],
 ox 31 .nilCheck [.t 30],
 ox 32 (.fieldAddr 0) [.t 31],
 ox 33 (.load false 1) [.t 32],
 ox 34 .mv [.t 1],
 ox 35 .mv [.t 2],
 ox 36 .mv [.t 3],
 ox 37 .b2s [.t 36],
 ox 38 .mv [.t 12],
 ox 39 .b2s [.t 38],
 ox 40 (.build [.int .i64 0, .int .i64 0, .str ⟨#[]⟩, .str ⟨#[]⟩] [(0, 1), (1, 1), (2, 1), (3, 1)]) [.t 34, .t 35, .t 37, .t 39],
 ox 41 (.lookup (.agg [.i, .i, .s, .s]) (.int .i64 0) true) [.t 33, .t 40],
 ox 29 .mv [.t 41],
 ox 42 (.extract 0) [.t 29],
 ox 43 (.extract 1) [.t 29],
 ox 14 .mv [.t 42],
 ox 15 .mv [.t 43]])
 (.seq
 (.seq
 (.drawn [12, 55] [
 ox 44 .mv [.t 15],
 ox 45 .not [.t 44],
 ox 46 .mv [.t 45],
 oh 47 .mv [.t 13] 46 false 0 2,
 oh 48 (.mkSlice [.int .u8 0] 1) [.c (.int .i64 24), .c (.int .i64 24)] 46 false 0 1,
 og 49 .mv [.t 14] 46 false,
 oh 50 (.call 74) [.t 49] 46 false 0 1,
 oh 51 (.mkSl 2 [.nils, .nils] [(0, 1), (1, 1)]) [.t 48, .t 50] 46 false 1 1,
 oh 52 (.call 73) [.t 51] 46 false 1 2,
 oh 53 (.call 72) [.t 47, .t 52] 46 false 2 3,
 oh 54 .not [.t 53] 46 false 3 3,
 od 55 .pick [.t 46, .c (.bool true), .t 54] 3 3])
 (.cond (.t 55)
 (.seq
 (.ops [10, 11] [
 ox 10 .mv [.c .nils],
 ox 11 .mv [.c (.bool false)]])
 .ret)
 .skip))
 (.seq
 (.ops [10, 11] [
 ox 56 .mv [.t 12],
 ox 57 (.call 75) [.t 56],
 ox 10 .mv [.t 57],
 ox 11 .mv [.c (.bool true)]])
 .ret))))))
def r69 : List ARes := [.tmp 10, .tmp 11]
theorem ok69 : FnOk Tryd.prog 69 c69 r69 :=
  ⟨Tryd.f69, _, Tryd.func69, by kernel_rfl, rfl, by kernel_rfl, by kernel_rfl⟩
/-- (*rill/names.Names).Seal -/
def c70 : ACode :=
 (.seq
 (.ops [0, 1, 2, 3, 4] [
 ox 10 .mv [.c .nils]])
 (.seq
 (.seq
 (.ops [0, 1, 2, 3, 4, 21] [
 ox 14 .mv [.t 1],
 ox 15 (.call 76) [.t 14],
 ox 16 .not [.t 15],
 ox 17 .mv [.t 16],
 og 18 .mv [.t 2] 17 false,
 og 19 (.call 76) [.t 18] 17 false,
 og 20 .not [.t 19] 17 false,
 ox 21 .pick [.t 17, .c (.bool true), .t 20]])
 (.cond (.t 21)
 (.seq
 (.ops [10] [
 ox 10 .mv [.c .nils]])
 .ret)
 .skip))
 (.seq
 (.ops [0, 4, 11] [
 ox 22 .mv [.t 1],
 ox 23 .mv [.t 2],
 ox 24 .mv [.t 3],
 ox 25 .b2s [.t 24],
 ox 26 .mv [.t 4],
 ox 27 .b2s [.t 26],
 ox 28 (.build [.int .i64 0, .int .i64 0, .str ⟨#[]⟩, .str ⟨#[]⟩] [(0, 1), (1, 1), (2, 1), (3, 1)]) [.t 22, .t 23, .t 25, .t 27],
 ox 11 (.alloc [.int .i64 0, .int .i64 0, .str ⟨#[]⟩, .str ⟨#[]⟩]) [],
 oy (.store 4) [.t 11, .t 28]])
 (.seq
 (.drawn [0, 4, 11, 12, 13] [
 ox 30 .mv [.t 0],
 ox 31 .nilCheck [.t 30],
 ox 32 (.fieldAddr 0) [.t 31],
 ox 33 (.load false 1) [.t 32],
 ox 34 (.load true 4) [.t 11],
 ox 35 (.lookup (.agg [.i, .i, .s, .s]) (.int .i64 0) true) [.t 33, .t 34],
 ox 29 .mv [.t 35],
 ox 36 (.extract 0) [.t 29],
 ox 37 (.extract 1) [.t 29],
 ox 12 .mv [.t 36],
 ox 13 .mv [.t 37]])
 (.seq
 (.seq
 (.ops [0, 4, 11, 12, 39] [
 ox 38 .mv [.t 13],
 ox 39 .not [.t 38]])
 (.cond (.t 39)
 (.seq
 (.drawn [0, 4, 11] [
 od 40 .mv [.t 0] 0 1,
 ox 41 .mv [.t 0],
 ox 42 .nilCheck [.t 41],
 ox 43 (.fieldAddr 1) [.t 42],
 ox 44 (.load false 1) [.t 43],
 ox 45 (.load true 4) [.t 11],
 ox 46 (.mkSl 1 [.int .i64 0, .int .i64 0, .str ⟨#[]⟩, .str ⟨#[]⟩] [(0, 4)]) [.t 45],
 od 47 (.append 4 48) [.t 44, .t 46] 0 1,
 od 48 .nilCheck [.t 40] 1 1,
 od 49 (.fieldAddr 1) [.t 48] 1 1,
 oe (.store 1) [.t 49, .t 47] 1 2])
 (.seq
 (.ops [0, 4, 11, 12] [
 ox 50 .mv [.t 0],
 ox 51 .nilCheck [.t 50],
 ox 52 (.fieldAddr 1) [.t 51],
 ox 53 (.load false 1) [.t 52],
 ox 54 .len [.t 53],
 ox 12 .mv [.t 54]])
 (.drawn [4, 12] [
 ox 55 .mv [.t 0],
 ox 56 .nilCheck [.t 55],
 ox 57 (.fieldAddr 0) [.t 56],
 ox 58 (.load false 1) [.t 57],
 ox 59 (.load true 4) [.t 11],
 ox 60 .mv [.t 12],
 oe (.mapSet (.agg [.i, .i, .s, .s])) [.t 58, .t 59, .t 60] 0 1])))
 .skip))
 (.seq
 (.drawn [10] [
 od 61 .mv [.t 4] 0 1,
 od 62 (.mkSlice [.int .u8 0] 1) [.c (.int .i64 24), .c (.int .i64 24)] 0 1,
 ox 63 .mv [.t 12],
 od 64 (.call 74) [.t 63] 0 1,
 od 65 (.mkSl 3 [.nils, .nils, .nils] [(0, 1), (1, 1), (2, 1)]) [.t 61, .t 62, .t 64] 1 1,
 od 66 (.call 73) [.t 65] 1 2,
 od 10 .mv [.t 66] 2 2])
 .ret))))))
def r70 : List ARes := [.tmp 10]
theorem ok70 : FnOk Tryd.prog 70 c70 r70 :=
  ⟨Tryd.f70, _, Tryd.func70, by kernel_rfl, rfl, by kernel_rfl, by kernel_rfl⟩
/-- slices.Equal[[]byte,byte] -/
def c72 : ACode :=
 (.seq
 (.ops [0, 1] [
 ox 4 .mv [.c (.bool false)]])
 (.seq
 (.seq
 (.ops [0, 1, 10] [
 ox 6 .mv [.t 0],
 ox 7 .len [.t 6],
 ox 8 .mv [.t 1],
 ox 9 .len [.t 8],
 ox 10 (.eq true .int) [.t 7, .t 9]])
 (.cond (.t 10)
 (.seq
 (.ops [4] [
 ox 4 .mv [.c (.bool false)]])
 .ret)
 .skip))
 (.seq
 (.seq
 (.ops [0, 1, 12, 13] [
 ox 11 .mv [.t 0],
 ox 12 .len [.t 11],
 ox 13 .mv [.c (.int .i64 0)]])
 (.block 0
 (.loop [0, 1, 12, 13]
 (.seq
 (.ops [0, 1, 12, 13, 14] [
 ox 14 (.cmp .lss) [.t 13, .t 12]])
 (.seq
 (.cond (.t 14)
 .skip
 (.exit 0))
 (.seq
 (.block 1
 (.seq
 (.ops [0, 1, 5, 12, 13] [
 ox 15 .mv [.t 13],
 ox 5 .mv [.t 15]])
 (.seq
 (.drawn [0, 1, 12, 13, 24] [
 ox 16 .mv [.t 0],
 ox 17 .mv [.t 5],
 ox 18 (.idxAddr 1) [.t 16, .t 17],
 ox 19 (.load false 1) [.t 18],
 ox 20 .mv [.t 1],
 ox 21 .mv [.t 5],
 ox 22 (.idxAddr 1) [.t 20, .t 21],
 ox 23 (.load false 1) [.t 22],
 ox 24 (.eq true .int) [.t 19, .t 23]])
 (.cond (.t 24)
 (.seq
 (.ops [4] [
 ox 4 .mv [.c (.bool false)]])
 .ret)
 .skip))))
 (.ops [0, 1, 12, 13] [
 ox 25 (.arith .add) [.t 13, .c (.int .i64 1)],
 ox 13 .mv [.t 25]])))))))
 (.seq
 (.ops [4] [
 ox 4 .mv [.c (.bool true)]])
 .ret))))
def r72 : List ARes := [.tmp 4]
theorem ok72 : FnOk Tryd.prog 72 c72 r72 :=
  ⟨Tryd.f72, _, Tryd.func72, by kernel_rfl, rfl, by kernel_rfl, by kernel_rfl⟩
/-- slices.Concat[[]byte,byte] -/
def c73 : ACode :=
 (.seq
 (.ops [0] [
 ox 2 .mv [.c .nils]])
 (.seq
 (.ops [0, 3] [
 ox 3 .mv [.c (.int .i64 0)]])
 (.seq
 (.seq
 (.ops [0, 3, 9, 10, 11] [
 ox 9 .mv [.t 0],
 ox 10 .len [.t 9],
 ox 11 .mv [.c (.int .i64 0)]])
 (.block 0
 (.loop [0, 3, 9, 10, 11]
 (.seq
 (.ops [0, 3, 9, 10, 11, 12] [
 ox 12 (.cmp .lss) [.t 11, .t 10]])
 (.seq
 (.cond (.t 12)
 .skip
 (.exit 0))
 (.seq
 (.block 1
 (.seq
 (.ops [0, 3, 5, 9, 10, 11] [
 ox 13 (.idxAddr 1) [.t 9, .t 11],
 ox 14 (.load false 1) [.t 13],
 ox 5 .mv [.t 14]])
 (.seq
 (.ops [0, 3, 9, 10, 11] [
 ox 15 .mv [.t 3],
 ox 16 .mv [.t 5],
 ox 17 .len [.t 16],
 ox 18 (.arith .add) [.t 15, .t 17],
 ox 3 .mv [.t 18]])
 (.seq
 (.ops [0, 3, 9, 10, 11, 20] [
 ox 19 .mv [.t 3],
 ox 20 (.cmp .lss) [.t 19, .c (.int .i64 0)]])
 (.cond (.t 20)
 (.ops [0, 3, 9, 10, 11] [
 ox 21 (.iface 9) [.c (.str ⟨#[108, 101, 110, 32, 111, 117, 116, 32, 111, 102, 32, 114, 97, 110, 103, 101]⟩)],
 oy .no [.t 21]])
 .skip)))))
 (.ops [0, 3, 9, 10, 11] [
 ox 22 (.arith .add) [.t 11, .c (.int .i64 1)],
 ox 11 .mv [.t 22]])))))))
 (.seq
 (.ops [0, 6] [
 ox 23 .mv [.t 3],
 ox 24 (.call 77) [.c .nils, .t 23],
 ox 6 .mv [.t 24]])
 (.seq
 (.seq
 (.ops [6, 25, 26, 27] [
 ox 25 .mv [.t 0],
 ox 26 .len [.t 25],
 ox 27 .mv [.c (.int .i64 0)]])
 (.block 2
 (.loop [6, 25, 26, 27]
 (.seq
 (.ops [6, 25, 26, 27, 28] [
 ox 28 (.cmp .lss) [.t 27, .t 26]])
 (.seq
 (.cond (.t 28)
 .skip
 (.exit 2))
 (.seq
 (.block 3
 (.seq
 (.ops [6, 8, 25, 26, 27] [
 ox 29 (.idxAddr 1) [.t 25, .t 27],
 ox 30 (.load false 1) [.t 29],
 ox 8 .mv [.t 30]])
 (.ops [6, 25, 26, 27] [
 ox 31 .mv [.t 6],
 ox 32 .mv [.t 8],
 ox 33 (.append 1 1) [.t 31, .t 32],
 ox 6 .mv [.t 33]])))
 (.ops [6, 25, 26, 27] [
 ox 34 (.arith .add) [.t 27, .c (.int .i64 1)],
 ox 27 .mv [.t 34]])))))))
 (.seq
 (.ops [2] [
 ox 35 .mv [.t 6],
 ox 2 .mv [.t 35]])
 .ret))))))
def r73 : List ARes := [.tmp 2]
theorem ok73 : FnOk Tryd.prog 73 c73 r73 :=
  ⟨Tryd.f73, _, Tryd.func73, by kernel_rfl, rfl, by kernel_rfl, by kernel_rfl⟩
/-- rill/names.number -/
def c74 : ACode :=
 (.seq
 (.ops [0] [
 ox 2 .mv [.c .nils]])
 (.seq
 (.ops [0, 3] [
 ox 5 (.mkSlice [.int .u8 0] 1) [.c (.int .i64 8), .c (.int .i64 8)],
 ox 3 .mv [.t 5]])
 (.seq
 (.seq
 (.ops [0, 3, 7, 8] [
 ox 6 .mv [.t 3],
 ox 7 .len [.t 6],
 ox 8 .mv [.c (.int .i64 0)]])
 (.block 0
 (.loop [0, 3, 7, 8]
 (.seq
 (.ops [0, 3, 7, 8, 9] [
 ox 9 (.cmp .lss) [.t 8, .t 7]])
 (.seq
 (.cond (.t 9)
 .skip
 (.exit 0))
 (.seq
 (.block 1
 (.seq
 (.ops [0, 3, 4, 7, 8] [
 ox 10 .mv [.t 8],
 ox 4 .mv [.t 10]])
 (.ops [0, 3, 7, 8] [
 ox 11 .mv [.t 3],
 ox 12 .mv [.t 4],
 ox 13 .mv [.t 0],
 ox 14 (.conv .u64) [.t 13],
 ox 15 .mv [.t 4],
 ox 16 (.arith .sub) [.c (.int .i64 7), .t 15],
 ox 17 (.arith .mul) [.c (.int .i64 8), .t 16],
 ox 18 (.shift .shr) [.t 14, .t 17],
 ox 19 (.conv .u8) [.t 18],
 ox 20 (.idxAddr 1) [.t 11, .t 12],
 oy (.store 1) [.t 20, .t 19]])))
 (.ops [0, 3, 7, 8] [
 ox 21 (.arith .add) [.t 8, .c (.int .i64 1)],
 ox 8 .mv [.t 21]])))))))
 (.seq
 (.ops [2] [
 ox 22 .mv [.t 3],
 ox 2 .mv [.t 22]])
 .ret))))
def r74 : List ARes := [.tmp 2]
theorem ok74 : FnOk Tryd.prog 74 c74 r74 :=
  ⟨Tryd.f74, _, Tryd.func74, by kernel_rfl, rfl, by kernel_rfl, by kernel_rfl⟩
/-- slices.Clone[[]byte,byte] -/
def c75 : ACode :=
 (.seq
 (.ops [0] [
 ox 2 .mv [.c .nils]])
 (.seq
 (.seq
 (.ops [0, 4] [
 ox 3 .mv [.t 0],
 ox 4 (.eq false .slice) [.t 3, .c .nils]])
 (.cond (.t 4)
 (.seq
 (.ops [2] [
 ox 2 .mv [.c .nils]])
 .ret)
 .skip))
 (.seq
 (.ops [2] [
 ox 5 (.mkSl 0 [] []) [],
 ox 6 .mv [.t 0],
 ox 7 (.append 1 1) [.t 5, .t 6],
 ox 2 .mv [.t 7]])
 .ret)))
def r75 : List ARes := [.tmp 2]
theorem ok75 : FnOk Tryd.prog 75 c75 r75 :=
  ⟨Tryd.f75, _, Tryd.func75, by kernel_rfl, rfl, by kernel_rfl, by kernel_rfl⟩
/-- rill/names.within -/
def c76 : ACode :=
 (.seq
 (.ops [0] [
 ox 2 .mv [.c (.bool false)]])
 (.seq
 (.ops [2] [
 ox 3 .mv [.t 0],
 ox 4 (.cmp .geq) [.t 3, .c (.int .i64 0)],
 ox 5 .mv [.t 4],
 og 6 .mv [.t 0] 5 true,
 og 7 (.cmp .leq) [.t 6, .c (.int .i64 1099511627776)] 5 true,
 ox 8 .pick [.t 5, .t 7, .c (.bool false)],
 ox 2 .mv [.t 8]])
 .ret))
def r76 : List ARes := [.tmp 2]
theorem ok76 : FnOk Tryd.prog 76 c76 r76 :=
  ⟨Tryd.f76, _, Tryd.func76, by kernel_rfl, rfl, by kernel_rfl, by kernel_rfl⟩
/-- slices.Grow[[]byte,byte] -/
def c77 : ACode :=
 (.seq
 (.ops [0, 1] [
 ox 4 .mv [.c .nils]])
 (.seq
 (.seq
 (.ops [0, 1, 6] [
 ox 5 .mv [.t 1],
 ox 6 (.cmp .lss) [.t 5, .c (.int .i64 0)]])
 (.cond (.t 6)
 (.ops [0, 1] [
 ox 7 (.iface 9) [.c (.str ⟨#[99, 97, 110, 110, 111, 116, 32, 98, 101, 32, 110, 101, 103, 97, 116, 105, 118, 101]⟩)],
 oy .no [.t 7]])
 .skip))
 (.seq
 (.seq
 (.ops [0, 1] [
 ox 8 .mv [.t 1],
 ox 9 .mv [.t 0],
 ox 10 .cap [.t 9],
 ox 11 .mv [.t 0],
 ox 12 .len [.t 11],
 ox 13 (.arith .sub) [.t 10, .t 12],
 ox 14 (.arith .sub) [.t 8, .t 13],
 ox 1 .mv [.t 14]])
 (.seq
 (.ops [0, 1, 16] [
 ox 15 .mv [.t 1],
 ox 16 (.cmp .gtr) [.t 15, .c (.int .i64 0)]])
 (.cond (.t 16)
 (.ops [0] [
 ox 17 .mv [.t 0],
 ox 18 .mv [.t 0],
 ox 19 .cap [.t 18],
 ox 20 (.slice 1 false true false) [.t 17, .t 19],
 ox 21 .mv [.t 1],
 ox 22 (.appendZ [.int .u8 0] 1) [.t 20, .t 21],
 ox 23 .mv [.t 0],
 ox 24 .len [.t 23],
 ox 25 (.slice 1 false true false) [.t 22, .t 24],
 ox 0 .mv [.t 25]])
 .skip)))
 (.seq
 (.ops [4] [
 ox 26 .mv [.t 0],
 ox 4 .mv [.t 26]])
 .ret))))
def r77 : List ARes := [.tmp 4]
theorem ok77 : FnOk Tryd.prog 77 c77 r77 :=
  ⟨Tryd.f77, _, Tryd.func77, by kernel_rfl, rfl, by kernel_rfl, by kernel_rfl⟩
end Go.Proofs.YtmnlmjlmbceimaaDoor
end
section
/- Parts of the abstract code, under names of their own: if-statements, and what is behind them (printed by gencode.py). -/
namespace Go.Proofs.YtmnlmjlmbceimaaDoor
open Go.Adm
/-- rill/rilllaw11.SectorBack -/
def d3_6 : ACode :=
 (.seq
 (.drawn [3, 5, 6, 7, 8, 9, 10] [
 ox 51 .mv [.t 5],
 ox 52 .mv [.t 6],
 ox 53 (.idxAddr 1) [.t 51, .t 52],
 ox 54 (.load false 1) [.t 53],
 ox 55 (.fieldAddr 0) [.t 3],
 ox 56 (.load false 1) [.t 55],
 ox 57 (.fieldAddr 3) [.t 3],
 ox 58 (.load false 1) [.t 57],
 ox 59 .mv [.t 7],
 od 60 (.call 13) [.t 54, .t 56, .t 58, .t 59] 0 1,
 od 50 .mv [.t 60] 1 1,
 od 61 (.extract 0) [.t 50] 1 1,
 od 62 (.extract 1) [.t 50] 1 2,
 od 9 (.alloc [.int .i64 0, .int .i64 0, .int .i64 0, .int .i64 0, .nils]) [] 0 1,
 oe (.store 5) [.t 9, .t 61] 1 2,
 od 10 .mv [.t 62] 2 2])
 (.seq
 (.drawn [3, 5, 6, 90] [
 ox 63 .mv [.t 8],
 ox 64 (.eq true .int) [.t 63, .c (.int .i64 0)],
 ox 65 .mv [.t 64],
 og 66 .mv [.t 10] 65 false,
 og 67 (.eq true .int) [.t 66, .c (.int .i64 0)] 65 false,
 ox 68 .pick [.t 65, .c (.bool true), .t 67],
 ox 69 .mv [.t 68],
 og 70 (.load true 5) [.t 9] 69 false,
 og 71 (.load true 5) [.t 3] 69 false,
 oh 72 (.call 14) [.t 70, .t 71] 69 false 0 1,
 oh 73 .not [.t 72] 69 false 1 1,
 od 74 .pick [.t 69, .c (.bool true), .t 73] 1 1,
 od 75 .mv [.t 74] 1 1,
 oh 76 .mv [.t 7] 75 false 1 1,
 oh 77 .len [.t 76] 75 false 1 1,
 oh 78 (.fieldAddr 4) [.t 3] 75 false 1 1,
 oh 79 (.load false 1) [.t 78] 75 false 1 1,
 oh 80 .len [.t 79] 75 false 1 1,
 oh 81 (.arith .add) [.c (.int .i64 49), .t 80] 75 false 1 1,
 oh 82 (.eq true .int) [.t 77, .t 81] 75 false 1 1,
 od 83 .pick [.t 75, .c (.bool true), .t 82] 1 1,
 od 84 .mv [.t 83] 1 1,
 oh 85 .mv [.t 7] 84 false 1 1,
 oh 86 (.call 15) [.t 85] 84 false 1 2,
 oh 87 (.fieldAddr 0) [.t 3] 84 false 1 2,
 oh 88 (.load false 1) [.t 87] 84 false 1 2,
 oh 89 (.eq true .int) [.t 86, .t 88] 84 false 2 2,
 od 90 .pick [.t 84, .c (.bool true), .t 89] 2 2])
 (.cond (.t 90)
 (.seq
 (.ops [4] [
 ox 4 .mv [.c (.bool false)]])
 .ret)
 .skip)))
def d3_5 : ACode :=
 (.seq
 (.ops [3, 5, 6, 7, 8, 42] [
 ox 40 (.load true 5) [.t 3],
 ox 41 (.call 12) [.t 40],
 ox 42 .not [.t 41]])
 (.cond (.t 42)
 (.seq
 (.seq
 (.ops [3, 5, 6, 49] [
 ox 43 .mv [.t 8],
 ox 44 (.eq false .int) [.t 43, .c (.int .i64 0)],
 ox 45 .mv [.t 44],
 og 46 .mv [.t 7] 45 false,
 og 47 .len [.t 46] 45 false,
 og 48 (.cmp .gtr) [.t 47, .c (.int .i64 0)] 45 false,
 ox 49 .pick [.t 45, .c (.bool true), .t 48]])
 (.cond (.t 49)
 (.seq
 (.ops [4] [
 ox 4 .mv [.c (.bool false)]])
 .ret)
 .skip))
 (.exit 1))
 .skip))
def d3_4 : ACode :=
 (.seq
 (.block 1
 (.seq
 (.drawn [3, 5, 6, 7, 8] [
 ox 32 .mv [.t 5],
 ox 33 .mv [.t 6],
 ox 34 (.idxAddr 1) [.t 32, .t 33],
 ox 35 (.load false 1) [.t 34],
 ox 36 (.load true 5) [.t 3],
 od 37 (.call 11) [.t 35, .t 36] 0 1,
 od 31 .mv [.t 37] 1 1,
 od 38 (.extract 0) [.t 31] 1 1,
 od 39 (.extract 1) [.t 31] 1 1,
 od 7 .mv [.t 38] 1 1,
 od 8 .mv [.t 39] 1 1])
 (.seq d3_5 d3_6)))
 (.ops [3, 5, 6] [
 ox 29 .mv [.t 6],
 ox 30 (.arith .add) [.t 29, .c (.int .i64 1)],
 ox 6 .mv [.t 30]]))
def d3_3 : ACode :=
 (.seq
 (.ops [3, 5, 6, 28] [
 ox 27 .mv [.t 6],
 ox 28 (.cmp .lss) [.t 27, .c (.int .i64 2)]])
 (.cond (.t 28)
 .skip
 (.exit 0)))
def d3_2 : ACode :=
 (.seq
 (.ops [3, 5] [
 ox 21 .mv [.t 0],
 ox 22 (.call 9) [.t 21],
 ox 23 (.iface 26) [.t 22],
 ox 24 (.call 10) [],
 ox 25 (.iface 28) [.t 24],
 ox 26 (.mkSl 2 [.nili, .nili] [(0, 1), (1, 1)]) [.t 23, .t 25],
 ox 5 .mv [.t 26]])
 (.seq
 (.seq
 (.ops [3, 5, 6] [
 ox 6 .mv [.c (.int .i64 0)]])
 (.block 0
 (.loop [3, 5, 6]
 (.seq d3_3 d3_4))))
 (.seq
 (.ops [4] [
 ox 91 (.call 8) [],
 ox 4 .mv [.t 91]])
 .ret)))
def d3_1 : ACode :=
 (.seq
 (.ops [0, 3, 19] [
 ox 11 .mv [.t 0],
 ox 12 .len [.t 11],
 ox 13 (.cmp .gtr) [.t 12, .c (.int .i64 4096)],
 ox 14 .mv [.t 13],
 og 15 (.fieldAddr 4) [.t 3] 14 false,
 og 16 (.load false 1) [.t 15] 14 false,
 og 17 .len [.t 16] 14 false,
 og 18 (.cmp .gtr) [.t 17, .c (.int .i64 4096)] 14 false,
 ox 19 .pick [.t 14, .c (.bool true), .t 18]])
 (.cond (.t 19)
 (.seq
 (.ops [4] [
 ox 20 (.call 8) [],
 ox 4 .mv [.t 20]])
 .ret)
 .skip))
theorem q3 : c3 =
 (.seq
 (.ops [0, 3] [
 ox 3 .box [.t 1],
 ox 4 .mv [.c (.bool false)]])
 (.seq d3_1 d3_2)) := rfl
/-- rill/rilllaw11.SectorOnly -/
def d4_4 : ACode :=
 (.seq
 (.ops [2, 4, 8, 10, 11] [
 ox 43 .mv [.t 7],
 ox 44 (.iface 26) [.t 43],
 ox 45 (.load true 5) [.t 8],
 ox 46 (.call 11) [.t 44, .t 45],
 ox 42 .mv [.t 46],
 ox 47 (.extract 0) [.t 42],
 ox 48 (.extract 1) [.t 42],
 ox 10 .mv [.t 47],
 ox 11 .mv [.t 48]])
 (.seq
 (.ops [6] [
 ox 49 .mv [.t 11],
 ox 50 (.eq false .int) [.t 49, .c (.int .i64 0)],
 ox 51 .mv [.t 50],
 og 52 .mv [.t 10] 51 true,
 og 53 .mv [.t 2] 51 true,
 og 54 (.call 16) [.t 52, .t 53] 51 true,
 ox 55 .pick [.t 51, .t 54, .c (.bool false)],
 ox 56 .mv [.t 55],
 og 57 (.fieldAddr 0) [.t 8] 56 true,
 og 58 (.load false 1) [.t 57] 56 true,
 og 59 (.fieldAddr 0) [.t 4] 56 true,
 og 60 (.load false 1) [.t 59] 56 true,
 og 61 (.eq false .int) [.t 58, .t 60] 56 true,
 ox 62 .pick [.t 56, .t 61, .c (.bool false)],
 ox 63 .mv [.t 62],
 og 64 (.fieldAddr 3) [.t 8] 63 true,
 og 65 (.load false 1) [.t 64] 63 true,
 og 66 (.fieldAddr 1) [.t 4] 63 true,
 og 67 (.load false 1) [.t 66] 63 true,
 og 68 (.eq false .int) [.t 65, .t 67] 63 true,
 ox 69 .pick [.t 63, .t 68, .c (.bool false)],
 ox 70 .mv [.t 69],
 og 71 (.call 8) [] 70 true,
 ox 72 .pick [.t 70, .t 71, .c (.bool false)],
 ox 6 .mv [.t 72]])
 .ret))
def d4_3 : ACode :=
 (.seq
 (.ops [2, 4, 7, 8, 35] [
 ox 34 .mv [.t 9],
 ox 35 (.eq true .int) [.t 34, .c (.int .i64 0)]])
 (.cond (.t 35)
 (.seq
 (.ops [6] [
 ox 36 (.load true 5) [.t 8],
 ox 37 (.build [.int .i64 0, .int .i64 0, .int .i64 0, .int .i64 0, .nils] []) [],
 ox 38 (.call 14) [.t 36, .t 37],
 ox 39 .mv [.t 38],
 og 40 (.call 8) [] 39 true,
 ox 41 .pick [.t 39, .t 40, .c (.bool false)],
 ox 6 .mv [.t 41]])
 .ret)
 .skip))
def d4_2 : ACode :=
 (.seq
 (.ops [2, 4, 7] [
 ox 21 .mv [.t 0],
 ox 22 (.call 9) [.t 21],
 ox 7 .mv [.t 22]])
 (.seq
 (.ops [2, 4, 7, 8, 9] [
 ox 24 .mv [.t 7],
 ox 25 (.iface 26) [.t 24],
 ox 26 (.fieldAddr 0) [.t 4],
 ox 27 (.load false 1) [.t 26],
 ox 28 (.fieldAddr 1) [.t 4],
 ox 29 (.load false 1) [.t 28],
 ox 30 .mv [.t 2],
 ox 31 (.call 13) [.t 25, .t 27, .t 29, .t 30],
 ox 23 .mv [.t 31],
 ox 32 (.extract 0) [.t 23],
 ox 33 (.extract 1) [.t 23],
 ox 8 (.alloc [.int .i64 0, .int .i64 0, .int .i64 0, .int .i64 0, .nils]) [],
 oy (.store 5) [.t 8, .t 32],
 ox 9 .mv [.t 33]])
 (.seq d4_3 d4_4)))
def d4_1 : ACode :=
 (.seq
 (.ops [0, 2, 4, 19] [
 ox 12 .mv [.t 0],
 ox 13 .len [.t 12],
 ox 14 (.cmp .gtr) [.t 13, .c (.int .i64 4096)],
 ox 15 .mv [.t 14],
 og 16 .mv [.t 2] 15 false,
 og 17 .len [.t 16] 15 false,
 og 18 (.cmp .gtr) [.t 17, .c (.int .i64 4096)] 15 false,
 ox 19 .pick [.t 15, .c (.bool true), .t 18]])
 (.cond (.t 19)
 (.seq
 (.ops [6] [
 ox 20 (.call 8) [],
 ox 6 .mv [.t 20]])
 .ret)
 .skip))
theorem q4 : c4 =
 (.seq
 (.ops [0, 2, 4] [
 ox 4 .box [.t 1],
 ox 6 .mv [.c (.bool false)]])
 (.seq d4_1 d4_2)) := rfl
/-- rill/rilllaw11.SectorFound -/
def d5_16 : ACode :=
 (.seq
 (.block 7
 (.seq
 (.drawn [0, 2, 7, 9, 15, 16, 17, 21, 23] [
 ox 179 .mv [.t 7],
 ox 180 (.iface 28) [.t 179],
 ox 181 .mv [.t 0],
 ox 182 .mv [.t 21],
 ox 183 (.idxAddr 5) [.t 181, .t 182],
 ox 184 (.fieldAddr 0) [.t 183],
 ox 185 (.load false 1) [.t 184],
 ox 186 .mv [.t 0],
 ox 187 .mv [.t 21],
 ox 188 (.idxAddr 5) [.t 186, .t 187],
 ox 189 (.fieldAddr 3) [.t 188],
 ox 190 (.load false 1) [.t 189],
 ox 191 .mv [.t 16],
 od 192 (.call 13) [.t 180, .t 185, .t 190, .t 191] 0 1,
 od 178 .mv [.t 192] 1 1,
 od 193 (.extract 0) [.t 178] 1 1,
 od 194 (.extract 1) [.t 178] 1 2,
 od 22 (.alloc [.int .i64 0, .int .i64 0, .int .i64 0, .int .i64 0, .nils]) [] 0 1,
 oe (.store 5) [.t 22, .t 193] 1 2,
 od 23 .mv [.t 194] 2 2])
 (.seq
 (.ops [0, 2, 7, 9, 15, 16, 17, 21, 200] [
 ox 195 .mv [.t 23],
 ox 196 (.eq false .int) [.t 195, .c (.int .i64 0)],
 ox 197 .mv [.t 196],
 og 198 .mv [.t 17] 197 true,
 og 199 .not [.t 198] 197 true,
 ox 200 .pick [.t 197, .t 199, .c (.bool false)]])
 (.cond (.t 200)
 (.seq
 (.ops [6] [
 ox 6 .mv [.c (.bool false)]])
 .ret)
 .skip))))
 (.ops [0, 2, 7, 9, 15, 16, 17, 21] [
 ox 176 .mv [.t 21],
 ox 177 (.arith .add) [.t 176, .c (.int .i64 1)],
 ox 21 .mv [.t 177]]))
def d5_15 : ACode :=
 (.seq
 (.ops [0, 2, 7, 9, 15, 16, 17, 21, 175] [
 ox 163 .mv [.t 21],
 ox 164 .mv [.t 0],
 ox 165 .len [.t 164],
 ox 166 (.cmp .lss) [.t 163, .t 165],
 ox 167 .mv [.t 166],
 og 168 .mv [.t 21] 167 true,
 og 169 (.cmp .lss) [.t 168, .c (.int .i64 30)] 167 true,
 ox 170 .pick [.t 167, .t 169, .c (.bool false)],
 ox 171 .mv [.t 170],
 og 172 .mv [.t 15] 171 true,
 og 173 (.arith .rem) [.t 172, .c (.int .i64 7)] 171 true,
 og 174 (.eq false .int) [.t 173, .c (.int .i64 0)] 171 true,
 ox 175 .pick [.t 171, .t 174, .c (.bool false)]])
 (.cond (.t 175)
 .skip
 (.exit 6)))
def d5_14 : ACode :=
 (.seq
 (.block 5
 (.seq
 (.ops [0, 2, 7, 9, 15, 16, 18, 19, 20] [
 ox 147 .mv [.t 7],
 ox 148 (.iface 28) [.t 147],
 ox 149 .mv [.t 0],
 ox 150 .mv [.t 18],
 ox 151 (.idxAddr 5) [.t 149, .t 150],
 ox 152 (.load true 5) [.t 151],
 ox 153 (.call 11) [.t 148, .t 152],
 ox 146 .mv [.t 153],
 ox 154 (.extract 0) [.t 146],
 ox 155 (.extract 1) [.t 146],
 ox 19 .mv [.t 154],
 ox 20 .mv [.t 155]])
 (.ops [0, 2, 7, 9, 15, 16, 17, 18] [
 ox 156 .mv [.t 20],
 ox 157 (.eq false .int) [.t 156, .c (.int .i64 0)],
 ox 158 .mv [.t 157],
 og 159 .mv [.t 19] 158 true,
 og 160 .mv [.t 16] 158 true,
 og 161 (.call 16) [.t 159, .t 160] 158 true,
 ox 162 .pick [.t 158, .t 161, .c (.bool false)],
 ox 17 .mv [.t 162]])))
 (.ops [0, 2, 7, 9, 15, 16, 17, 18] [
 ox 144 .mv [.t 18],
 ox 145 (.arith .add) [.t 144, .c (.int .i64 1)],
 ox 18 .mv [.t 145]]))
def d5_13 : ACode :=
 (.seq
 (.ops [0, 2, 7, 9, 15, 16, 17, 18, 143] [
 ox 132 .mv [.t 18],
 ox 133 .mv [.t 0],
 ox 134 .len [.t 133],
 ox 135 (.cmp .lss) [.t 132, .t 134],
 ox 136 .mv [.t 135],
 og 137 .mv [.t 18] 136 true,
 og 138 (.cmp .lss) [.t 137, .c (.int .i64 30)] 136 true,
 ox 139 .pick [.t 136, .t 138, .c (.bool false)],
 ox 140 .mv [.t 139],
 og 141 .mv [.t 17] 140 true,
 og 142 .not [.t 141] 140 true,
 ox 143 .pick [.t 140, .t 142, .c (.bool false)]])
 (.cond (.t 143)
 .skip
 (.exit 4)))
def d5_12 : ACode :=
 (.seq
 (.block 3
 (.seq
 (.ops [0, 2, 7, 9, 15, 16] [
 ox 117 .mv [.t 9],
 ox 118 (.call 17) [.t 117],
 ox 16 .mv [.t 118]])
 (.seq
 (.ops [0, 2, 7, 9, 15, 16] [
 ox 119 .mv [.t 16],
 ox 120 .mv [.t 15],
 ox 121 .mv [.t 16],
 ox 122 .mv [.t 15],
 ox 123 (.idxAddr 1) [.t 121, .t 122],
 ox 124 (.load false 1) [.t 123],
 ox 125 .mv [.t 2],
 ox 126 .len [.t 125],
 ox 127 (.arith .rem) [.t 126, .c (.int .i64 255)],
 ox 128 (.arith .add) [.c (.int .i64 1), .t 127],
 ox 129 (.conv .u8) [.t 128],
 ox 130 (.arith .xor) [.t 124, .t 129],
 ox 131 (.idxAddr 1) [.t 119, .t 120],
 oy (.store 1) [.t 131, .t 130]])
 (.seq
 (.ops [0, 2, 7, 9, 15, 16, 17] [
 ox 17 .mv [.c (.bool false)]])
 (.seq
 (.seq
 (.ops [0, 2, 7, 9, 15, 16, 17, 18] [
 ox 18 .mv [.c (.int .i64 0)]])
 (.block 4
 (.loop [0, 2, 7, 9, 15, 16, 17, 18]
 (.seq d5_13 d5_14))))
 (.seq
 (.ops [0, 2, 7, 9, 15, 16, 17, 21] [
 ox 21 .mv [.c (.int .i64 0)]])
 (.block 6
 (.loop [0, 2, 7, 9, 15, 16, 17, 21]
 (.seq d5_15 d5_16)))))))))
 (.ops [0, 2, 7, 9, 15] [
 ox 115 .mv [.t 15],
 ox 116 (.arith .add) [.t 115, .c (.int .i64 1)],
 ox 15 .mv [.t 116]]))
def d5_11 : ACode :=
 (.seq
 (.ops [0, 2, 7, 9, 15, 114] [
 ox 111 .mv [.t 15],
 ox 112 .mv [.t 9],
 ox 113 .len [.t 112],
 ox 114 (.cmp .lss) [.t 111, .t 113]])
 (.cond (.t 114)
 .skip
 (.exit 2)))
def d5_10 : ACode :=
 (.seq
 (.seq
 (.ops [0, 2, 7, 9, 15] [
 ox 15 .mv [.c (.int .i64 0)]])
 (.block 2
 (.loop [0, 2, 7, 9, 15]
 (.seq d5_11 d5_12))))
 (.seq
 (.ops [6] [
 ox 201 (.call 8) [],
 ox 6 .mv [.t 201]])
 .ret))
def d5_9 : ACode :=
 (.seq
 (.ops [0, 2, 7, 9, 110] [
 ox 97 .mv [.t 14],
 ox 98 (.eq false .int) [.t 97, .c (.int .i64 0)],
 ox 99 .mv [.t 8],
 ox 100 (.eq true .bool) [.t 98, .t 99],
 ox 101 .mv [.t 100],
 og 102 .mv [.t 14] 101 false,
 og 103 (.eq true .int) [.t 102, .c (.int .i64 0)] 101 false,
 og 104 .mv [.t 103] 101 false,
 og 105 (.load true 5) [.t 13] 104 true,
 og 106 (.build [.int .i64 0, .int .i64 0, .int .i64 0, .int .i64 0, .nils] []) [] 104 true,
 og 107 (.call 14) [.t 105, .t 106] 104 true,
 og 108 .not [.t 107] 104 true,
 og 109 .pick [.t 104, .t 108, .c (.bool false)] 101 false,
 ox 110 .pick [.t 101, .c (.bool true), .t 109]])
 (.cond (.t 110)
 (.seq
 (.ops [6] [
 ox 6 .mv [.c (.bool false)]])
 .ret)
 .skip))
def d5_8 : ACode :=
 (.seq
 (.ops [0, 2, 4, 7, 8, 9, 10, 11] [
 ox 59 .mv [.t 11],
 ox 9 .mv [.t 59]])
 (.drawn [0, 2, 4, 7, 8, 9, 10] [
 ox 60 .mv [.t 8],
 ox 61 .mv [.t 60],
 og 62 .mv [.t 0] 61 false,
 og 63 .mv [.t 10] 61 false,
 og 64 (.idxAddr 5) [.t 62, .t 63] 61 false,
 og 65 (.fieldAddr 0) [.t 64] 61 false,
 og 66 (.load false 1) [.t 65] 61 false,
 og 67 (.fieldAddr 0) [.t 4] 61 false,
 og 68 (.load false 1) [.t 67] 61 false,
 og 69 (.eq false .int) [.t 66, .t 68] 61 false,
 og 70 .mv [.t 69] 61 false,
 og 71 .mv [.t 0] 70 true,
 og 72 .mv [.t 10] 70 true,
 og 73 (.idxAddr 5) [.t 71, .t 72] 70 true,
 og 74 (.fieldAddr 3) [.t 73] 70 true,
 og 75 (.load false 1) [.t 74] 70 true,
 og 76 (.fieldAddr 1) [.t 4] 70 true,
 og 77 (.load false 1) [.t 76] 70 true,
 og 78 (.eq false .int) [.t 75, .t 77] 70 true,
 og 79 .pick [.t 70, .t 78, .c (.bool false)] 61 false,
 og 80 .mv [.t 79] 61 false,
 og 81 .mv [.t 11] 80 true,
 og 82 .mv [.t 2] 80 true,
 oh 83 (.call 16) [.t 81, .t 82] 80 true 0 1,
 oh 84 .pick [.t 80, .t 83, .c (.bool false)] 61 false 1 1,
 od 85 .pick [.t 61, .c (.bool true), .t 84] 1 1,
 od 8 .mv [.t 85] 1 1]))
def d5_7 : ACode :=
 (.seq
 (.ops [0, 2, 4, 7, 8, 9, 10, 11, 58] [
 ox 57 .mv [.t 12],
 ox 58 (.eq true .int) [.t 57, .c (.int .i64 0)]])
 (.cond (.t 58)
 (.exit 1)
 .skip))
def d5_6 : ACode :=
 (.seq
 (.ops [0, 2, 4, 7, 8, 9, 10, 11, 12] [
 ox 48 .mv [.t 7],
 ox 49 (.iface 28) [.t 48],
 ox 50 .mv [.t 0],
 ox 51 .mv [.t 10],
 ox 52 (.idxAddr 5) [.t 50, .t 51],
 ox 53 (.load true 5) [.t 52],
 ox 54 (.call 11) [.t 49, .t 53],
 ox 47 .mv [.t 54],
 ox 55 (.extract 0) [.t 47],
 ox 56 (.extract 1) [.t 47],
 ox 11 .mv [.t 55],
 ox 12 .mv [.t 56]])
 (.seq d5_7 d5_8))
def d5_5 : ACode :=
 (.seq
 (.ops [0, 2, 4, 7, 8, 9, 10, 45] [
 ox 39 .mv [.t 0],
 ox 40 .mv [.t 10],
 ox 41 (.idxAddr 5) [.t 39, .t 40],
 ox 42 (.fieldAddr 4) [.t 41],
 ox 43 (.load false 1) [.t 42],
 ox 44 .len [.t 43],
 ox 45 (.cmp .gtr) [.t 44, .c (.int .i64 1024)]])
 (.cond (.t 45)
 (.seq
 (.ops [6] [
 ox 46 (.call 8) [],
 ox 6 .mv [.t 46]])
 .ret)
 .skip))
def d5_4 : ACode :=
 (.seq
 (.block 1
 (.seq d5_5 d5_6))
 (.ops [0, 2, 4, 7, 8, 9, 10] [
 ox 37 .mv [.t 10],
 ox 38 (.arith .add) [.t 37, .c (.int .i64 1)],
 ox 10 .mv [.t 38]]))
def d5_3 : ACode :=
 (.seq
 (.ops [0, 2, 4, 7, 8, 9, 10, 36] [
 ox 29 .mv [.t 10],
 ox 30 .mv [.t 0],
 ox 31 .len [.t 30],
 ox 32 (.cmp .lss) [.t 29, .t 31],
 ox 33 .mv [.t 32],
 og 34 .mv [.t 10] 33 true,
 og 35 (.cmp .lss) [.t 34, .c (.int .i64 30)] 33 true,
 ox 36 .pick [.t 33, .t 35, .c (.bool false)]])
 (.cond (.t 36)
 .skip
 (.exit 0)))
def d5_2 : ACode :=
 (.seq
 (.ops [0, 2, 4, 7] [
 ox 28 (.call 10) [],
 ox 7 .mv [.t 28]])
 (.seq
 (.ops [0, 2, 4, 7, 8] [
 ox 8 .mv [.c (.bool false)]])
 (.seq
 (.ops [0, 2, 4, 7, 8, 9] [
 ox 9 .mv [.c .nils]])
 (.seq
 (.seq
 (.ops [0, 2, 4, 7, 8, 9, 10] [
 ox 10 .mv [.c (.int .i64 0)]])
 (.block 0
 (.loop [0, 2, 4, 7, 8, 9, 10]
 (.seq d5_3 d5_4))))
 (.seq
 (.ops [0, 2, 7, 8, 9, 13, 14] [
 ox 87 .mv [.t 7],
 ox 88 (.iface 28) [.t 87],
 ox 89 (.fieldAddr 0) [.t 4],
 ox 90 (.load false 1) [.t 89],
 ox 91 (.fieldAddr 1) [.t 4],
 ox 92 (.load false 1) [.t 91],
 ox 93 .mv [.t 2],
 ox 94 (.call 13) [.t 88, .t 90, .t 92, .t 93],
 ox 86 .mv [.t 94],
 ox 95 (.extract 0) [.t 86],
 ox 96 (.extract 1) [.t 86],
 ox 13 (.alloc [.int .i64 0, .int .i64 0, .int .i64 0, .int .i64 0, .nils]) [],
 oy (.store 5) [.t 13, .t 95],
 ox 14 .mv [.t 96]])
 (.seq d5_9 d5_10))))))
def d5_1 : ACode :=
 (.seq
 (.ops [0, 2, 4, 26] [
 ox 24 .mv [.t 2],
 ox 25 .len [.t 24],
 ox 26 (.cmp .gtr) [.t 25, .c (.int .i64 4096)]])
 (.cond (.t 26)
 (.seq
 (.ops [6] [
 ox 27 (.call 8) [],
 ox 6 .mv [.t 27]])
 .ret)
 .skip))
theorem q5 : c5 =
 (.seq
 (.ops [0, 2, 4] [
 ox 4 .box [.t 1],
 ox 6 .mv [.c (.bool false)]])
 (.seq d5_1 d5_2)) := rfl
/-- rill/rilllaw11.SectorKnown -/
def d6_6 : ACode :=
 (.seq
 (.ops [1, 9, 12] [
 ox 97 .mv [.t 1],
 ox 98 (.iface 28) [.t 97],
 ox 99 .mv [.t 9],
 ox 100 (.slice 1 false true false) [.t 99, .c (.int .i64 16)],
 ox 101 (.call 13) [.t 98, .c (.int .i64 4), .c (.int .i64 3), .t 100],
 ox 96 .mv [.t 101],
 ox 102 (.extract 0) [.t 96],
 ox 103 (.extract 1) [.t 96],
 ox 11 (.alloc [.int .i64 0, .int .i64 0, .int .i64 0, .int .i64 0, .nils]) [],
 oy (.store 5) [.t 11, .t 102],
 ox 12 .mv [.t 103]])
 (.seq
 (.ops [1, 9, 12, 14] [
 ox 105 .mv [.t 1],
 ox 106 (.iface 28) [.t 105],
 ox 107 (.mkSlice [.int .u8 0] 1) [.c (.int .i64 1025), .c (.int .i64 1025)],
 ox 108 (.call 13) [.t 106, .c (.int .i64 4), .c (.int .i64 3), .t 107],
 ox 104 .mv [.t 108],
 ox 109 (.extract 0) [.t 104],
 ox 110 (.extract 1) [.t 104],
 ox 13 (.alloc [.int .i64 0, .int .i64 0, .int .i64 0, .int .i64 0, .nils]) [],
 oy (.store 5) [.t 13, .t 109],
 ox 14 .mv [.t 110]])
 (.seq
 (.ops [1, 9, 12, 14, 16] [
 ox 112 .mv [.t 1],
 ox 113 (.iface 28) [.t 112],
 ox 114 .mv [.t 9],
 ox 115 (.call 13) [.t 113, .c (.int .i64 5), .c (.int .i64 3), .t 114],
 ox 111 .mv [.t 115],
 ox 116 (.extract 0) [.t 111],
 ox 117 (.extract 1) [.t 111],
 ox 15 (.alloc [.int .i64 0, .int .i64 0, .int .i64 0, .int .i64 0, .nils]) [],
 oy (.store 5) [.t 15, .t 116],
 ox 16 .mv [.t 117]])
 (.seq
 (.ops [1, 9, 12, 14, 16, 18] [
 ox 119 .mv [.t 1],
 ox 120 (.iface 28) [.t 119],
 ox 121 (.mkSlice [.int .u8 0] 1) [.c (.int .i64 20), .c (.int .i64 20)],
 ox 122 (.call 13) [.t 120, .c (.int .i64 0), .c (.int .i64 3), .t 121],
 ox 118 .mv [.t 122],
 ox 123 (.extract 0) [.t 118],
 ox 124 (.extract 1) [.t 118],
 ox 17 (.alloc [.int .i64 0, .int .i64 0, .int .i64 0, .int .i64 0, .nils]) [],
 oy (.store 5) [.t 17, .t 123],
 ox 18 .mv [.t 124]])
 (.seq
 (.ops [9, 12, 14, 16, 18, 20] [
 ox 126 .mv [.t 1],
 ox 127 (.iface 28) [.t 126],
 ox 128 .mv [.t 9],
 ox 129 (.call 13) [.t 127, .c (.int .i64 4), .c (.int .i64 4096), .t 128],
 ox 125 .mv [.t 129],
 ox 130 (.extract 0) [.t 125],
 ox 131 (.extract 1) [.t 125],
 ox 19 (.alloc [.int .i64 0, .int .i64 0, .int .i64 0, .int .i64 0, .nils]) [],
 oy (.store 5) [.t 19, .t 130],
 ox 20 .mv [.t 131]])
 (.seq
 (.ops [0] [
 ox 132 .mv [.t 12],
 ox 133 (.eq false .int) [.t 132, .c (.int .i64 2)],
 ox 134 .mv [.t 133],
 og 135 .mv [.t 14] 134 true,
 og 136 (.eq false .int) [.t 135, .c (.int .i64 3)] 134 true,
 ox 137 .pick [.t 134, .t 136, .c (.bool false)],
 ox 138 .mv [.t 137],
 og 139 .mv [.t 16] 138 true,
 og 140 (.eq false .int) [.t 139, .c (.int .i64 5)] 138 true,
 ox 141 .pick [.t 138, .t 140, .c (.bool false)],
 ox 142 .mv [.t 141],
 og 143 .mv [.t 18] 142 true,
 og 144 (.eq false .int) [.t 143, .c (.int .i64 5)] 142 true,
 ox 145 .pick [.t 142, .t 144, .c (.bool false)],
 ox 146 .mv [.t 145],
 og 147 .mv [.t 20] 146 true,
 og 148 (.eq false .int) [.t 147, .c (.int .i64 7)] 146 true,
 ox 149 .pick [.t 146, .t 148, .c (.bool false)],
 ox 150 .mv [.t 149],
 og 151 .mv [.t 9] 150 true,
 og 152 (.call 15) [.t 151] 150 true,
 og 153 (.eq false .int) [.t 152, .c (.int .i64 4)] 150 true,
 ox 154 .pick [.t 150, .t 153, .c (.bool false)],
 ox 155 .mv [.t 154],
 og 156 .mv [.t 9] 155 true,
 og 157 (.slice 1 false true false) [.t 156, .c (.int .i64 16)] 155 true,
 og 158 (.call 15) [.t 157] 155 true,
 og 159 (.eq false .int) [.t 158, .c (.int .i64 0)] 155 true,
 ox 160 .pick [.t 155, .t 159, .c (.bool false)],
 ox 161 .mv [.t 160],
 og 162 (.mkSlice [.int .u8 0] 1) [.c (.int .i64 99), .c (.int .i64 99)] 161 true,
 og 163 (.call 15) [.t 162] 161 true,
 og 164 (.eq false .int) [.t 163, .c (.int .i64 0)] 161 true,
 ox 165 .pick [.t 161, .t 164, .c (.bool false)],
 ox 166 .mv [.t 165],
 og 167 (.call 8) [] 166 true,
 ox 168 .pick [.t 166, .t 167, .c (.bool false)],
 ox 0 .mv [.t 168]])
 .ret))))))
def d6_5 : ACode :=
 (.seq
 (.ops [1, 9, 95] [
 ox 93 .mv [.t 9],
 ox 94 .len [.t 93],
 ox 95 (.eq true .int) [.t 94, .c (.int .i64 49)]])
 (.cond (.t 95)
 (.seq
 (.ops [0] [
 ox 0 .mv [.c (.bool false)]])
 .ret)
 .skip))
def d6_4 : ACode :=
 (.seq
 (.drawn [1, 2, 3, 4, 6, 8] [
 ox 65 .mv [.t 1],
 ox 66 (.iface 28) [.t 65],
 ox 67 .mv [.t 2],
 ox 68 .mv [.t 4],
 ox 69 (.idxAddr 5) [.t 67, .t 68],
 ox 70 (.fieldAddr 0) [.t 69],
 ox 71 (.load false 1) [.t 70],
 ox 72 .mv [.t 2],
 ox 73 .mv [.t 4],
 ox 74 (.idxAddr 5) [.t 72, .t 73],
 ox 75 (.fieldAddr 3) [.t 74],
 ox 76 (.load false 1) [.t 75],
 ox 77 .mv [.t 5],
 od 78 (.call 13) [.t 66, .t 71, .t 76, .t 77] 0 1,
 od 64 .mv [.t 78] 1 1,
 od 79 (.extract 0) [.t 64] 1 1,
 od 80 (.extract 1) [.t 64] 1 2,
 od 7 (.alloc [.int .i64 0, .int .i64 0, .int .i64 0, .int .i64 0, .nils]) [] 0 1,
 oe (.store 5) [.t 7, .t 79] 1 2,
 od 8 .mv [.t 80] 2 2])
 (.seq
 (.ops [1, 2, 3, 4, 85] [
 ox 81 .mv [.t 8],
 ox 82 (.eq false .int) [.t 81, .c (.int .i64 0)],
 ox 83 .mv [.t 6],
 ox 84 (.eq false .int) [.t 83, .c (.int .i64 0)],
 ox 85 (.eq true .bool) [.t 82, .t 84]])
 (.cond (.t 85)
 (.seq
 (.ops [0] [
 ox 0 .mv [.c (.bool false)]])
 .ret)
 .skip)))
def d6_3 : ACode :=
 (.seq
 (.ops [1, 2, 3, 4, 5, 6, 63] [
 ox 53 .mv [.t 6],
 ox 54 .mv [.t 3],
 ox 55 .mv [.t 4],
 ox 56 (.idxAddr 1) [.t 54, .t 55],
 ox 57 (.load false 1) [.t 56],
 ox 58 (.eq true .int) [.t 53, .t 57],
 ox 59 .mv [.t 58],
 og 60 .mv [.t 5] 59 false,
 og 61 .len [.t 60] 59 false,
 og 62 (.cmp .gtr) [.t 61, .c (.int .i64 1024)] 59 false,
 ox 63 .pick [.t 59, .c (.bool true), .t 62]])
 (.cond (.t 63)
 (.seq
 (.ops [0] [
 ox 0 .mv [.c (.bool false)]])
 .ret)
 .skip))
def d6_2 : ACode :=
 (.seq
 (.block 1
 (.seq
 (.ops [1, 2, 3, 4, 5, 6] [
 ox 44 .mv [.t 1],
 ox 45 (.iface 28) [.t 44],
 ox 46 .mv [.t 2],
 ox 47 .mv [.t 4],
 ox 48 (.idxAddr 5) [.t 46, .t 47],
 ox 49 (.load true 5) [.t 48],
 ox 50 (.call 11) [.t 45, .t 49],
 ox 43 .mv [.t 50],
 ox 51 (.extract 0) [.t 43],
 ox 52 (.extract 1) [.t 43],
 ox 5 .mv [.t 51],
 ox 6 .mv [.t 52]])
 (.seq d6_3 d6_4)))
 (.ops [1, 2, 3, 4] [
 ox 41 .mv [.t 4],
 ox 42 (.arith .add) [.t 41, .c (.int .i64 1)],
 ox 4 .mv [.t 42]]))
def d6_1 : ACode :=
 (.seq
 (.ops [1, 2, 3, 4, 40] [
 ox 37 .mv [.t 4],
 ox 38 .mv [.t 2],
 ox 39 .len [.t 38],
 ox 40 (.cmp .lss) [.t 37, .t 39]])
 (.cond (.t 40)
 .skip
 (.exit 0)))
theorem q6 : c6 =
 (.seq
 (.ops [] [
 ox 0 .mv [.c (.bool false)]])
 (.seq
 (.ops [1] [
 ox 21 (.call 10) [],
 ox 1 .mv [.t 21]])
 (.seq
 (.drawn [1, 2] [
 ox 22 (.build [.int .i64 0, .int .i64 0, .int .i64 0, .int .i64 0, .nils] []) [],
 ox 23 (.build [.int .i64 0, .int .i64 0, .int .i64 0, .int .i64 0, .nils] [(0, 1)]) [.c (.int .i64 6)],
 ox 24 (.build [.int .i64 0, .int .i64 0, .int .i64 0, .int .i64 0, .nils] [(0, 1)]) [.c (.int .i64 (-1))],
 ox 25 (.build [.int .i64 0, .int .i64 0, .int .i64 0, .int .i64 0, .nils] [(0, 1)]) [.c (.int .i64 1)],
 ox 26 (.build [.int .i64 0, .int .i64 0, .int .i64 0, .int .i64 0, .nils] [(0, 1), (1, 1)]) [.c (.int .i64 5), .c (.int .i64 (-1))],
 ox 27 (.build [.int .i64 0, .int .i64 0, .int .i64 0, .int .i64 0, .nils] [(0, 1), (1, 1), (2, 1), (3, 1)]) [.c (.int .i64 5), .c (.int .i64 1099511627776), .c (.int .i64 1099511627776), .c (.int .i64 4095)],
 ox 28 (.build [.int .i64 0, .int .i64 0, .int .i64 0, .int .i64 0, .nils] [(0, 1), (2, 1)]) [.c (.int .i64 5), .c (.int .i64 1099511627777)],
 ox 29 (.build [.int .i64 0, .int .i64 0, .int .i64 0, .int .i64 0, .nils] [(0, 1), (3, 1)]) [.c (.int .i64 5), .c (.int .i64 4096)],
 ox 30 (.build [.int .i64 0, .int .i64 0, .int .i64 0, .int .i64 0, .nils] [(0, 1), (3, 1)]) [.c (.int .i64 5), .c (.int .i64 (-1))],
 ox 31 (.mkSlice [.int .u8 0] 1) [.c (.int .i64 975), .c (.int .i64 975)],
 ox 32 (.build [.int .i64 0, .int .i64 0, .int .i64 0, .int .i64 0, .nils] [(0, 1), (4, 1)]) [.c (.int .i64 4), .t 31],
 ox 33 (.mkSlice [.int .u8 0] 1) [.c (.int .i64 976), .c (.int .i64 976)],
 ox 34 (.build [.int .i64 0, .int .i64 0, .int .i64 0, .int .i64 0, .nils] [(0, 1), (4, 1)]) [.c (.int .i64 4), .t 33],
 ox 35 (.mkSl 11 (rep 5 [.int .i64 0, .int .i64 0, .int .i64 0, .int .i64 0, .nils, .int .i64 0, .int .i64 0, .int .i64 0, .int .i64 0, .nils] ++ ([.int .i64 0, .int .i64 0, .int .i64 0, .int .i64 0, .nils])) [(0, 5), (5, 5), (10, 5), (15, 5), (20, 5), (25, 5), (30, 5), (35, 5), (40, 5), (45, 5), (50, 5)]) [.t 22, .t 23, .t 24, .t 25, .t 26, .t 27, .t 28, .t 29, .t 30, .t 32, .t 34],
 ox 2 .mv [.t 35]])
 (.seq
 (.ops [1, 2, 3] [
 ox 36 (.mkSl 11 (List.replicate 11 (.int .i64 0)) [(0, 1), (1, 1), (2, 1), (3, 1), (4, 1), (5, 1), (6, 1), (7, 1), (8, 1), (9, 1), (10, 1)]) [.c (.int .i64 5), .c (.int .i64 5), .c (.int .i64 5), .c (.int .i64 0), .c (.int .i64 7), .c (.int .i64 0), .c (.int .i64 7), .c (.int .i64 7), .c (.int .i64 7), .c (.int .i64 0), .c (.int .i64 3)],
 ox 3 .mv [.t 36]])
 (.seq
 (.seq
 (.ops [1, 2, 3, 4] [
 ox 4 .mv [.c (.int .i64 0)]])
 (.block 0
 (.loop [1, 2, 3, 4]
 (.seq d6_1 d6_2))))
 (.seq
 (.ops [1, 9] [
 ox 87 .mv [.t 1],
 ox 88 (.iface 28) [.t 87],
 ox 89 (.build [.int .i64 0, .int .i64 0, .int .i64 0, .int .i64 0, .nils] [(0, 1), (3, 1)]) [.c (.int .i64 4), .c (.int .i64 3)],
 ox 90 (.call 11) [.t 88, .t 89],
 ox 86 .mv [.t 90],
 ox 91 (.extract 0) [.t 86],
 ox 92 (.extract 1) [.t 86],
 ox 9 .mv [.t 91],
 ox 10 .mv [.t 92]])
 (.seq d6_5 d6_6))))))) := rfl
/-- rill/sector.Get -/
def d13_4 : ACode :=
 (.seq
 (.ops [8, 11] [
 ox 72 .mv [.t 12],
 ox 73 (.fieldAddr 4) [.t 11],
 oy (.store 1) [.t 73, .t 72]])
 (.seq
 (.ops [8, 9] [
 ox 74 (.load true 5) [.t 11],
 oy (.store 5) [.t 8, .t 74],
 ox 9 .mv [.c (.int .i64 0)]])
 .ret))
def d13_3 : ACode :=
 (.seq
 (.ops [8, 11, 12, 70] [
 ox 69 .mv [.t 13],
 ox 70 .not [.t 69]])
 (.cond (.t 70)
 (.seq
 (.ops [8, 9] [
 ox 71 (.build [.int .i64 0, .int .i64 0, .int .i64 0, .int .i64 0, .nils] []) [],
 oy (.store 5) [.t 8, .t 71],
 ox 9 .mv [.c (.int .i64 19)]])
 .ret)
 .skip))
def d13_2 : ACode :=
 (.seq
 (.drawn [8, 11, 12, 13] [
 od 53 .mv [.t 0] 0 1,
 od 54 (.fieldAddr 1) [.t 11] 0 1,
 od 55 (.load false 1) [.t 54] 0 1,
 od 56 (.fieldAddr 2) [.t 11] 0 1,
 od 57 (.load false 1) [.t 56] 0 1,
 ox 58 .mv [.t 1],
 ox 59 .mv [.t 2],
 od 60 (.call 22) [.t 58, .t 59] 0 1,
 od 61 .mv [.t 3] 0 1,
 od 62 (.slice 1 true false false) [.t 61, .c (.int .i64 17)] 0 1,
 od 63 (.mkFn (.method "Open") 1) [.t 53] 0 1,
 od 64 .nilCheck [.t 63] 0 1,
 od 65 .mv [.t 53] 0 1,
 od 66 (.invoke "Open") [.t 65, .t 55, .t 57, .t 60, .t 62] 1 2,
 od 52 .mv [.t 66] 2 2,
 od 67 (.extract 0) [.t 52] 2 2,
 od 68 (.extract 1) [.t 52] 2 2,
 od 12 .mv [.t 67] 2 2,
 od 13 .mv [.t 68] 2 2])
 (.seq d13_3 d13_4))
def d13_1 : ACode :=
 (.seq
 (.ops [0, 1, 2, 3, 8, 11, 50] [
 ox 44 (.fieldAddr 1) [.t 11],
 ox 45 (.load false 1) [.t 44],
 ox 46 (.fieldAddr 2) [.t 11],
 ox 47 (.load false 1) [.t 46],
 ox 48 .mv [.t 2],
 ox 49 (.call 20) [.t 45, .t 47, .t 48],
 ox 50 .not [.t 49]])
 (.cond (.t 50)
 (.seq
 (.ops [8, 9] [
 ox 51 (.build [.int .i64 0, .int .i64 0, .int .i64 0, .int .i64 0, .nils] []) [],
 oy (.store 5) [.t 8, .t 51],
 ox 9 .mv [.c (.int .i64 7)]])
 .ret)
 .skip))
theorem q13 : c13 =
 (.seq
 (.ops [0, 1, 2, 3, 8] [
 ox 8 (.alloc [.int .i64 0, .int .i64 0, .int .i64 0, .int .i64 0, .nils]) [],
 ox 9 .mv [.c (.int .i64 0)]])
 (.seq
 (.block 0
 (.seq
 (.ops [0, 1, 2, 3, 8, 14] [
 ox 15 .mv [.t 3],
 ox 16 .len [.t 15],
 ox 17 (.cmp .lss) [.t 16, .c (.int .i64 17)],
 ox 14 .mv [.t 17]])
 (.cond (.t 14)
 (.seq
 (.ops [8, 9] [
 ox 18 (.build [.int .i64 0, .int .i64 0, .int .i64 0, .int .i64 0, .nils] []) [],
 oy (.store 5) [.t 8, .t 18],
 ox 9 .mv [.c (.int .i64 2)]])
 .ret)
 (.seq
 (.ops [0, 1, 2, 3, 8, 19] [
 ox 20 .mv [.t 3],
 ox 21 .len [.t 20],
 ox 22 (.cmp .gtr) [.t 21, .c (.int .i64 1024)],
 ox 19 .mv [.t 22]])
 (.cond (.t 19)
 (.seq
 (.ops [8, 9] [
 ox 23 (.build [.int .i64 0, .int .i64 0, .int .i64 0, .int .i64 0, .nils] []) [],
 oy (.store 5) [.t 8, .t 23],
 ox 9 .mv [.c (.int .i64 3)]])
 .ret)
 (.seq
 (.ops [0, 1, 2, 3, 8, 24] [
 ox 25 .mv [.t 1],
 ox 26 (.eq false .int) [.t 25, .c (.int .i64 0)],
 ox 27 .mv [.t 26],
 og 28 .mv [.t 3] 27 false,
 og 29 (.call 15) [.t 28] 27 false,
 og 30 .mv [.t 1] 27 false,
 og 31 (.eq true .int) [.t 29, .t 30] 27 false,
 ox 32 .pick [.t 27, .c (.bool true), .t 31],
 ox 24 .mv [.t 32]])
 (.cond (.t 24)
 (.seq
 (.ops [8, 9] [
 ox 33 (.build [.int .i64 0, .int .i64 0, .int .i64 0, .int .i64 0, .nils] []) [],
 oy (.store 5) [.t 8, .t 33],
 ox 9 .mv [.c (.int .i64 5)]])
 .ret)
 .skip)))))))
 (.seq
 (.ops [0, 1, 2, 3, 8, 10] [
 ox 34 .mv [.t 3],
 ox 35 (.slice 1 true true false) [.t 34, .c (.int .i64 1), .c (.int .i64 17)],
 ox 36 (.call 23) [.t 35],
 ox 10 .mv [.t 36]])
 (.seq
 (.ops [0, 1, 2, 3, 8, 11] [
 ox 37 .mv [.t 1],
 ox 38 .mv [.t 10],
 ox 39 (.call 24) [.t 38],
 ox 40 .mv [.t 10],
 ox 41 (.call 24) [.t 40],
 ox 42 .mv [.t 2],
 ox 43 (.build [.int .i64 0, .int .i64 0, .int .i64 0, .int .i64 0, .nils] [(0, 1), (1, 1), (2, 1), (3, 1)]) [.t 37, .t 39, .t 41, .t 42],
 ox 11 (.alloc [.int .i64 0, .int .i64 0, .int .i64 0, .int .i64 0, .nils]) [],
 oy (.store 5) [.t 11, .t 43]])
 (.seq d13_1 d13_2))))) := rfl
/-- rill/mac.blockOf -/
def c32_2 : ACode :=
 (.seq
 (.seq
 (.ops [1, 4, 5, 19] [
 ox 19 .mv [.c (.int .i64 0)]])
 (.block 0
 (.loop [1, 4, 5, 19]
 (.seq
 (.ops [1, 4, 5, 19, 20] [
 ox 20 (.cmp .lss) [.t 19, .c (.int .i64 64)]])
 (.seq
 (.cond (.t 20)
 .skip
 (.exit 0))
 (.seq
 (.block 1
 (.seq
 (.ops [1, 4, 5, 7, 19] [
 ox 21 .mv [.t 19],
 ox 7 .mv [.t 21]])
 (.ops [1, 4, 5, 19] [
 ox 22 .mv [.t 7],
 ox 23 (.idxAddrArr 64 1) [.t 5, .t 22],
 ox 24 (.load false 1) [.t 23],
 ox 25 .mv [.t 1],
 ox 26 (.arith .xor) [.t 24, .t 25],
 ox 27 (.idxAddrArr 64 1) [.t 5, .t 22],
 oy (.store 1) [.t 27, .t 26]])))
 (.ops [1, 4, 5, 19] [
 ox 28 (.arith .add) [.t 19, .c (.int .i64 1)],
 ox 19 .mv [.t 28]])))))))
 (.seq
 (.ops [4] [
 ox 29 (.load true 64) [.t 5],
 oy (.store 64) [.t 4, .t 29]])
 .ret))
def c32_1 : ACode :=
 (.seq
 (.ops [0, 1, 4, 5, 10] [
 ox 8 .mv [.t 0],
 ox 9 .len [.t 8],
 ox 10 (.cmp .gtr) [.t 9, .c (.int .i64 64)]])
 (.cond (.t 10)
 (.seq
 (.ops [1, 4, 5, 6] [
 ox 11 .mv [.t 0],
 ox 12 (.call 36) [.t 11],
 ox 6 (.alloc (List.replicate 32 (.int .u8 0))) [],
 oy (.store 32) [.t 6, .t 12]])
 (.drawn [1, 4, 5] [
 ox 13 (.sliceArr 64 1 false false false) [.t 5],
 ox 14 (.sliceArr 32 1 false false false) [.t 6],
 od 15 (.copy 1) [.t 13, .t 14] 0 1]))
 (.ops [1, 4, 5] [
 ox 16 (.sliceArr 64 1 false false false) [.t 5],
 ox 17 .mv [.t 0],
 ox 18 (.copy 1) [.t 16, .t 17]])))
theorem p32 : c32 =
 (.seq
 (.ops [0, 1, 4] [
 ox 4 (.alloc (List.replicate 64 (.int .u8 0))) []])
 (.seq
 (.ops [0, 1, 4, 5] [
 ox 5 (.alloc (List.replicate 64 (.int .u8 0))) []])
 (.seq c32_1 c32_2))) := rfl
/-- (*rill/names.Names).Seal -/
def c70_2 : ACode :=
 (.seq
 (.drawn [10] [
 od 61 .mv [.t 4] 0 1,
 od 62 (.mkSlice [.int .u8 0] 1) [.c (.int .i64 24), .c (.int .i64 24)] 0 1,
 ox 63 .mv [.t 12],
 od 64 (.call 74) [.t 63] 0 1,
 od 65 (.mkSl 3 [.nils, .nils, .nils] [(0, 1), (1, 1), (2, 1)]) [.t 61, .t 62, .t 64] 1 1,
 od 66 (.call 73) [.t 65] 1 2,
 od 10 .mv [.t 66] 2 2])
 .ret)
def c70_1 : ACode :=
 (.seq
 (.ops [0, 4, 11, 12, 39] [
 ox 38 .mv [.t 13],
 ox 39 .not [.t 38]])
 (.cond (.t 39)
 (.seq
 (.drawn [0, 4, 11] [
 od 40 .mv [.t 0] 0 1,
 ox 41 .mv [.t 0],
 ox 42 .nilCheck [.t 41],
 ox 43 (.fieldAddr 1) [.t 42],
 ox 44 (.load false 1) [.t 43],
 ox 45 (.load true 4) [.t 11],
 ox 46 (.mkSl 1 [.int .i64 0, .int .i64 0, .str ⟨#[]⟩, .str ⟨#[]⟩] [(0, 4)]) [.t 45],
 od 47 (.append 4 48) [.t 44, .t 46] 0 1,
 od 48 .nilCheck [.t 40] 1 1,
 od 49 (.fieldAddr 1) [.t 48] 1 1,
 oe (.store 1) [.t 49, .t 47] 1 2])
 (.seq
 (.ops [0, 4, 11, 12] [
 ox 50 .mv [.t 0],
 ox 51 .nilCheck [.t 50],
 ox 52 (.fieldAddr 1) [.t 51],
 ox 53 (.load false 1) [.t 52],
 ox 54 .len [.t 53],
 ox 12 .mv [.t 54]])
 (.drawn [4, 12] [
 ox 55 .mv [.t 0],
 ox 56 .nilCheck [.t 55],
 ox 57 (.fieldAddr 0) [.t 56],
 ox 58 (.load false 1) [.t 57],
 ox 59 (.load true 4) [.t 11],
 ox 60 .mv [.t 12],
 oe (.mapSet (.agg [.i, .i, .s, .s])) [.t 58, .t 59, .t 60] 0 1])))
 .skip))
theorem p70 : c70 =
 (.seq
 (.ops [0, 1, 2, 3, 4] [
 ox 10 .mv [.c .nils]])
 (.seq
 (.seq
 (.ops [0, 1, 2, 3, 4, 21] [
 ox 14 .mv [.t 1],
 ox 15 (.call 76) [.t 14],
 ox 16 .not [.t 15],
 ox 17 .mv [.t 16],
 og 18 .mv [.t 2] 17 false,
 og 19 (.call 76) [.t 18] 17 false,
 og 20 .not [.t 19] 17 false,
 ox 21 .pick [.t 17, .c (.bool true), .t 20]])
 (.cond (.t 21)
 (.seq
 (.ops [10] [
 ox 10 .mv [.c .nils]])
 .ret)
 .skip))
 (.seq
 (.ops [0, 4, 11] [
 ox 22 .mv [.t 1],
 ox 23 .mv [.t 2],
 ox 24 .mv [.t 3],
 ox 25 .b2s [.t 24],
 ox 26 .mv [.t 4],
 ox 27 .b2s [.t 26],
 ox 28 (.build [.int .i64 0, .int .i64 0, .str ⟨#[]⟩, .str ⟨#[]⟩] [(0, 1), (1, 1), (2, 1), (3, 1)]) [.t 22, .t 23, .t 25, .t 27],
 ox 11 (.alloc [.int .i64 0, .int .i64 0, .str ⟨#[]⟩, .str ⟨#[]⟩]) [],
 oy (.store 4) [.t 11, .t 28]])
 (.seq
 (.drawn [0, 4, 11, 12, 13] [
 ox 30 .mv [.t 0],
 ox 31 .nilCheck [.t 30],
 ox 32 (.fieldAddr 0) [.t 31],
 ox 33 (.load false 1) [.t 32],
 ox 34 (.load true 4) [.t 11],
 ox 35 (.lookup (.agg [.i, .i, .s, .s]) (.int .i64 0) true) [.t 33, .t 34],
 ox 29 .mv [.t 35],
 ox 36 (.extract 0) [.t 29],
 ox 37 (.extract 1) [.t 29],
 ox 12 .mv [.t 36],
 ox 13 .mv [.t 37]])
 (.seq c70_1 c70_2))))) := rfl
end Go.Proofs.YtmnlmjlmbceimaaDoor
end
section
/- What the statements of all layers share: lists of bytes. -/
namespace Go.Proofs.YtmnlmjlmbceimaaDoor
open Go Go.Adm
set_option linter.unusedSimpArgs false
set_option maxRecDepth 100000
def lent (l : List B8) : List B8 := tab (l.length + 5) fun j => if j < l.length then gb l j else 165#8
theorem lent_len (l : List B8) : (lent l).length = l.length + 5 := tab_len _ _
theorem ans_samebytes {m : Mem} {x y : AV} {a b : List B8} (hx : RdB m x a) (hy : RdB m y b) (hl : a.length < 1152921504606846976) : Ans Tryd.prog 16 [x, y] m fun r m' => r = .bool (a == b) ∧ m' = m := by
  refine ans_ret mixed ok16 ?_
  by_cases h : a.length = b.length
  · have h' : ((a.length : Int) == (b.length : Int)) = true := by rw [h]; simp
    simp -implicitDefEqProofs (disch := (first | omega | (simp only [lenB, lent_len] <;> omega) | fail)) only [admQ, lenB, lent_len, aFill, AK.cls, implies_true, ↓reduceIte, reduceCtorEq, if_true, if_false, Nat.reduceAdd, Nat.reduceEqDiff, Nat.reduceMod, Nat.reduceLT, Nat.reduceLeDiff, Nat.reduceSub, Nat.reduceMul, Nat.reduceBEq, Int.reduceAdd, Int.reduceSub, Int.reduceMul, Int.reduceNeg, Int.reduceLT, Int.reduceLE, Int.reduceToNat, Int.reduceEq, Int.reduceBEq, c16, r16, hx.len, hy.len, h']
    refine LoopW.on (fun i : Nat => [(0, x), (1, y), (5, .int .i64 i)]) (fun i => a.length - i) (fun i m' => m' = m ∧ i ≤ a.length ∧ ∀ j, j < i → gb a j = gb b j) ?_ 0 _ _ rfl ⟨rfl, by omega, fun j hj => by omega⟩
    rintro i _ X ⟨rfl, hi, hj⟩ hX
    by_cases hlt : i < a.length
    · obtain ⟨b1, o1, cap1, s1, c1, rfl, hr1, hg1, hl1, hc1, hs1, ht1⟩ := hx.cons hlt
      obtain ⟨b2, o2, cap2, s2, c2, rfl, hr2, hg2, hl2, hc2, hs2, ht2⟩ := hy.cons (by omega : i < b.length)
      have e1 := hg1 i hlt
      have e2 := hg2 i (by omega)
      cases he : gb a i == gb b i
      · have hne : (a == b) = false := by
          rw [beq_eq_false_iff_ne]; rintro rfl; simp at he
        simp -implicitDefEqProofs (disch := (first | omega | (simp only [lenB, lent_len] <;> omega) | fail)) only [admQ, lenB, lent_len, aFill, AK.cls, implies_true, ↓reduceIte, reduceCtorEq, if_true, if_false, Nat.reduceAdd, Nat.reduceEqDiff, Nat.reduceMod, Nat.reduceLT, Nat.reduceLeDiff, Nat.reduceSub, Nat.reduceMul, Nat.reduceBEq, Int.reduceAdd, Int.reduceSub, Int.reduceMul, Int.reduceNeg, Int.reduceLT, Int.reduceLE, Int.reduceToNat, Int.reduceEq, Int.reduceBEq, hr1, hr2, e1, e2, he, hne]
      · simp -implicitDefEqProofs (disch := (first | omega | (simp only [lenB, lent_len] <;> omega) | fail)) only [admQ, lenB, lent_len, aFill, AK.cls, implies_true, ↓reduceIte, reduceCtorEq, if_true, if_false, Nat.reduceAdd, Nat.reduceEqDiff, Nat.reduceMod, Nat.reduceLT, Nat.reduceLeDiff, Nat.reduceSub, Nat.reduceMul, Nat.reduceBEq, Int.reduceAdd, Int.reduceSub, Int.reduceMul, Int.reduceNeg, Int.reduceLT, Int.reduceLE, Int.reduceToNat, Int.reduceEq, Int.reduceBEq, hr1, hr2, e1, e2, he]
        refine hX (i + 1) _ _ rfl (by omega) ⟨rfl, by omega, fun j hj2 => ?_⟩
        by_cases hji : j = i
        · subst hji; simpa using he
        · exact hj j (by omega)
    · have he : (a == b) = true := by rw [beq_iff_eq]; exact gb_ext h fun j hj2 => hj j (by omega)
      simp -implicitDefEqProofs (disch := (first | omega | (simp only [lenB, lent_len] <;> omega) | fail)) only [admQ, lenB, lent_len, aFill, AK.cls, implies_true, ↓reduceIte, reduceCtorEq, if_true, if_false, Nat.reduceAdd, Nat.reduceEqDiff, Nat.reduceMod, Nat.reduceLT, Nat.reduceLeDiff, Nat.reduceSub, Nat.reduceMul, Nat.reduceBEq, Int.reduceAdd, Int.reduceSub, Int.reduceMul, Int.reduceNeg, Int.reduceLT, Int.reduceLE, Int.reduceToNat, Int.reduceEq, Int.reduceBEq, hx.len, he]
  · have h' : ((a.length : Int) == (b.length : Int)) = false := by rw [beq_eq_false_iff_ne]; omega
    have he : (a == b) = false := by rw [beq_eq_false_iff_ne]; rintro rfl; exact h rfl
    simp -implicitDefEqProofs (disch := (first | omega | (simp only [lenB, lent_len] <;> omega) | fail)) only [admQ, lenB, lent_len, aFill, AK.cls, implies_true, ↓reduceIte, reduceCtorEq, if_true, if_false, Nat.reduceAdd, Nat.reduceEqDiff, Nat.reduceMod, Nat.reduceLT, Nat.reduceLeDiff, Nat.reduceSub, Nat.reduceMul, Nat.reduceBEq, Int.reduceAdd, Int.reduceSub, Int.reduceMul, Int.reduceNeg, Int.reduceLT, Int.reduceLE, Int.reduceToNat, Int.reduceEq, Int.reduceBEq, c16, r16, hx.len, hy.len, h', he]
end Go.Proofs.YtmnlmjlmbceimaaDoor
end
section
/- AES: the blocks' cipher as plain lists of bytes. -/
namespace Go.Proofs.YtmnlmjlmbceimaaDoor
open Go Go.Adm
set_option linter.unusedSimpArgs false
set_option maxRecDepth 100000
def sboxN : List Nat := [99, 124, 119, 123, 242, 107, 111, 197, 48, 1, 103, 43, 254, 215, 171, 118, 202, 130, 201, 125, 250, 89, 71, 240, 173, 212, 162, 175, 156, 164, 114, 192, 183, 253, 147, 38, 54, 63, 247, 204, 52, 165, 229, 241, 113, 216, 49, 21, 4, 199, 35, 195, 24, 150, 5, 154, 7, 18, 128, 226, 235, 39, 178, 117, 9, 131, 44, 26, 27, 110, 90, 160, 82, 59, 214, 179, 41, 227, 47, 132, 83, 209, 0, 237, 32, 252, 177, 91, 106, 203, 190, 57, 74, 76, 88, 207, 208, 239, 170, 251, 67, 77, 51, 133, 69, 249, 2, 127, 80, 60, 159, 168, 81, 163, 64, 143, 146, 157, 56, 245, 188, 182, 218, 33, 16, 255, 243, 210, 205, 12, 19, 236, 95, 151, 68, 23, 196, 167, 126, 61, 100, 93, 25, 115, 96, 129, 79, 220, 34, 42, 144, 136, 70, 238, 184, 20, 222, 94, 11, 219, 224, 50, 58, 10, 73, 6, 36, 92, 194, 211, 172, 98, 145, 149, 228, 121, 231, 200, 55, 109, 141, 213, 78, 169, 108, 86, 244, 234, 101, 122, 174, 8, 186, 120, 37, 46, 28, 166, 180, 198, 232, 221, 116, 31, 75, 189, 139, 138, 112, 62, 181, 102, 72, 3, 246, 14, 97, 53, 87, 185, 134, 193, 29, 158, 225, 248, 152, 17, 105, 217, 142, 148, 155, 30, 135, 233, 206, 85, 40, 223, 140, 161, 137, 13, 191, 230, 66, 104, 65, 153, 45, 15, 176, 84, 187, 22]
def sboxL : List B8 := sboxN.map (BitVec.ofNat 8)
def sb (b : B8) : B8 := BitVec.ofNat 8 (sboxN.getD b.toNat 0)
theorem sboxL_len : sboxL.length = 256 := rfl
theorem sboxL_get (b : B8) : sboxL[b.toNat]? = some (sb b) := by
  have h : b.toNat < sboxN.length := b.isLt
  rw [sboxL, List.getElem?_map, sb, List.getD_eq_getElem?_getD, List.getElem?_eq_getElem h]; rfl
theorem sbox_cell (b : B8) : (bys sboxL)[b.toNat]? = some (b8 (sb b)) := map_get (sboxL_get b)
theorem sb_at (v : AV) (b : B8) : (v :: bys sboxL)[1 + b.toNat]? = some (b8 (sb b)) := by rw [Nat.add_comm]; exact sbox_cell b
/-- A byte doubled. -/
def tw (b : B8) : B8 := if b &&& 128#8 = 0#8 then b <<< 1 else (b <<< 1) ^^^ 27#8
def sq1 (q : B8) : B8 := q ^^^ q <<< 1
def sq2 (q : B8) : B8 := sq1 q ^^^ sq1 q <<< 2
def sq4 (q : B8) : B8 := sq2 q ^^^ sq2 q <<< 4
def sq9 (q : B8) : B8 := if sq4 q &&& 128#8 = 0#8 then sq4 q else sq4 q ^^^ 9#8
def aff (q : B8) : B8 := q ^^^ (q <<< 1 ||| q >>> 7) ^^^ (q <<< 2 ||| q >>> 6) ^^^ (q <<< 3 ||| q >>> 5) ^^^ (q <<< 4 ||| q >>> 4) ^^^ 99#8
def tabRun : Nat → B8 → B8 → List B8 → Option (List B8)
  | 0, _, _, _ => none
  | k + 1, p, q, s =>
    if p ^^^ tw p = 1#8 then some ((s.set (p ^^^ tw p).toNat (aff (sq9 q))).set 0 99#8) else tabRun k (p ^^^ tw p) (sq9 q) (s.set (p ^^^ tw p).toNat (aff (sq9 q)))
theorem tabRun_all : tabRun 255 1#8 1#8 (List.replicate 256 0#8) = some sboxL := by decide +kernel
end Go.Proofs.YtmnlmjlmbceimaaDoor
end
section
/- AES: what the program's functions answer. -/
namespace Go.Proofs.YtmnlmjlmbceimaaDoor
open Go Go.Adm
set_option linter.unusedSimpArgs false
set_option maxRecDepth 100000
theorem ans_twice (b : B8) (m : Mem) : Ans Tryd.prog 27 [b8 b] m fun r m' => r = b8 (tw b) ∧ m' = m := by
  refine ans_ret mixed ok27 ?_
  unfold tw
  by_cases h : b &&& 128#8 = 0#8
  · simp -implicitDefEqProofs only [Go.Adm.admB, Nat.le_refl, List.drop_zero, List.length_replicate, wantedA, evalAll, AX.eval, AFr.get, AFr.set, AFr.put, AFr.cut, frameOf, AK.loud, pMv, pPick, aPick, pNil, pArith, pShift, pCmp, pEq, pEqAgg, pNot, pNeg, pBnot, pConv, pArrPtr, pSlice, pSliceArr, pFieldAddr, pPart, pIdxAddr, pIdxAddrArr, pIdxArr, pIdxStr, pExtract, pLenStr, pLenArr, pMin, pMax, pIface, aArith, aShift, aCmp, aEq, aEqCk, aEqCells, aPart, bounds, bnd, rLoad, mkAlloc, mkBox, mkMake, rMark, mkS2b, w2, aStore, aFill, cellsV, AV.solid, undefA, resAll, resOne, resVal, pendOk, pastOk, cutCons, List.append_assoc, List.length_append, List.set_cons_zero, List.set_cons_succ, List.singleton_append, List.getElem?_cons_zero, List.getElem?_cons_succ, List.getElem?_nil, implies_true, false_implies, true_implies, Int.cast_ofNat_Int, Bool.and_true, Bool.true_and, Bool.false_and, Bool.and_false, Bool.or_true, Bool.or_false, Bool.true_or, Bool.false_or, Option.bind_some, Option.map_some, Option.bind_none, Option.map_none, Option.isSome_some, if_true, if_false, reduceCtorEq, Nat.reduceAdd, Nat.reduceEqDiff, Nat.reduceMod, Nat.reduceLT, Nat.reduceLeDiff, Nat.reduceSub, Nat.reduceMul, Int.reduceAdd, Int.reduceSub, Int.reduceMul, Int.reduceNeg, Int.reduceLT, Int.reduceLE, Int.reduceToNat, Bool.false_eq_true, beq_self_eq_true, ↓reduceIte, List.length_nil, List.length_cons, List.take, List.drop, List.nil_append, List.cons_append, beq_true, beq_false, Bool.not_true, Bool.not_false, Nat.zero_add, Nat.add_zero, Nat.mul_one, and_true, true_and, List.append_nil, decide_true, decide_false, not_true_eq_false, not_false_eq_true, c27, r27, and_vl_u8, beql_u8 (show 0 < 2 ^ 8 by decide), h, shl_u8]
  · have h' : (b &&& 128#8 == 0#8) = false := by simpa using h
    simp -implicitDefEqProofs only [Go.Adm.admB, Nat.le_refl, List.drop_zero, List.length_replicate, wantedA, evalAll, AX.eval, AFr.get, AFr.set, AFr.put, AFr.cut, frameOf, AK.loud, pMv, pPick, aPick, pNil, pArith, pShift, pCmp, pEq, pEqAgg, pNot, pNeg, pBnot, pConv, pArrPtr, pSlice, pSliceArr, pFieldAddr, pPart, pIdxAddr, pIdxAddrArr, pIdxArr, pIdxStr, pExtract, pLenStr, pLenArr, pMin, pMax, pIface, aArith, aShift, aCmp, aEq, aEqCk, aEqCells, aPart, bounds, bnd, rLoad, mkAlloc, mkBox, mkMake, rMark, mkS2b, w2, aStore, aFill, cellsV, AV.solid, undefA, resAll, resOne, resVal, pendOk, pastOk, cutCons, List.append_assoc, List.length_append, List.set_cons_zero, List.set_cons_succ, List.singleton_append, List.getElem?_cons_zero, List.getElem?_cons_succ, List.getElem?_nil, implies_true, false_implies, true_implies, Int.cast_ofNat_Int, Bool.and_true, Bool.true_and, Bool.false_and, Bool.and_false, Bool.or_true, Bool.or_false, Bool.true_or, Bool.false_or, Option.bind_some, Option.map_some, Option.bind_none, Option.map_none, Option.isSome_some, if_true, if_false, reduceCtorEq, Nat.reduceAdd, Nat.reduceEqDiff, Nat.reduceMod, Nat.reduceLT, Nat.reduceLeDiff, Nat.reduceSub, Nat.reduceMul, Int.reduceAdd, Int.reduceSub, Int.reduceMul, Int.reduceNeg, Int.reduceLT, Int.reduceLE, Int.reduceToNat, Bool.false_eq_true, beq_self_eq_true, ↓reduceIte, List.length_nil, List.length_cons, List.take, List.drop, List.nil_append, List.cons_append, beq_true, beq_false, Bool.not_true, Bool.not_false, Nat.zero_add, Nat.add_zero, Nat.mul_one, and_true, true_and, List.append_nil, decide_true, decide_false, not_true_eq_false, not_false_eq_true, c27, r27, and_vl_u8, beql_u8 (show 0 < 2 ^ 8 by decide), h, h', shl_u8, xor_vl_u8]
structure TabS where
  k : Nat
  p : B8
  q : B8
  s : List B8
def tabFr (m : Mem) (z : TabS) : AFr := [(0, .ptr m.length 0), (1, .ptr (m.length + 1) 0), (2, b8 z.p), (3, b8 z.q)]
def tabM (m : Mem) (s : List B8) : Mem := m ++ [.row (bys (List.replicate 256 0#8)) false, .row (bys s) false]
theorem ans_table (m : Mem) : Ans Tryd.prog 26 [] m fun r m' => r = .agg (bys sboxL) ∧ Kept [] m m' := by
  refine ans_ret mixed ok26 ?_
  simp -implicitDefEqProofs only [Go.Adm.admB, Nat.le_refl, List.drop_zero, List.length_replicate, wantedA, evalAll, AX.eval, AFr.get, AFr.set, AFr.put, AFr.cut, frameOf, AK.loud, pMv, pPick, aPick, pNil, pArith, pShift, pCmp, pEq, pEqAgg, pNot, pNeg, pBnot, pConv, pArrPtr, pSlice, pSliceArr, pFieldAddr, pPart, pIdxAddr, pIdxAddrArr, pIdxArr, pIdxStr, pExtract, pLenStr, pLenArr, pMin, pMax, pIface, aArith, aShift, aCmp, aEq, aEqCk, aEqCells, aPart, bounds, bnd, rLoad, mkAlloc, mkBox, mkMake, rMark, mkS2b, w2, aStore, aFill, cellsV, AV.solid, undefA, resAll, resOne, resVal, pendOk, pastOk, cutCons, List.append_assoc, List.length_append, List.set_cons_zero, List.set_cons_succ, List.singleton_append, List.getElem?_cons_zero, List.getElem?_cons_succ, List.getElem?_nil, implies_true, false_implies, true_implies, Int.cast_ofNat_Int, Bool.and_true, Bool.true_and, Bool.false_and, Bool.and_false, Bool.or_true, Bool.or_false, Bool.true_or, Bool.false_or, Option.bind_some, Option.map_some, Option.bind_none, Option.map_none, Option.isSome_some, if_true, if_false, reduceCtorEq, Nat.reduceAdd, Nat.reduceEqDiff, Nat.reduceMod, Nat.reduceLT, Nat.reduceLeDiff, Nat.reduceSub, Nat.reduceMul, Int.reduceAdd, Int.reduceSub, Int.reduceMul, Int.reduceNeg, Int.reduceLT, Int.reduceLE, Int.reduceToNat, Bool.false_eq_true, beq_self_eq_true, ↓reduceIte, List.length_nil, List.length_cons, List.take, List.drop, List.nil_append, List.cons_append, beq_true, beq_false, Bool.not_true, Bool.not_false, Nat.zero_add, Nat.add_zero, Nat.mul_one, and_true, true_and, List.append_nil, decide_true, decide_false, not_true_eq_false, not_false_eq_true, c26, r26]
  rw [bys_rep]
  refine LoopW.on (tabFr m) (fun z => z.k) (fun z m' => tabRun z.k z.p z.q z.s = some sboxL ∧ z.s.length = 256 ∧ m' = tabM m z.s) ?_ ⟨255, 1#8, 1#8, List.replicate 256 0#8⟩ _ _ rfl ⟨tabRun_all, by simp, rfl⟩
  rintro ⟨k, p, q, s⟩ m' X ⟨hr, hl, rfl⟩ hX
  dsimp only at hr hl
  simp only [tabFr, tabM]
  cases k with
  | zero => cases hr
  | succ k =>
  simp -implicitDefEqProofs only [Go.Adm.admB, Nat.le_refl, List.drop_zero, List.length_replicate, wantedA, evalAll, AX.eval, AFr.get, AFr.set, AFr.put, AFr.cut, frameOf, AK.loud, pMv, pPick, aPick, pNil, pArith, pShift, pCmp, pEq, pEqAgg, pNot, pNeg, pBnot, pConv, pArrPtr, pSlice, pSliceArr, pFieldAddr, pPart, pIdxAddr, pIdxAddrArr, pIdxArr, pIdxStr, pExtract, pLenStr, pLenArr, pMin, pMax, pIface, aArith, aShift, aCmp, aEq, aEqCk, aEqCells, aPart, bounds, bnd, rLoad, mkAlloc, mkBox, mkMake, rMark, mkS2b, w2, aStore, aFill, cellsV, AV.solid, undefA, resAll, resOne, resVal, pendOk, pastOk, cutCons, List.append_assoc, List.length_append, List.set_cons_zero, List.set_cons_succ, List.singleton_append, List.getElem?_cons_zero, List.getElem?_cons_succ, List.getElem?_nil, implies_true, false_implies, true_implies, Int.cast_ofNat_Int, Bool.and_true, Bool.true_and, Bool.false_and, Bool.and_false, Bool.or_true, Bool.or_false, Bool.true_or, Bool.false_or, Option.bind_some, Option.map_some, Option.bind_none, Option.map_none, Option.isSome_some, if_true, if_false, reduceCtorEq, Nat.reduceAdd, Nat.reduceEqDiff, Nat.reduceMod, Nat.reduceLT, Nat.reduceLeDiff, Nat.reduceSub, Nat.reduceMul, Int.reduceAdd, Int.reduceSub, Int.reduceMul, Int.reduceNeg, Int.reduceLT, Int.reduceLE, Int.reduceToNat, Bool.false_eq_true, beq_self_eq_true, ↓reduceIte, List.length_nil, List.length_cons, List.take, List.drop, List.nil_append, List.cons_append, beq_true, beq_false, Bool.not_true, Bool.not_false, Nat.zero_add, Nat.add_zero, Nat.mul_one, and_true, true_and, List.append_nil, decide_true, decide_false, not_true_eq_false, not_false_eq_true]
  refine (ans_twice p _).mono ?_
  rintro _ m1 ⟨rfl, rfl⟩
  have hp := in_u8 (p ^^^ tw p)
  have hpl : (p ^^^ tw p).toNat < 256 := (p ^^^ tw p).isLt
  have hle : (p ^^^ tw p).toNat + 1 ≤ 256 := hpl
  have hsp : ∀ x, splice (bys s) (p ^^^ tw p).toNat [b8 x] = bys (s.set (p ^^^ tw p).toNat x) := fun x => splice_map (by omega)
  have hz : ∀ x, splice (bys (s.set (p ^^^ tw p).toNat x)) 0 [b8 99#8] = bys ((s.set (p ^^^ tw p).toNat x).set 0 99#8) := fun x => splice_map (by simp; omega)
  simp -implicitDefEqProofs only [Go.Adm.admB, Nat.le_refl, List.drop_zero, List.length_replicate, wantedA, evalAll, AX.eval, AFr.get, AFr.set, AFr.put, AFr.cut, frameOf, AK.loud, pMv, pPick, aPick, pNil, pArith, pShift, pCmp, pEq, pEqAgg, pNot, pNeg, pBnot, pConv, pArrPtr, pSlice, pSliceArr, pFieldAddr, pPart, pIdxAddr, pIdxAddrArr, pIdxArr, pIdxStr, pExtract, pLenStr, pLenArr, pMin, pMax, pIface, aArith, aShift, aCmp, aEq, aEqCk, aEqCells, aPart, bounds, bnd, rLoad, mkAlloc, mkBox, mkMake, rMark, mkS2b, w2, aStore, aFill, cellsV, AV.solid, undefA, resAll, resOne, resVal, pendOk, pastOk, cutCons, List.append_assoc, List.length_append, List.set_cons_zero, List.set_cons_succ, List.singleton_append, List.getElem?_cons_zero, List.getElem?_cons_succ, List.getElem?_nil, implies_true, false_implies, true_implies, Int.cast_ofNat_Int, Bool.and_true, Bool.true_and, Bool.false_and, Bool.and_false, Bool.or_true, Bool.or_false, Bool.true_or, Bool.false_or, Option.bind_some, Option.map_some, Option.bind_none, Option.map_none, Option.isSome_some, if_true, if_false, reduceCtorEq, Nat.reduceAdd, Nat.reduceEqDiff, Nat.reduceMod, Nat.reduceLT, Nat.reduceLeDiff, Nat.reduceSub, Nat.reduceMul, Int.reduceAdd, Int.reduceSub, Int.reduceMul, Int.reduceNeg, Int.reduceLT, Int.reduceLE, Int.reduceToNat, Bool.false_eq_true, beq_self_eq_true, ↓reduceIte, List.length_nil, List.length_cons, List.take, List.drop, List.nil_append, List.cons_append, beq_true, beq_false, Bool.not_true, Bool.not_false, Nat.zero_add, Nat.add_zero, Nat.mul_one, and_true, true_and, List.append_nil, decide_true, decide_false, not_true_eq_false, not_false_eq_true, xor_vv_u8, xor_vl_u8, or_vv_u8, and_vl_u8, shl_u8, shr_u8, beql_u8 (show 0 < 2 ^ 8 by decide), beql_u8 (show 1 < 2 ^ 8 by decide)]
  have hq : q ^^^ q <<< 1 ^^^ (q ^^^ q <<< 1) <<< 2 ^^^ (q ^^^ q <<< 1 ^^^ (q ^^^ q <<< 1) <<< 2) <<< 4 = sq4 q := rfl
  have fin : ∀ (t : AFr), AFr.cut [0, 1, 2, 3] t = tabFr m ⟨k, p ^^^ tw p, sq9 q, s.set (p ^^^ tw p).toNat (aff (sq9 q))⟩ → p ^^^ tw p ≠ 1#8 → X t (tabM m (s.set (p ^^^ tw p).toNat (aff (sq9 q)))) := by
    intro t ht hne
    rw [tabRun, if_neg hne] at hr
    exact hX ⟨k, _, _, _⟩ _ _ ht (by simp) ⟨hr, by simp [hl], rfl⟩
  have ret : p ^^^ tw p = 1#8 → bys ((s.set (p ^^^ tw p).toNat (aff (sq9 q))).set 0 99#8) = bys sboxL := by
    intro h
    rw [tabRun, if_pos h, Option.some.injEq] at hr
    rw [hr]
  simp only [hq, beq_iff_eq]
  have hl1 : ∀ x, (bys (s.set (p ^^^ tw p).toNat x)).length = 256 := fun x => by simp [hl]
  have hlz : ∀ x, (bys ((s.set (p ^^^ tw p).toNat x).set 0 99#8)).length = 256 := fun x => by simp [hl]
  have htk : ∀ x, List.take 256 (bys ((s.set (p ^^^ tw p).toNat x).set 0 99#8)) = bys ((s.set (p ^^^ tw p).toNat x).set 0 99#8) := fun x => List.take_of_length_le (by simp [hl])
  have hsa : ∀ x, splice (bys (List.replicate 256 0#8)) 0 (bys ((s.set (p ^^^ tw p).toNat x).set 0 99#8)) = bys ((s.set (p ^^^ tw p).toNat x).set 0 99#8) := fun x => splice_all (by simp [hl])
  have haff : ∀ z : B8, z ^^^ (z <<< 1 ||| z >>> 7) ^^^ (z <<< 2 ||| z >>> 6) ^^^ (z <<< 3 ||| z >>> 5) ^^^ (z <<< 4 ||| z >>> 4) ^^^ 99#8 = aff z := fun _ => rfl
  have hz0 : ∀ x, splice (bys (s.set (p ^^^ tw p).toNat x)) 0 [.int .u8 99] = bys ((s.set (p ^^^ tw p).toNat x).set 0 99#8) := hz
  by_cases h : sq4 q &&& 128#8 = 0#8
  · have e9 : sq4 q = sq9 q := by rw [sq9, if_pos h]
    simp only [h, beq_self_eq_true, Bool.not_true]
    cases h1 : p ^^^ tw p == 1#8
    · simp -implicitDefEqProofs only [Go.Adm.admB, Nat.le_refl, List.drop_zero, List.length_replicate, wantedA, evalAll, AX.eval, AFr.get, AFr.set, AFr.put, AFr.cut, frameOf, AK.loud, pMv, pPick, aPick, pNil, pArith, pShift, pCmp, pEq, pEqAgg, pNot, pNeg, pBnot, pConv, pArrPtr, pSlice, pSliceArr, pFieldAddr, pPart, pIdxAddr, pIdxAddrArr, pIdxArr, pIdxStr, pExtract, pLenStr, pLenArr, pMin, pMax, pIface, aArith, aShift, aCmp, aEq, aEqCk, aEqCells, aPart, bounds, bnd, rLoad, mkAlloc, mkBox, mkMake, rMark, mkS2b, w2, aStore, aFill, cellsV, AV.solid, undefA, resAll, resOne, resVal, pendOk, pastOk, cutCons, List.append_assoc, List.length_append, List.set_cons_zero, List.set_cons_succ, List.singleton_append, List.getElem?_cons_zero, List.getElem?_cons_succ, List.getElem?_nil, implies_true, false_implies, true_implies, Int.cast_ofNat_Int, Bool.and_true, Bool.true_and, Bool.false_and, Bool.and_false, Bool.or_true, Bool.or_false, Bool.true_or, Bool.false_or, Option.bind_some, Option.map_some, Option.bind_none, Option.map_none, Option.isSome_some, if_true, if_false, reduceCtorEq, Nat.reduceAdd, Nat.reduceEqDiff, Nat.reduceMod, Nat.reduceLT, Nat.reduceLeDiff, Nat.reduceSub, Nat.reduceMul, Int.reduceAdd, Int.reduceSub, Int.reduceMul, Int.reduceNeg, Int.reduceLT, Int.reduceLE, Int.reduceToNat, Bool.false_eq_true, beq_self_eq_true, ↓reduceIte, List.length_nil, List.length_cons, List.take, List.drop, List.nil_append, List.cons_append, beq_true, beq_false, Bool.not_true, Bool.not_false, Nat.zero_add, Nat.add_zero, Nat.mul_one, and_true, true_and, List.append_nil, decide_true, decide_false, not_true_eq_false, not_false_eq_true, h, hp, h1, Int.toNat_natCast, hl, hle, hsp, e9, bys_len, List.length_replicate, shl_u8, shr_u8, or_vv_u8, xor_vv_u8, xor_vl_u8, beql_u8 (show 1 < 2 ^ 8 by decide), haff]
      exact fin _ rfl (by simpa using h1)
    · simp -implicitDefEqProofs only [Go.Adm.admB, Nat.le_refl, List.drop_zero, List.length_replicate, wantedA, evalAll, AX.eval, AFr.get, AFr.set, AFr.put, AFr.cut, frameOf, AK.loud, pMv, pPick, aPick, pNil, pArith, pShift, pCmp, pEq, pEqAgg, pNot, pNeg, pBnot, pConv, pArrPtr, pSlice, pSliceArr, pFieldAddr, pPart, pIdxAddr, pIdxAddrArr, pIdxArr, pIdxStr, pExtract, pLenStr, pLenArr, pMin, pMax, pIface, aArith, aShift, aCmp, aEq, aEqCk, aEqCells, aPart, bounds, bnd, rLoad, mkAlloc, mkBox, mkMake, rMark, mkS2b, w2, aStore, aFill, cellsV, AV.solid, undefA, resAll, resOne, resVal, pendOk, pastOk, cutCons, List.append_assoc, List.length_append, List.set_cons_zero, List.set_cons_succ, List.singleton_append, List.getElem?_cons_zero, List.getElem?_cons_succ, List.getElem?_nil, implies_true, false_implies, true_implies, Int.cast_ofNat_Int, Bool.and_true, Bool.true_and, Bool.false_and, Bool.and_false, Bool.or_true, Bool.or_false, Bool.true_or, Bool.false_or, Option.bind_some, Option.map_some, Option.bind_none, Option.map_none, Option.isSome_some, if_true, if_false, reduceCtorEq, Nat.reduceAdd, Nat.reduceEqDiff, Nat.reduceMod, Nat.reduceLT, Nat.reduceLeDiff, Nat.reduceSub, Nat.reduceMul, Int.reduceAdd, Int.reduceSub, Int.reduceMul, Int.reduceNeg, Int.reduceLT, Int.reduceLE, Int.reduceToNat, Bool.false_eq_true, beq_self_eq_true, ↓reduceIte, List.length_nil, List.length_cons, List.take, List.drop, List.nil_append, List.cons_append, beq_true, beq_false, Bool.not_true, Bool.not_false, Nat.zero_add, Nat.add_zero, Nat.mul_one, and_true, true_and, List.append_nil, decide_true, decide_false, not_true_eq_false, not_false_eq_true, h, hp, h1, Int.toNat_natCast, hl, hle, hsp, e9, bys_len, List.length_replicate, shl_u8, shr_u8, or_vv_u8, xor_vv_u8, xor_vl_u8, beql_u8 (show 1 < 2 ^ 8 by decide), haff, hl1, hlz, htk, hsa, hz0, List.drop_zero, Nat.le_refl]
      exact ⟨by rw [ret (by simpa using h1)], .app _ _ _⟩
  · have e9 : sq4 q ^^^ 9#8 = sq9 q := by rw [sq9, if_neg h]
    have h' : (sq4 q &&& 128#8 == 0#8) = false := by simpa using h
    cases h1 : p ^^^ tw p == 1#8
    · simp -implicitDefEqProofs only [Go.Adm.admB, Nat.le_refl, List.drop_zero, List.length_replicate, wantedA, evalAll, AX.eval, AFr.get, AFr.set, AFr.put, AFr.cut, frameOf, AK.loud, pMv, pPick, aPick, pNil, pArith, pShift, pCmp, pEq, pEqAgg, pNot, pNeg, pBnot, pConv, pArrPtr, pSlice, pSliceArr, pFieldAddr, pPart, pIdxAddr, pIdxAddrArr, pIdxArr, pIdxStr, pExtract, pLenStr, pLenArr, pMin, pMax, pIface, aArith, aShift, aCmp, aEq, aEqCk, aEqCells, aPart, bounds, bnd, rLoad, mkAlloc, mkBox, mkMake, rMark, mkS2b, w2, aStore, aFill, cellsV, AV.solid, undefA, resAll, resOne, resVal, pendOk, pastOk, cutCons, List.append_assoc, List.length_append, List.set_cons_zero, List.set_cons_succ, List.singleton_append, List.getElem?_cons_zero, List.getElem?_cons_succ, List.getElem?_nil, implies_true, false_implies, true_implies, Int.cast_ofNat_Int, Bool.and_true, Bool.true_and, Bool.false_and, Bool.and_false, Bool.or_true, Bool.or_false, Bool.true_or, Bool.false_or, Option.bind_some, Option.map_some, Option.bind_none, Option.map_none, Option.isSome_some, if_true, if_false, reduceCtorEq, Nat.reduceAdd, Nat.reduceEqDiff, Nat.reduceMod, Nat.reduceLT, Nat.reduceLeDiff, Nat.reduceSub, Nat.reduceMul, Int.reduceAdd, Int.reduceSub, Int.reduceMul, Int.reduceNeg, Int.reduceLT, Int.reduceLE, Int.reduceToNat, Bool.false_eq_true, beq_self_eq_true, ↓reduceIte, List.length_nil, List.length_cons, List.take, List.drop, List.nil_append, List.cons_append, beq_true, beq_false, Bool.not_true, Bool.not_false, Nat.zero_add, Nat.add_zero, Nat.mul_one, and_true, true_and, List.append_nil, decide_true, decide_false, not_true_eq_false, not_false_eq_true, h, h', hp, h1, Int.toNat_natCast, hl, hle, hsp, e9, bys_len, List.length_replicate, shl_u8, shr_u8, or_vv_u8, xor_vv_u8, xor_vl_u8, beql_u8 (show 1 < 2 ^ 8 by decide), haff]
      exact fin _ rfl (by simpa using h1)
    · simp -implicitDefEqProofs only [Go.Adm.admB, Nat.le_refl, List.drop_zero, List.length_replicate, wantedA, evalAll, AX.eval, AFr.get, AFr.set, AFr.put, AFr.cut, frameOf, AK.loud, pMv, pPick, aPick, pNil, pArith, pShift, pCmp, pEq, pEqAgg, pNot, pNeg, pBnot, pConv, pArrPtr, pSlice, pSliceArr, pFieldAddr, pPart, pIdxAddr, pIdxAddrArr, pIdxArr, pIdxStr, pExtract, pLenStr, pLenArr, pMin, pMax, pIface, aArith, aShift, aCmp, aEq, aEqCk, aEqCells, aPart, bounds, bnd, rLoad, mkAlloc, mkBox, mkMake, rMark, mkS2b, w2, aStore, aFill, cellsV, AV.solid, undefA, resAll, resOne, resVal, pendOk, pastOk, cutCons, List.append_assoc, List.length_append, List.set_cons_zero, List.set_cons_succ, List.singleton_append, List.getElem?_cons_zero, List.getElem?_cons_succ, List.getElem?_nil, implies_true, false_implies, true_implies, Int.cast_ofNat_Int, Bool.and_true, Bool.true_and, Bool.false_and, Bool.and_false, Bool.or_true, Bool.or_false, Bool.true_or, Bool.false_or, Option.bind_some, Option.map_some, Option.bind_none, Option.map_none, Option.isSome_some, if_true, if_false, reduceCtorEq, Nat.reduceAdd, Nat.reduceEqDiff, Nat.reduceMod, Nat.reduceLT, Nat.reduceLeDiff, Nat.reduceSub, Nat.reduceMul, Int.reduceAdd, Int.reduceSub, Int.reduceMul, Int.reduceNeg, Int.reduceLT, Int.reduceLE, Int.reduceToNat, Bool.false_eq_true, beq_self_eq_true, ↓reduceIte, List.length_nil, List.length_cons, List.take, List.drop, List.nil_append, List.cons_append, beq_true, beq_false, Bool.not_true, Bool.not_false, Nat.zero_add, Nat.add_zero, Nat.mul_one, and_true, true_and, List.append_nil, decide_true, decide_false, not_true_eq_false, not_false_eq_true, h, h', hp, h1, Int.toNat_natCast, hl, hle, hsp, e9, bys_len, List.length_replicate, shl_u8, shr_u8, or_vv_u8, xor_vv_u8, xor_vl_u8, beql_u8 (show 1 < 2 ^ 8 by decide), haff, hl1, hlz, htk, hsa, hz0, List.drop_zero, Nat.le_refl]
      exact ⟨by rw [ret (by simpa using h1)], .app _ _ _⟩
def ovr (a b : List B8) : List B8 := tab 16 fun j => gb a j ^^^ gb b j
theorem ovr_len (a b : List B8) : (ovr a b).length = 16 := tab_len _ _
theorem ans_ovr (a b : List B8) (ha : a.length = 16) (hb : b.length = 16) (m : Mem) : Ans Tryd.prog 67 [.agg (bys a), .agg (bys b)] m fun r m' => r = .agg (bys (ovr a b)) ∧ Kept [] m m' := by
  refine ans_ret mixed ok67 ?_
  simp -implicitDefEqProofs only [Go.Adm.admB, Nat.le_refl, List.drop_zero, List.length_replicate, wantedA, evalAll, AX.eval, AFr.get, AFr.set, AFr.put, AFr.cut, frameOf, AK.loud, pMv, pPick, aPick, pNil, pArith, pShift, pCmp, pEq, pEqAgg, pNot, pNeg, pBnot, pConv, pArrPtr, pSlice, pSliceArr, pFieldAddr, pPart, pIdxAddr, pIdxAddrArr, pIdxArr, pIdxStr, pExtract, pLenStr, pLenArr, pMin, pMax, pIface, aArith, aShift, aCmp, aEq, aEqCk, aEqCells, aPart, bounds, bnd, rLoad, mkAlloc, mkBox, mkMake, rMark, mkS2b, w2, aStore, aFill, cellsV, AV.solid, undefA, resAll, resOne, resVal, pendOk, pastOk, cutCons, List.append_assoc, List.length_append, List.set_cons_zero, List.set_cons_succ, List.singleton_append, List.getElem?_cons_zero, List.getElem?_cons_succ, List.getElem?_nil, implies_true, false_implies, true_implies, Int.cast_ofNat_Int, Bool.and_true, Bool.true_and, Bool.false_and, Bool.and_false, Bool.or_true, Bool.or_false, Bool.true_or, Bool.false_or, Option.bind_some, Option.map_some, Option.bind_none, Option.map_none, Option.isSome_some, if_true, if_false, reduceCtorEq, Nat.reduceAdd, Nat.reduceEqDiff, Nat.reduceMod, Nat.reduceLT, Nat.reduceLeDiff, Nat.reduceSub, Nat.reduceMul, Int.reduceAdd, Int.reduceSub, Int.reduceMul, Int.reduceNeg, Int.reduceLT, Int.reduceLE, Int.reduceToNat, Bool.false_eq_true, beq_self_eq_true, ↓reduceIte, List.length_nil, List.length_cons, List.take, List.drop, List.nil_append, List.cons_append, beq_true, beq_false, Bool.not_true, Bool.not_false, Nat.zero_add, Nat.add_zero, Nat.mul_one, and_true, true_and, List.append_nil, decide_true, decide_false, not_true_eq_false, not_false_eq_true, c67, r67]
  rw [bys_rep]
  refine LoopW.on (fun i : Nat => [(2, .ptr m.length 0), (3, .ptr (m.length + 1) 0), (4, .ptr (m.length + 1 + 1) 0), (6, .int .i64 i)]) (fun i => 16 - i) (fun i m' => i ≤ 16 ∧ m' = m ++ [.row (bys (upTo 16 (fun j => gb a j ^^^ gb b j) (gb a) i)) false, .row (bys b) false, .row (bys (List.replicate 16 0#8)) false]) ?_ 0 _ _ rfl ⟨by omega, by rw [upTo_zero, tab_gb ha]⟩
  rintro i m' X ⟨hi, rfl⟩ hX
  by_cases h : (i : Int) < 16
  · have h1 : (0 : Int) ≤ (i : Int) ∧ (i : Int) < 16 := ⟨by omega, h⟩
    have hi' : i < 16 := by omega
    have g1 : (bys (upTo 16 (fun j => gb a j ^^^ gb b j) (gb a) i))[i]? = some (b8 (gb a i)) := upTo_map_get hi'
    have g2 := bys_get hb hi'
    have g3 : splice (bys (upTo 16 (fun j => gb a j ^^^ gb b j) (gb a) i)) i [b8 (gb a i ^^^ gb b i)] = _ := splice_upTo (c := b8) (f := fun j => gb a j ^^^ gb b j) hi'
    have g4 : i + 1 ≤ 16 := hi'
    have g5 : IntKind.i64.wrap ((i : Int) + 1) = _ := wrap_succ (by omega)
    simp -implicitDefEqProofs only [Go.Adm.admB, Nat.le_refl, List.drop_zero, List.length_replicate, wantedA, evalAll, AX.eval, AFr.get, AFr.set, AFr.put, AFr.cut, frameOf, AK.loud, pMv, pPick, aPick, pNil, pArith, pShift, pCmp, pEq, pEqAgg, pNot, pNeg, pBnot, pConv, pArrPtr, pSlice, pSliceArr, pFieldAddr, pPart, pIdxAddr, pIdxAddrArr, pIdxArr, pIdxStr, pExtract, pLenStr, pLenArr, pMin, pMax, pIface, aArith, aShift, aCmp, aEq, aEqCk, aEqCells, aPart, bounds, bnd, rLoad, mkAlloc, mkBox, mkMake, rMark, mkS2b, w2, aStore, aFill, cellsV, AV.solid, undefA, resAll, resOne, resVal, pendOk, pastOk, cutCons, List.append_assoc, List.length_append, List.set_cons_zero, List.set_cons_succ, List.singleton_append, List.getElem?_cons_zero, List.getElem?_cons_succ, List.getElem?_nil, implies_true, false_implies, true_implies, Int.cast_ofNat_Int, Bool.and_true, Bool.true_and, Bool.false_and, Bool.and_false, Bool.or_true, Bool.or_false, Bool.true_or, Bool.false_or, Option.bind_some, Option.map_some, Option.bind_none, Option.map_none, Option.isSome_some, if_true, if_false, reduceCtorEq, Nat.reduceAdd, Nat.reduceEqDiff, Nat.reduceMod, Nat.reduceLT, Nat.reduceLeDiff, Nat.reduceSub, Nat.reduceMul, Int.reduceAdd, Int.reduceSub, Int.reduceMul, Int.reduceNeg, Int.reduceLT, Int.reduceLE, Int.reduceToNat, Bool.false_eq_true, beq_self_eq_true, ↓reduceIte, List.length_nil, List.length_cons, List.take, List.drop, List.nil_append, List.cons_append, beq_true, beq_false, Bool.not_true, Bool.not_false, Nat.zero_add, Nat.add_zero, Nat.mul_one, and_true, true_and, List.append_nil, decide_true, decide_false, not_true_eq_false, not_false_eq_true, h, h1, g1, g2, g3, g4, g5, Int.toNat_natCast, xor_vv_u8, List.length_map, upTo_len]
    exact hX (i + 1) _ _ rfl (by omega) ⟨by omega, rfl⟩
  · obtain rfl : i = 16 := by omega
    have g1 : List.take 16 (bys (upTo 16 (fun j => gb a j ^^^ gb b j) (gb a) 16)) = bys (ovr a b) := by rw [upTo_all, List.take_of_length_le (by simp [tab_len])]; rfl
    have g2 : splice (bys (List.replicate 16 0#8)) 0 (bys (ovr a b)) = bys (ovr a b) := splice_all (by simp [ovr_len])
    have g3 : List.take 16 (bys (ovr a b)) = bys (ovr a b) := List.take_of_length_le (by simp [ovr_len])
    simp -implicitDefEqProofs only [Go.Adm.admB, Nat.le_refl, List.drop_zero, List.length_replicate, wantedA, evalAll, AX.eval, AFr.get, AFr.set, AFr.put, AFr.cut, frameOf, AK.loud, pMv, pPick, aPick, pNil, pArith, pShift, pCmp, pEq, pEqAgg, pNot, pNeg, pBnot, pConv, pArrPtr, pSlice, pSliceArr, pFieldAddr, pPart, pIdxAddr, pIdxAddrArr, pIdxArr, pIdxStr, pExtract, pLenStr, pLenArr, pMin, pMax, pIface, aArith, aShift, aCmp, aEq, aEqCk, aEqCells, aPart, bounds, bnd, rLoad, mkAlloc, mkBox, mkMake, rMark, mkS2b, w2, aStore, aFill, cellsV, AV.solid, undefA, resAll, resOne, resVal, pendOk, pastOk, cutCons, List.append_assoc, List.length_append, List.set_cons_zero, List.set_cons_succ, List.singleton_append, List.getElem?_cons_zero, List.getElem?_cons_succ, List.getElem?_nil, implies_true, false_implies, true_implies, Int.cast_ofNat_Int, Bool.and_true, Bool.true_and, Bool.false_and, Bool.and_false, Bool.or_true, Bool.or_false, Bool.true_or, Bool.false_or, Option.bind_some, Option.map_some, Option.bind_none, Option.map_none, Option.isSome_some, if_true, if_false, reduceCtorEq, Nat.reduceAdd, Nat.reduceEqDiff, Nat.reduceMod, Nat.reduceLT, Nat.reduceLeDiff, Nat.reduceSub, Nat.reduceMul, Int.reduceAdd, Int.reduceSub, Int.reduceMul, Int.reduceNeg, Int.reduceLT, Int.reduceLE, Int.reduceToNat, Bool.false_eq_true, beq_self_eq_true, ↓reduceIte, List.length_nil, List.length_cons, List.take, List.drop, List.nil_append, List.cons_append, beq_true, beq_false, Bool.not_true, Bool.not_false, Nat.zero_add, Nat.add_zero, Nat.mul_one, and_true, true_and, List.append_nil, decide_true, decide_false, not_true_eq_false, not_false_eq_true, List.length_map, upTo_len, ovr_len, g1, g2, g3, Nat.le_refl, List.drop_zero, List.length_replicate]
    exact .app _ _ _
def mixC (s : List B8) (j : Nat) : B8 :=
  gb s j ^^^ (gb s (4 * (j / 4)) ^^^ gb s (4 * (j / 4) + 1) ^^^ gb s (4 * (j / 4) + 2) ^^^ gb s (4 * (j / 4) + 3)) ^^^ tw (gb s j ^^^ gb s (4 * (j / 4) + (j % 4 + 1) % 4))
def mixB (s : List B8) : List B8 := tab 16 (mixC s)
theorem mixB_len (s : List B8) : (mixB s).length = 16 := tab_len _ _
def mixM (m : Mem) (s : List B8) (j : Nat) : Mem := m ++ [.row (bys s) false, .row (bys (List.replicate 16 0#8)) false, .row (bys (upTo 16 (mixC s) (fun _ => 0#8) j)) false]
theorem ans_mix (s : List B8) (hs : s.length = 16) (m : Mem) : Ans Tryd.prog 68 [.agg (bys s)] m fun r m' => r = .agg (bys (mixB s)) ∧ Kept [] m m' := by
  refine ans_ret mixed ok68 ?_
  simp -implicitDefEqProofs only [Go.Adm.admB, Nat.le_refl, List.drop_zero, List.length_replicate, wantedA, evalAll, AX.eval, AFr.get, AFr.set, AFr.put, AFr.cut, frameOf, AK.loud, pMv, pPick, aPick, pNil, pArith, pShift, pCmp, pEq, pEqAgg, pNot, pNeg, pBnot, pConv, pArrPtr, pSlice, pSliceArr, pFieldAddr, pPart, pIdxAddr, pIdxAddrArr, pIdxArr, pIdxStr, pExtract, pLenStr, pLenArr, pMin, pMax, pIface, aArith, aShift, aCmp, aEq, aEqCk, aEqCells, aPart, bounds, bnd, rLoad, mkAlloc, mkBox, mkMake, rMark, mkS2b, w2, aStore, aFill, cellsV, AV.solid, undefA, resAll, resOne, resVal, pendOk, pastOk, cutCons, List.append_assoc, List.length_append, List.set_cons_zero, List.set_cons_succ, List.singleton_append, List.getElem?_cons_zero, List.getElem?_cons_succ, List.getElem?_nil, implies_true, false_implies, true_implies, Int.cast_ofNat_Int, Bool.and_true, Bool.true_and, Bool.false_and, Bool.and_false, Bool.or_true, Bool.or_false, Bool.true_or, Bool.false_or, Option.bind_some, Option.map_some, Option.bind_none, Option.map_none, Option.isSome_some, if_true, if_false, reduceCtorEq, Nat.reduceAdd, Nat.reduceEqDiff, Nat.reduceMod, Nat.reduceLT, Nat.reduceLeDiff, Nat.reduceSub, Nat.reduceMul, Int.reduceAdd, Int.reduceSub, Int.reduceMul, Int.reduceNeg, Int.reduceLT, Int.reduceLE, Int.reduceToNat, Bool.false_eq_true, beq_self_eq_true, ↓reduceIte, List.length_nil, List.length_cons, List.take, List.drop, List.nil_append, List.cons_append, beq_true, beq_false, Bool.not_true, Bool.not_false, Nat.zero_add, Nat.add_zero, Nat.mul_one, and_true, true_and, List.append_nil, decide_true, decide_false, not_true_eq_false, not_false_eq_true, c68, r68]
  rw [bys_rep]
  refine LoopW.on (fun q : Nat => [(1, .ptr m.length 0), (2, .ptr (m.length + 1) 0), (3, .ptr (m.length + 1 + 1) 0), (4, .int .i64 ((4 * q : Nat) : Int))]) (fun q => 4 - q) (fun q m' => q ≤ 4 ∧ m' = mixM m s (4 * q)) ?_ 0 _ _ rfl ⟨by omega, by rw [mixM, Nat.mul_zero, upTo_zero, tab_const]⟩
  rintro q m' X ⟨hq, rfl⟩ hX
  simp only [mixM]
  by_cases h : q < 4
  · simp -implicitDefEqProofs (disch := (first | omega | (simp only [lenB, ovr_len, mixB_len] <;> omega) | fail)) only [admQ, lenB, ovr_len, mixB_len, aFill, AK.cls, implies_true, ↓reduceIte, reduceCtorEq, if_true, if_false, Nat.reduceAdd, Nat.reduceEqDiff, Nat.reduceMod, Nat.reduceLT, Nat.reduceLeDiff, Nat.reduceSub, Nat.reduceMul, Nat.reduceBEq, Int.reduceAdd, Int.reduceSub, Int.reduceMul, Int.reduceNeg, Int.reduceLT, Int.reduceLE, Int.reduceToNat, Int.reduceEq, Int.reduceBEq]
    refine LoopW.on (fun i : Nat => [(1, .ptr m.length 0), (2, .ptr (m.length + 1) 0), (3, .ptr (m.length + 1 + 1) 0), (4, .int .i64 ((4 * q : Nat) : Int)), (5, b8 (gb s (4 * q) ^^^ gb s (4 * q + 1) ^^^ gb s (4 * q + 2) ^^^ gb s (4 * q + 3))), (29, .int .i64 i)]) (fun i => 4 - i) (fun i m' => i ≤ 4 ∧ m' = mixM m s (4 * q + i)) ?_ 0 _ _ rfl ⟨by omega, rfl⟩
    rintro i m' X2 ⟨hi, rfl⟩ hX2
    simp only [mixM]
    by_cases h2 : i < 4
    · have g3 : (upTo 16 (mixC s) (fun _ => 0#8) (4 * q + i)).set (4 * q + i) (mixC s (4 * q + i)) = _ := upTo_set
      have g4 : mixC s (4 * q + i) = gb s (4 * q + i) ^^^ (gb s (4 * q) ^^^ gb s (4 * q + 1) ^^^ gb s (4 * q + 2) ^^^ gb s (4 * q + 3)) ^^^ tw (gb s (4 * q + i) ^^^ gb s (4 * q + (i + 1) % 4)) := by
        rw [mixC, show 4 * ((4 * q + i) / 4) = 4 * q by omega, show (4 * q + i) % 4 = i by omega]
      rw [g4] at g3
      simp -implicitDefEqProofs (disch := (first | omega | (simp only [lenB, ovr_len, mixB_len] <;> omega) | fail)) only [admQ, lenB, ovr_len, mixB_len, aFill, AK.cls, implies_true, ↓reduceIte, reduceCtorEq, if_true, if_false, Nat.reduceAdd, Nat.reduceEqDiff, Nat.reduceMod, Nat.reduceLT, Nat.reduceLeDiff, Nat.reduceSub, Nat.reduceMul, Nat.reduceBEq, Int.reduceAdd, Int.reduceSub, Int.reduceMul, Int.reduceNeg, Int.reduceLT, Int.reduceLE, Int.reduceToNat, Int.reduceEq, Int.reduceBEq]
      refine (ans_twice _ _).mono ?_
      rintro _ m1 ⟨rfl, rfl⟩
      simp -implicitDefEqProofs (disch := (first | omega | (simp only [lenB, ovr_len, mixB_len] <;> omega) | fail)) only [admQ, lenB, ovr_len, mixB_len, aFill, AK.cls, implies_true, ↓reduceIte, reduceCtorEq, if_true, if_false, Nat.reduceAdd, Nat.reduceEqDiff, Nat.reduceMod, Nat.reduceLT, Nat.reduceLeDiff, Nat.reduceSub, Nat.reduceMul, Nat.reduceBEq, Int.reduceAdd, Int.reduceSub, Int.reduceMul, Int.reduceNeg, Int.reduceLT, Int.reduceLE, Int.reduceToNat, Int.reduceEq, Int.reduceBEq, splice_byte, g3]
      exact hX2 (i + 1) _ _ rfl (by omega) ⟨by omega, by rw [mixM, Nat.add_assoc]⟩
    · obtain rfl : i = 4 := by omega
      simp -implicitDefEqProofs (disch := (first | omega | (simp only [lenB, ovr_len, mixB_len] <;> omega) | fail)) only [admQ, lenB, ovr_len, mixB_len, aFill, AK.cls, implies_true, ↓reduceIte, reduceCtorEq, if_true, if_false, Nat.reduceAdd, Nat.reduceEqDiff, Nat.reduceMod, Nat.reduceLT, Nat.reduceLeDiff, Nat.reduceSub, Nat.reduceMul, Nat.reduceBEq, Int.reduceAdd, Int.reduceSub, Int.reduceMul, Int.reduceNeg, Int.reduceLT, Int.reduceLE, Int.reduceToNat, Int.reduceEq, Int.reduceBEq]
      exact hX (q + 1) _ _ rfl (by omega) ⟨by omega, rfl⟩
  · obtain rfl : q = 4 := by omega
    have g1 : upTo 16 (mixC s) (fun _ => 0#8) (4 * 4) = mixB s := upTo_all _ _ _
    have g2 := mixB_len s
    simp -implicitDefEqProofs (disch := (first | omega | (simp only [lenB, ovr_len, mixB_len] <;> omega) | fail)) only [admQ, lenB, ovr_len, mixB_len, aFill, AK.cls, implies_true, ↓reduceIte, reduceCtorEq, if_true, if_false, Nat.reduceAdd, Nat.reduceEqDiff, Nat.reduceMod, Nat.reduceLT, Nat.reduceLeDiff, Nat.reduceSub, Nat.reduceMul, Nat.reduceBEq, Int.reduceAdd, Int.reduceSub, Int.reduceMul, Int.reduceNeg, Int.reduceLT, Int.reduceLE, Int.reduceToNat, Int.reduceEq, Int.reduceBEq, g1]
    exact .app _ _ _
end Go.Proofs.YtmnlmjlmbceimaaDoor
end
section
/- AES: a block turned by the program. -/
namespace Go.Proofs.YtmnlmjlmbceimaaDoor
open Go Go.Adm
set_option linter.unusedSimpArgs false
set_option maxRecDepth 100000
def subs (s : List B8) : List B8 := tab 16 fun i => sb (gb s ((i + 4 * (i % 4)) % 16))
theorem subs_len (s : List B8) : (subs s).length = 16 := tab_len _ _
def keyAt (ks : List B8) (r : Nat) : List B8 := (ks.drop (r * 16)).take 16
def roundB (ks : List B8) (n r : Nat) (s : List B8) : List B8 := ovr (if r + 2 < n then mixB (subs s) else subs s) (keyAt ks (r + 1))
def runB (ks : List B8) (n : Nat) (s : List B8) : Nat → List B8
  | 0 => ovr s (keyAt ks 0)
  | r + 1 => roundB ks n r (runB ks n s r)
def blockB (ks : List B8) (n : Nat) (s : List B8) : List B8 := runB ks n s (n - 1)
theorem runB_len (ks : List B8) (n : Nat) (s : List B8) (r : Nat) : (runB ks n s r).length = 16 := by cases r <;> exact ovr_len _ _
theorem keyAt_len {ks : List B8} {n r : Nat} (h : ks.length = n * 16) (hr : r < n) : (keyAt ks r).length = 16 := by
  simp only [keyAt, List.length_take, List.length_drop]; omega
theorem keyAt_bys (ks : List B8) (r : Nat) : List.take 16 (List.drop (r * 16) (bys ks)) = bys (keyAt ks r) := by
  simp [keyAt, List.map_take, List.map_drop]
/-- A cipher: its keys, the table. -/
structure Ciph (m : Mem) (c kb n : Nat) (ks : List B8) : Prop where
  hd : rowOf m c = some (.sl kb 0 n n 16 :: bys sboxL)
  keys : rowOf m kb = some (bys ks)
  len : ks.length = n * 16
  pos : 2 ≤ n ∧ n ≤ 100
theorem Ciph.kept {X : List Nat} {m m' : Mem} {c kb n : Nat} {ks : List B8} (h : Ciph m c kb n ks) (hk : Kept X m m') (h1 : c ∉ X) (h2 : kb ∉ X) : Ciph m' c kb n ks :=
  ⟨hk.row h.hd h1, hk.row h.keys h2, h.len, h.pos⟩
theorem Ciph.app {m : Mem} {c kb n : Nat} {ks : List B8} (h : Ciph m c kb n ks) (e : Mem) : Ciph (m ++ e) c kb n ks := h.kept (.app [] _ _) (by simp) (by simp)
theorem ans_block {m : Mem} {c kb n : Nat} {ks : List B8} (hc : Ciph m c kb n ks) (b : List B8) (hb : b.length = 16) : Ans Tryd.prog 66 [.ptr c 0, .agg (bys b)] m fun r m' => r = .agg (bys (blockB ks n b)) ∧ Kept [] m m' := by
  refine ans_ret mixed ok66 ?_
  have h1 := fun e => (hc.app e).hd
  have h2 := fun e => (hc.app e).keys
  have h3 := hc.len
  have h4 := hc.pos
  have h5 := keyAt_bys ks 0
  simp only [Nat.zero_mul, List.drop_zero] at h5
  simp -implicitDefEqProofs (disch := (first | omega | (simp only [lenB, ovr_len, mixB_len, subs_len, runB_len] <;> omega) | fail)) only [admQ, lenB, ovr_len, mixB_len, subs_len, runB_len, aFill, AK.cls, implies_true, ↓reduceIte, reduceCtorEq, if_true, if_false, Nat.reduceAdd, Nat.reduceEqDiff, Nat.reduceMod, Nat.reduceLT, Nat.reduceLeDiff, Nat.reduceSub, Nat.reduceMul, Nat.reduceBEq, Int.reduceAdd, Int.reduceSub, Int.reduceMul, Int.reduceNeg, Int.reduceLT, Int.reduceLE, Int.reduceToNat, Int.reduceEq, Int.reduceBEq, c66, r66, h1, h2, h5]
  refine (ans_ovr _ _ hb (keyAt_len h3 (by omega)) _).mono ?_
  rintro _ m1 ⟨rfl, hk⟩
  obtain ⟨e1, rfl⟩ := hk.grow
  simp -implicitDefEqProofs (disch := (first | omega | (simp only [lenB, ovr_len, mixB_len, subs_len, runB_len] <;> omega) | fail)) only [admQ, lenB, ovr_len, mixB_len, subs_len, runB_len, aFill, AK.cls, implies_true, ↓reduceIte, reduceCtorEq, if_true, if_false, Nat.reduceAdd, Nat.reduceEqDiff, Nat.reduceMod, Nat.reduceLT, Nat.reduceLeDiff, Nat.reduceSub, Nat.reduceMul, Nat.reduceBEq, Int.reduceAdd, Int.reduceSub, Int.reduceMul, Int.reduceNeg, Int.reduceLT, Int.reduceLE, Int.reduceToNat, Int.reduceEq, Int.reduceBEq, h1, h2, h5]
  generalize hM : m ++ Blk.row (bys b) false :: Blk.row _ false :: (e1 ++ [Blk.row (bys (ovr b (keyAt ks 0))) false]) = M
  generalize h5p : m.length + (e1.length + 1 + 1) = p5
  have o4 : own M (m.length + 1) = some (bys (List.replicate 16 0#8)) := by subst hM; simp -implicitDefEqProofs (disch := (first | omega | (simp only [lenB, ovr_len, mixB_len, subs_len, runB_len] <;> omega) | fail)) only [admQ, lenB, ovr_len, mixB_len, subs_len, runB_len, aFill, AK.cls, implies_true, ↓reduceIte, reduceCtorEq, if_true, if_false, Nat.reduceAdd, Nat.reduceEqDiff, Nat.reduceMod, Nat.reduceLT, Nat.reduceLeDiff, Nat.reduceSub, Nat.reduceMul, Nat.reduceBEq, Int.reduceAdd, Int.reduceSub, Int.reduceMul, Int.reduceNeg, Int.reduceLT, Int.reduceLE, Int.reduceToNat, Int.reduceEq, Int.reduceBEq]
  have o5 : own M p5 = some (bys (runB ks n b 0)) := by subst hM h5p; simp -implicitDefEqProofs (disch := (first | omega | (simp only [lenB, ovr_len, mixB_len, subs_len, runB_len] <;> omega) | fail)) only [admQ, lenB, ovr_len, mixB_len, subs_len, runB_len, aFill, AK.cls, implies_true, ↓reduceIte, reduceCtorEq, if_true, if_false, Nat.reduceAdd, Nat.reduceEqDiff, Nat.reduceMod, Nat.reduceLT, Nat.reduceLeDiff, Nat.reduceSub, Nat.reduceMul, Nat.reduceBEq, Int.reduceAdd, Int.reduceSub, Int.reduceMul, Int.reduceNeg, Int.reduceLT, Int.reduceLE, Int.reduceToNat, Int.reduceEq, Int.reduceBEq]; rfl
  have hk0 : Kept [] m M := by subst hM; exact .app _ _ _
  have hp5 : m.length + 1 < p5 := by omega
  clear hM h5p hk
  refine LoopW.on (fun r : Nat => [(0, .ptr c 0), (4, .ptr (m.length + 1) 0), (5, .ptr p5 0), (22, .sl kb 16 (n - 1) (n - 1) 16), (23, .int .i64 ((n - 1 : Nat) : Int)), (24, .int .i64 r)]) (fun r => n - 1 - r)
    (fun r m' => r ≤ n - 1 ∧ Kept [] m m' ∧ own m' (m.length + 1) = some (bys (List.replicate 16 0#8)) ∧ own m' p5 = some (bys (runB ks n b r))) ?_ 0 _ _ rfl ⟨by omega, hk0, o4, o5⟩
  clear o4 o5 hk0 M h1 h2 h5
  rintro r m' X ⟨hr, hk, o4, o5⟩ hX
  have hc' := hc.kept hk (by simp) (by simp)
  have h1 := fun e => (hc'.app e).hd
  have h2 := fun e => (hc'.app e).keys
  have o5' := fun e => rowOf_own (own_app o5 e)
  have h10 := hc'.hd
  have h20 := hc'.keys
  by_cases hlt : r < n - 1
  · have h5 := keyAt_bys ks (r + 1)
    have h6 : 16 + r * 16 = (r + 1) * 16 := by omega
    have h7 := keyAt_len h3 (r := r + 1) (by omega)
    simp -implicitDefEqProofs (disch := (first | omega | (simp only [lenB, ovr_len, mixB_len, subs_len, runB_len] <;> omega) | fail)) only [admQ, lenB, ovr_len, mixB_len, subs_len, runB_len, aFill, AK.cls, implies_true, ↓reduceIte, reduceCtorEq, if_true, if_false, Nat.reduceAdd, Nat.reduceEqDiff, Nat.reduceMod, Nat.reduceLT, Nat.reduceLeDiff, Nat.reduceSub, Nat.reduceMul, Nat.reduceBEq, Int.reduceAdd, Int.reduceSub, Int.reduceMul, Int.reduceNeg, Int.reduceLT, Int.reduceLE, Int.reduceToNat, Int.reduceEq, Int.reduceBEq, h1, h2, h10, h20, h6, h5, o5']
    have hS := runB_len ks n b r
    have hn : runB ks n b (r + 1) = roundB ks n r (runB ks n b r) := rfl
    generalize runB ks n b r = S at *
    let f : Nat → B8 := fun j => sb (gb S ((j + 4 * (j % 4)) % 16))
    refine LoopW.on (fun i : Nat => [(0, .ptr c 0), (4, .ptr (m.length + 1) 0), (5, .ptr p5 0), (6, .int .i64 r), (7, .ptr m'.length 0), (8, .ptr (m'.length + 1) 0), (22, .sl kb 16 (n - 1) (n - 1) 16), (23, .int .i64 ((n - 1 : Nat) : Int)), (24, .int .i64 r), (29, .int .i64 i)]) (fun i => 16 - i)
      (fun i m2 => i ≤ 16 ∧ m2 = m' ++ [.row (bys (keyAt ks (r + 1))) false, .row (bys (upTo 16 f (fun _ => 0#8) i)) false]) ?_ 0 _ _ rfl ⟨by omega, by rw [upTo_zero, tab_const]⟩
    rintro i m2 X2 ⟨hi, rfl⟩ hX2
    by_cases hl2 : i < 16
    · have g3 : (upTo 16 f (fun _ => 0#8) i).set i (sb (gb S ((i + 4 * (i % 4)) % 16))) = _ := upTo_set
      simp -implicitDefEqProofs (disch := (first | omega | (simp only [lenB, ovr_len, mixB_len, subs_len, runB_len] <;> omega) | fail)) only [admQ, lenB, ovr_len, mixB_len, subs_len, runB_len, aFill, AK.cls, implies_true, ↓reduceIte, reduceCtorEq, if_true, if_false, Nat.reduceAdd, Nat.reduceEqDiff, Nat.reduceMod, Nat.reduceLT, Nat.reduceLeDiff, Nat.reduceSub, Nat.reduceMul, Nat.reduceBEq, Int.reduceAdd, Int.reduceSub, Int.reduceMul, Int.reduceNeg, Int.reduceLT, Int.reduceLE, Int.reduceToNat, Int.reduceEq, Int.reduceBEq, h1, o5', sb_at, splice_byte, g3]
      exact hX2 (i + 1) _ _ rfl (by omega) ⟨by omega, rfl⟩
    · obtain rfl : i = 16 := by omega
      have g1 : upTo 16 f (fun _ => 0#8) 16 = subs S := upTo_all _ _ _
      clear_value f
      simp -implicitDefEqProofs (disch := (first | omega | (simp only [lenB, ovr_len, mixB_len, subs_len, runB_len] <;> omega) | fail)) only [admQ, lenB, ovr_len, mixB_len, subs_len, runB_len, aFill, AK.cls, implies_true, ↓reduceIte, reduceCtorEq, if_true, if_false, Nat.reduceAdd, Nat.reduceEqDiff, Nat.reduceMod, Nat.reduceLT, Nat.reduceLeDiff, Nat.reduceSub, Nat.reduceMul, Nat.reduceBEq, Int.reduceAdd, Int.reduceSub, Int.reduceMul, Int.reduceNeg, Int.reduceLT, Int.reduceLE, Int.reduceToNat, Int.reduceEq, Int.reduceBEq, h1, o5', g1]
      have q5 := fun e b => set_app (own_lt o5) e b
      have q4 : p5 ≠ m.length + 1 := by omega
      have fin : ∀ (e : Mem) (t : AFr), AFr.cut [0, 4, 5, 22, 23, 24] t = [(0, .ptr c 0), (4, .ptr (m.length + 1) 0), (5, .ptr p5 0), (22, .sl kb 16 (n - 1) (n - 1) 16), (23, .int .i64 ((n - 1 : Nat) : Int)), (24, .int .i64 ((r + 1 : Nat) : Int))] →
          X t (m'.set p5 (.row (bys (roundB ks n r S)) false) ++ e) := by
        intro e t ht
        refine hX (r + 1) _ _ ht (by omega) ⟨by omega, hk.fresh ((Kept.set1 m' p5 _).trans (.app _ _ _)) (by simp; omega), own_app (own_set_ne' o4 q4 _) _, ?_⟩
        rw [hn]; exact own_app (own_set (own_lt o5) _) _
      have o5o := fun e => own_app o5 e
      by_cases hm : r + 2 < n
      · have e1 : roundB ks n r S = ovr (mixB (subs S)) (keyAt ks (r + 1)) := by rw [roundB, if_pos hm]
        rw [e1] at fin
        simp -implicitDefEqProofs (disch := (first | omega | (simp only [lenB, ovr_len, mixB_len, subs_len, runB_len] <;> omega) | fail)) only [admQ, lenB, ovr_len, mixB_len, subs_len, runB_len, aFill, AK.cls, implies_true, ↓reduceIte, reduceCtorEq, if_true, if_false, Nat.reduceAdd, Nat.reduceEqDiff, Nat.reduceMod, Nat.reduceLT, Nat.reduceLeDiff, Nat.reduceSub, Nat.reduceMul, Nat.reduceBEq, Int.reduceAdd, Int.reduceSub, Int.reduceMul, Int.reduceNeg, Int.reduceLT, Int.reduceLE, Int.reduceToNat, Int.reduceEq, Int.reduceBEq]
        refine (ans_mix _ (subs_len S) _).mono ?_
        rintro _ m3 ⟨rfl, hk3⟩
        obtain ⟨e3, rfl⟩ := hk3.grow
        simp -implicitDefEqProofs (disch := (first | omega | (simp only [lenB, ovr_len, mixB_len, subs_len, runB_len] <;> omega) | fail)) only [admQ, lenB, ovr_len, mixB_len, subs_len, runB_len, aFill, AK.cls, implies_true, ↓reduceIte, reduceCtorEq, if_true, if_false, Nat.reduceAdd, Nat.reduceEqDiff, Nat.reduceMod, Nat.reduceLT, Nat.reduceLeDiff, Nat.reduceSub, Nat.reduceMul, Nat.reduceBEq, Int.reduceAdd, Int.reduceSub, Int.reduceMul, Int.reduceNeg, Int.reduceLT, Int.reduceLE, Int.reduceToNat, Int.reduceEq, Int.reduceBEq]
        refine (ans_ovr _ _ (mixB_len _) h7 _).mono ?_
        rintro _ m4 ⟨rfl, hk4⟩
        obtain ⟨e4, rfl⟩ := hk4.grow
        simp -implicitDefEqProofs (disch := (first | omega | (simp only [lenB, ovr_len, mixB_len, subs_len, runB_len] <;> omega) | fail)) only [admQ, lenB, ovr_len, mixB_len, subs_len, runB_len, aFill, AK.cls, implies_true, ↓reduceIte, reduceCtorEq, if_true, if_false, Nat.reduceAdd, Nat.reduceEqDiff, Nat.reduceMod, Nat.reduceLT, Nat.reduceLeDiff, Nat.reduceSub, Nat.reduceMul, Nat.reduceBEq, Int.reduceAdd, Int.reduceSub, Int.reduceMul, Int.reduceNeg, Int.reduceLT, Int.reduceLE, Int.reduceToNat, Int.reduceEq, Int.reduceBEq, o5o, q5]
        exact fin _ _ rfl
      · have e1 : roundB ks n r S = ovr (subs S) (keyAt ks (r + 1)) := by rw [roundB, if_neg hm]
        rw [e1] at fin
        simp -implicitDefEqProofs (disch := (first | omega | (simp only [lenB, ovr_len, mixB_len, subs_len, runB_len] <;> omega) | fail)) only [admQ, lenB, ovr_len, mixB_len, subs_len, runB_len, aFill, AK.cls, implies_true, ↓reduceIte, reduceCtorEq, if_true, if_false, Nat.reduceAdd, Nat.reduceEqDiff, Nat.reduceMod, Nat.reduceLT, Nat.reduceLeDiff, Nat.reduceSub, Nat.reduceMul, Nat.reduceBEq, Int.reduceAdd, Int.reduceSub, Int.reduceMul, Int.reduceNeg, Int.reduceLT, Int.reduceLE, Int.reduceToNat, Int.reduceEq, Int.reduceBEq]
        refine (ans_ovr _ _ (subs_len _) h7 _).mono ?_
        rintro _ m4 ⟨rfl, hk4⟩
        obtain ⟨e4, rfl⟩ := hk4.grow
        simp -implicitDefEqProofs (disch := (first | omega | (simp only [lenB, ovr_len, mixB_len, subs_len, runB_len] <;> omega) | fail)) only [admQ, lenB, ovr_len, mixB_len, subs_len, runB_len, aFill, AK.cls, implies_true, ↓reduceIte, reduceCtorEq, if_true, if_false, Nat.reduceAdd, Nat.reduceEqDiff, Nat.reduceMod, Nat.reduceLT, Nat.reduceLeDiff, Nat.reduceSub, Nat.reduceMul, Nat.reduceBEq, Int.reduceAdd, Int.reduceSub, Int.reduceMul, Int.reduceNeg, Int.reduceLT, Int.reduceLE, Int.reduceToNat, Int.reduceEq, Int.reduceBEq, o5o, q5]
        exact fin _ _ rfl
  · obtain rfl : r = n - 1 := by omega
    have q4 := own_set (own_lt o4)
    have hb' : blockB ks n b = runB ks n b (n - 1) := rfl
    simp -implicitDefEqProofs (disch := (first | omega | (simp only [lenB, ovr_len, mixB_len, subs_len, runB_len] <;> omega) | fail)) only [admQ, lenB, ovr_len, mixB_len, subs_len, runB_len, aFill, AK.cls, implies_true, ↓reduceIte, reduceCtorEq, if_true, if_false, Nat.reduceAdd, Nat.reduceEqDiff, Nat.reduceMod, Nat.reduceLT, Nat.reduceLeDiff, Nat.reduceSub, Nat.reduceMul, Nat.reduceBEq, Int.reduceAdd, Int.reduceSub, Int.reduceMul, Int.reduceNeg, Int.reduceLT, Int.reduceLE, Int.reduceToNat, Int.reduceEq, Int.reduceBEq, rowOf_own o5, o4, rowOf_own (q4 _), hb']
    exact hk.fresh (Kept.set1 m' _ _) (by simp)
end Go.Proofs.YtmnlmjlmbceimaaDoor
end
section
/- AES: the program's cipher is made. -/
namespace Go.Proofs.YtmnlmjlmbceimaaDoor
open Go Go.Adm
set_option linter.unusedSimpArgs false
set_option maxRecDepth 100000
/-- The word that goes into the next one. -/
def exW (n : Nat) (B : List B8) (r : B8) : List B8 :=
  let w := tab 4 fun i => gb B (B.length - 4 + i)
  if B.length % n = 0 then [sb (gb w 1) ^^^ r, sb (gb w 2), sb (gb w 3), sb (gb w 0)]
  else if n = 32 ∧ B.length % n = 16 then [sb (gb w 0), sb (gb w 1), sb (gb w 2), sb (gb w 3)]
  else w
theorem exW_len (n : Nat) (B : List B8) (r : B8) : (exW n B r).length = 4 := by
  unfold exW; dsimp only; split
  · rfl
  · split
    · rfl
    · rfl
def exG (n : Nat) (B : List B8) (r : B8) (i : Nat) : B8 := gb B (B.length - n + i) ^^^ gb (exW n B r) i
def exStep (n : Nat) (s : List B8 × B8) : List B8 × B8 := (s.1 ++ tab 4 (exG n s.1 s.2), if s.1.length % n = 0 then tw s.2 else s.2)
def exK (key : List B8) : Nat → List B8 × B8
  | 0 => (key, 1#8)
  | k + 1 => exStep key.length (exK key k)
theorem exK_len (key : List B8) (k : Nat) : (exK key k).1.length = key.length + 4 * k := by
  induction k with
  | zero => rfl
  | succ k ih => simp only [exK, exStep, List.length_append, ih, tab_len]; omega
def keyOk (n : Nat) : Prop := n = 16 ∨ n = 24 ∨ n = 32
instance (n : Nat) : Decidable (keyOk n) := inferInstanceAs (Decidable (_ ∨ _ ∨ _))
/-- How many words are made, how many round keys there are. -/
def exN (n : Nat) : Nat := 4 * (n / 4 + 7) - n / 4
def expand (key : List B8) : List B8 := (exK key (exN key.length)).1
def newQ (m : Mem) (key : List B8) (r : AV) (m' : Mem) : Prop := ∃ c kb, r = .tup [.ptr c 0, .int .i64 0] ∧ Kept [] m m' ∧ m.length ≤ c ∧ m.length ≤ kb ∧ Ciph m' c kb (key.length / 4 + 7) (expand key)
def newTail : ACode := tlC (tlC (tlC c19))
theorem newCode : c19 = .seq (hdC c19) (.seq (hdC (tlC c19)) (.seq (hdC (tlC (tlC c19))) newTail)) := rfl
def newInner : ACode := bodyC (tlC (tlC (tlC (bodyC (hdC (tlC (bodyC (bodyC (tlC (hdC (tlC (tlC (tlC newTail))))))))))))) 
theorem new_inner {m' : Mem} {n L pb p9 : Nat} {B T : List B8} {v5 v7 : AV} {Q : Exit → AFr → Mem → Prop} (hB : B.length = L) (hT : T.length = 4) (hn : 4 ≤ n ∧ n ≤ L ∧ L < 100000) (ob : own m' pb = some (bys B)) (o9 : own m' p9 = some (bys T)) (hne : pb ≠ p9)
    (hQ : ∀ m2 pb2, Kept [pb] m' m2 → m'.length ≤ pb2 → own m2 pb2 = some (bys (B ++ tab 4 fun i => gb B (L - n + i) ^^^ gb T i)) →
      Q (.exit 3) [(4, .int .i64 n), (5, v5), (6, .sl pb2 0 (L + 4) (L + 4) 1), (7, v7), (8, .int .i64 L), (9, .ptr p9 0), (121, .int .i64 4), (122, .bool false)] m2) :
    wpA Tryd.prog newInner [(4, .int .i64 n), (5, v5), (6, .sl pb 0 L L 1), (7, v7), (8, .int .i64 L), (9, .ptr p9 0), (121, .int .i64 0)] m' Q := by
  simp only [newInner, newTail, tlC, hdC, bodyC, c19]
  let g : Nat → B8 := fun i => gb B (L - n + i) ^^^ gb T i
  refine LoopW.on (fun s : Nat × Nat => [(4, .int .i64 n), (5, v5), (6, .sl s.2 0 (L + s.1) (L + s.1) 1), (7, v7), (8, .int .i64 L), (9, .ptr p9 0), (121, .int .i64 s.1)]) (fun s => 4 - s.1)
    (fun s m2 => s.1 ≤ 4 ∧ Kept [pb] m' m2 ∧ (s.1 = 0 ∧ s.2 = pb ∨ m'.length ≤ s.2) ∧ own m2 s.2 = some (bys (B ++ tab s.1 g))) ?_ (0, pb) _ _ rfl ⟨by omega, .refl _ _, .inl ⟨rfl, rfl⟩, by simpa [tab] using ob⟩
  rintro ⟨i, pb2⟩ m2 X ⟨hi, hk, hp, ob2⟩ hX
  dsimp only at hi hp ob2 hX ⊢
  have o92 := hk.own o9 (by simpa using fun h => hne h.symm)
  have hl9 := own_lt o9
  have hpb := own_lt ob
  by_cases hlt : i < 4
  · have o9A := fun e => rowOf_own (own_app o92 e)
    have obA := fun e => rowOf_own (own_app ob2 e)
    have hp92 : pb2 ≠ p9 := by rcases hp with ⟨_, rfl⟩ | h <;> omega
    have hg := app_grow1 (n := L + i) (v := g i) ob2 (by simp [tab_len, hB]) (by omega)
    simp only [List.append_assoc, ← tab_succ] at hg
    have hg1 : gb B (L - n + i) ^^^ gb T i = g i := rfl
    have hg2 : gb (B ++ tab i g) (L - n + i) = gb B (L - n + i) := gb_app_l (by omega)
    simp -implicitDefEqProofs (disch := (first | omega | (simp only [lenB, sboxL_len, exW_len] <;> omega) | fail)) only [admQ, lenB, sboxL_len, exW_len, aFill, AK.cls, implies_true, ↓reduceIte, reduceCtorEq, if_true, if_false, Nat.reduceAdd, Nat.reduceEqDiff, Nat.reduceMod, Nat.reduceLT, Nat.reduceLeDiff, Nat.reduceSub, Nat.reduceMul, Nat.reduceBEq, Int.reduceAdd, Int.reduceSub, Int.reduceMul, Int.reduceNeg, Int.reduceLT, Int.reduceLE, Int.reduceToNat, Int.reduceEq, Int.reduceBEq, rowOf_own ob2, rowOf_own o92, hg2, hg1, hg]
    refine hX (i + 1, m2.length + 1) _ _ rfl (by simp; omega) ⟨by simp; omega, ?_, .inr (by have := hk.len; simp; omega), ?_⟩
    · exact (hk.write (by rcases hp with ⟨_, rfl⟩ | h; exact .inl (by simp); exact .inr h) _).more_app _
    · simp -implicitDefEqProofs (disch := (first | omega | (simp only [lenB, sboxL_len, exW_len] <;> omega) | fail)) only [admQ, lenB, sboxL_len, exW_len, aFill, AK.cls, implies_true, ↓reduceIte, reduceCtorEq, if_true, if_false, Nat.reduceAdd, Nat.reduceEqDiff, Nat.reduceMod, Nat.reduceLT, Nat.reduceLeDiff, Nat.reduceSub, Nat.reduceMul, Nat.reduceBEq, Int.reduceAdd, Int.reduceSub, Int.reduceMul, Int.reduceNeg, Int.reduceLT, Int.reduceLE, Int.reduceToNat, Int.reduceEq, Int.reduceBEq]
  · obtain rfl : i = 4 := by omega
    simp -implicitDefEqProofs (disch := (first | omega | (simp only [lenB, sboxL_len, exW_len] <;> omega) | fail)) only [admQ, lenB, sboxL_len, exW_len, aFill, AK.cls, implies_true, ↓reduceIte, reduceCtorEq, if_true, if_false, Nat.reduceAdd, Nat.reduceEqDiff, Nat.reduceMod, Nat.reduceLT, Nat.reduceLeDiff, Nat.reduceSub, Nat.reduceMul, Nat.reduceBEq, Int.reduceAdd, Int.reduceSub, Int.reduceMul, Int.reduceNeg, Int.reduceLT, Int.reduceLE, Int.reduceToNat, Int.reduceEq, Int.reduceBEq]
    rcases hp with ⟨h, _⟩ | hp
    · omega
    · exact hQ m2 pb2 hk hp ob2
theorem ans_new_go {m : Mem} {x : AV} {key : List B8} (hx : RdB m x key) (hk : keyOk key.length) :
    wpA Tryd.prog newTail [(0, x), (4, .int .i64 key.length), (22, .bool false)] m (retQ r19 (newQ m key)) := by
  have hlen : key.length = 16 ∨ key.length = 24 ∨ key.length = 32 := hk
  simp -implicitDefEqProofs (disch := (first | omega | (simp only [lenB, sboxL_len, exW_len] <;> omega) | fail)) only [admQ, lenB, sboxL_len, exW_len, aFill, AK.cls, implies_true, ↓reduceIte, reduceCtorEq, if_true, if_false, Nat.reduceAdd, Nat.reduceEqDiff, Nat.reduceMod, Nat.reduceLT, Nat.reduceLeDiff, Nat.reduceSub, Nat.reduceMul, Nat.reduceBEq, Int.reduceAdd, Int.reduceSub, Int.reduceMul, Int.reduceNeg, Int.reduceLT, Int.reduceLE, Int.reduceToNat, Int.reduceEq, Int.reduceBEq, newTail, tlC, c19]
  refine (ans_table _).mono ?_
  rintro _ m1 ⟨rfl, hk1⟩
  have g1 : splice (.nils :: bys (List.replicate 256 0#8)) 1 (bys sboxL) = .nils :: bys sboxL := by
    rw [show (1 : Nat) = 0 + 1 from rfl, splice_succ, splice_whole (by rw [sboxL_len]; simp)]
  have g2 := app_new (m := m1 ++ [.row (.nils :: bys sboxL) false, .row [] false]) (b := m1.length + 1) (s := 0) ((hx.kept0 hk1).app _) (by omega) (by omega) rfl
  have hk2 := hk1.trans (Kept.app [] m1 [Blk.row (.nils :: bys sboxL) false, Blk.row [] false, Blk.row (bys key) false])
  have hm1 := hk1.len
  simp -implicitDefEqProofs (disch := (first | omega | (simp only [lenB, sboxL_len, exW_len] <;> omega) | fail)) only [admQ, lenB, sboxL_len, exW_len, aFill, AK.cls, implies_true, ↓reduceIte, reduceCtorEq, if_true, if_false, Nat.reduceAdd, Nat.reduceEqDiff, Nat.reduceMod, Nat.reduceLT, Nat.reduceLeDiff, Nat.reduceSub, Nat.reduceMul, Nat.reduceBEq, Int.reduceAdd, Int.reduceSub, Int.reduceMul, Int.reduceNeg, Int.reduceLT, Int.reduceLE, Int.reduceToNat, Int.reduceEq, Int.reduceBEq, g1, g2]
  refine LoopW.on (fun s : Nat × Nat => [(4, .int .i64 key.length), (5, .ptr m1.length 0), (6, .sl s.2 0 (key.length + 4 * s.1) (key.length + 4 * s.1) 1), (7, b8 (exK key s.1).2), (8, .int .i64 ((key.length + 4 * s.1 : Nat) : Int))]) (fun s => exN key.length - s.1)
    (fun s m' => s.1 ≤ exN key.length ∧ Kept [] m m' ∧ m1.length < s.2 ∧ own m' m1.length = some (.nils :: bys sboxL) ∧ own m' s.2 = some (bys (exK key s.1).1)) ?_ (0, m1.length + (0 + 1 + 1)) _ _ rfl ⟨by omega, hk2, by simp, by simp -implicitDefEqProofs (disch := (first | omega | (simp only [lenB, sboxL_len, exW_len] <;> omega) | fail)) only [admQ, lenB, sboxL_len, exW_len, aFill, AK.cls, implies_true, ↓reduceIte, reduceCtorEq, if_true, if_false, Nat.reduceAdd, Nat.reduceEqDiff, Nat.reduceMod, Nat.reduceLT, Nat.reduceLeDiff, Nat.reduceSub, Nat.reduceMul, Nat.reduceBEq, Int.reduceAdd, Int.reduceSub, Int.reduceMul, Int.reduceNeg, Int.reduceLT, Int.reduceLE, Int.reduceToNat, Int.reduceEq, Int.reduceBEq], by simp -implicitDefEqProofs (disch := (first | omega | (simp only [lenB, sboxL_len, exW_len] <;> omega) | fail)) only [admQ, lenB, sboxL_len, exW_len, aFill, AK.cls, implies_true, ↓reduceIte, reduceCtorEq, if_true, if_false, Nat.reduceAdd, Nat.reduceEqDiff, Nat.reduceMod, Nat.reduceLT, Nat.reduceLeDiff, Nat.reduceSub, Nat.reduceMul, Nat.reduceBEq, Int.reduceAdd, Int.reduceSub, Int.reduceMul, Int.reduceNeg, Int.reduceLT, Int.reduceLE, Int.reduceToNat, Int.reduceEq, Int.reduceBEq, exK]⟩
  clear g1 g2 hk2 hk1
  rintro ⟨k, pb⟩ m' X ⟨hkn, hk', hpb, oc, ob⟩ hX
  dsimp only at hkn hpb ob hX ⊢
  have hB := exK_len key k
  have hst : exK key (k + 1) = exStep key.length (exK key k) := rfl
  generalize hst0 : exK key k = st at *
  obtain ⟨B, r⟩ := st
  dsimp only at *
  have hN : exN key.length = 4 * (key.length / 4 + 7) - key.length / 4 := rfl
  have oc' := rowOf_own oc
  have ob' := rowOf_own ob
  by_cases hlt : k < exN key.length
  · have w1 : List.take 4 (List.drop (key.length + 4 * k - 4) (bys B)) = bys (tab 4 fun i => gb B (B.length - 4 + i)) := take_drop_tab (by omega) (by omega)
    have hx1 : exW key.length B r = exW key.length B r := rfl
    conv at hx1 => rhs; unfold exW; dsimp only
    have hWl : (tab 4 fun i => gb B (B.length - 4 + i)).length = 4 := tab_len _ _
    generalize (tab 4 fun i => gb B (B.length - 4 + i)) = W at *
    have hTl := exW_len key.length B r
    have hst' : exK key (k + 1) = (B ++ tab 4 (exG key.length B r), if B.length % key.length = 0 then tw r else r) := hst
    clear hst
    have hG : ∀ i, exG key.length B r i = gb B (B.length - key.length + i) ^^^ gb (exW key.length B r) i := fun _ => rfl
    generalize exW key.length B r = T at *
    generalize exG key.length B r = G at *
    rw [hB] at hx1 hst' hG
    have hsp4 : ∀ l : List B8, l.length = 4 → splice [.int .u8 0, .int .u8 0, .int .u8 0, .int .u8 0] 0 (bys l) = bys l := fun l h => splice_all (by simp [h])
    have hsp := hsp4 W hWl
    have ocA := fun e => rowOf_own (own_app oc e)
    have obA := fun e => rowOf_own (own_app ob e)
    have fin : ∀ (m2 : Mem) (pb2 : Nat) (T : List B8), Kept [pb] (m' ++ [.row (bys T) false]) m2 → (m' ++ [Blk.row (bys T) false]).length ≤ pb2 → own m2 pb2 = some (bys (exK key (k + 1)).1) →
        k + 1 ≤ exN key.length ∧ Kept [] m m2 ∧ m1.length < pb2 ∧ own m2 m1.length = some (.nils :: bys sboxL) ∧ own m2 pb2 = some (bys (exK key (k + 1)).1) := by
      intro m2 pb2 T hk2 hp2 ob2
      have := own_lt oc
      simp only [List.length_append] at hp2
      refine ⟨by omega, (hk'.more_app _).fresh hk2 (by simp; omega), by omega, hk2.own (own_app oc _) (by simp; omega), ob2⟩
    rcases Nat.decEq ((key.length + 4 * k) % key.length) 0 with g1 | g1
    · rw [if_neg g1] at hx1 hst'
      by_cases g2 : key.length = 32 ∧ (key.length + 4 * k) % key.length = 16
      · rw [if_pos g2] at hx1
        obtain ⟨g2, g3⟩ := g2
        have e1 : [b8 (sb (gb W 0)), b8 (sb (gb W 1)), b8 (sb (gb W 2)), b8 (sb (gb W 3))] = bys T := by rw [hx1]; rfl
        have e2 : splice (bys W) 0 [b8 (sb (gb W 0)), b8 (sb (gb W 1)), b8 (sb (gb W 2)), b8 (sb (gb W 3))] = bys T := by rw [e1]; exact splice_all (by simp [hWl, hTl])
        have g2' : ((key.length : Int) == 32) = true := by rw [g2]; rfl
        have g3' : (((key.length + 4 * k) % key.length : Nat) : Int) == 16 := by rw [g3]; rfl
        simp -implicitDefEqProofs (disch := (first | omega | (simp only [lenB, sboxL_len, exW_len] <;> omega) | fail)) only [admQ, lenB, sboxL_len, exW_len, aFill, AK.cls, implies_true, ↓reduceIte, reduceCtorEq, if_true, if_false, Nat.reduceAdd, Nat.reduceEqDiff, Nat.reduceMod, Nat.reduceLT, Nat.reduceLeDiff, Nat.reduceSub, Nat.reduceMul, Nat.reduceBEq, Int.reduceAdd, Int.reduceSub, Int.reduceMul, Int.reduceNeg, Int.reduceLT, Int.reduceLE, Int.reduceToNat, Int.reduceEq, Int.reduceBEq, oc', ob', w1, hsp, ocA, sb_at, e2, g2', g3']
        refine new_inner hB hTl (by omega) (own_app ob _) (by simp -implicitDefEqProofs (disch := (first | omega | (simp only [lenB, sboxL_len, exW_len] <;> omega) | fail)) only [admQ, lenB, sboxL_len, exW_len, aFill, AK.cls, implies_true, ↓reduceIte, reduceCtorEq, if_true, if_false, Nat.reduceAdd, Nat.reduceEqDiff, Nat.reduceMod, Nat.reduceLT, Nat.reduceLeDiff, Nat.reduceSub, Nat.reduceMul, Nat.reduceBEq, Int.reduceAdd, Int.reduceSub, Int.reduceMul, Int.reduceNeg, Int.reduceLT, Int.reduceLE, Int.reduceToNat, Int.reduceEq, Int.reduceBEq]) (by have := own_lt ob; omega) fun m2 pb2 hk2 hp2 ob2 => ?_
        simp -implicitDefEqProofs (disch := (first | omega | (simp only [lenB, sboxL_len, exW_len] <;> omega) | fail)) only [admQ, lenB, sboxL_len, exW_len, aFill, AK.cls, implies_true, ↓reduceIte, reduceCtorEq, if_true, if_false, Nat.reduceAdd, Nat.reduceEqDiff, Nat.reduceMod, Nat.reduceLT, Nat.reduceLeDiff, Nat.reduceSub, Nat.reduceMul, Nat.reduceBEq, Int.reduceAdd, Int.reduceSub, Int.reduceMul, Int.reduceNeg, Int.reduceLT, Int.reduceLE, Int.reduceToNat, Int.reduceEq, Int.reduceBEq]
        exact hX (k + 1, pb2) _ _ (by rw [hst']; rfl) (by simp; omega) (fin m2 pb2 T hk2 hp2 (by rw [ob2, hst']; simp only [← hG]))
      · rw [if_neg g2] at hx1
        have g4 : ((key.length : Int) == 32) = false ∨ ((key.length : Int) == 32) = true ∧ ((((key.length + 4 * k) % key.length : Nat) : Int) == 16) = false := by
          by_cases h : key.length = 32
          · exact .inr ⟨by rw [h]; rfl, beq_eq_false_iff_ne.mpr fun e => g2 ⟨h, by omega⟩⟩
          · exact .inl (beq_eq_false_iff_ne.mpr (by omega))
        subst hx1
        rcases g4 with g4 | ⟨g4, g5⟩
        · simp -implicitDefEqProofs (disch := (first | omega | (simp only [lenB, sboxL_len, exW_len] <;> omega) | fail)) only [admQ, lenB, sboxL_len, exW_len, aFill, AK.cls, implies_true, ↓reduceIte, reduceCtorEq, if_true, if_false, Nat.reduceAdd, Nat.reduceEqDiff, Nat.reduceMod, Nat.reduceLT, Nat.reduceLeDiff, Nat.reduceSub, Nat.reduceMul, Nat.reduceBEq, Int.reduceAdd, Int.reduceSub, Int.reduceMul, Int.reduceNeg, Int.reduceLT, Int.reduceLE, Int.reduceToNat, Int.reduceEq, Int.reduceBEq, oc', ob', w1, hsp, ocA, sb_at, g4]
          refine new_inner hB hTl (by omega) (own_app ob _) (by simp -implicitDefEqProofs (disch := (first | omega | (simp only [lenB, sboxL_len, exW_len] <;> omega) | fail)) only [admQ, lenB, sboxL_len, exW_len, aFill, AK.cls, implies_true, ↓reduceIte, reduceCtorEq, if_true, if_false, Nat.reduceAdd, Nat.reduceEqDiff, Nat.reduceMod, Nat.reduceLT, Nat.reduceLeDiff, Nat.reduceSub, Nat.reduceMul, Nat.reduceBEq, Int.reduceAdd, Int.reduceSub, Int.reduceMul, Int.reduceNeg, Int.reduceLT, Int.reduceLE, Int.reduceToNat, Int.reduceEq, Int.reduceBEq]) (by have := own_lt ob; omega) fun m2 pb2 hk2 hp2 ob2 => ?_
          simp -implicitDefEqProofs (disch := (first | omega | (simp only [lenB, sboxL_len, exW_len] <;> omega) | fail)) only [admQ, lenB, sboxL_len, exW_len, aFill, AK.cls, implies_true, ↓reduceIte, reduceCtorEq, if_true, if_false, Nat.reduceAdd, Nat.reduceEqDiff, Nat.reduceMod, Nat.reduceLT, Nat.reduceLeDiff, Nat.reduceSub, Nat.reduceMul, Nat.reduceBEq, Int.reduceAdd, Int.reduceSub, Int.reduceMul, Int.reduceNeg, Int.reduceLT, Int.reduceLE, Int.reduceToNat, Int.reduceEq, Int.reduceBEq]
          exact hX (k + 1, pb2) _ _ (by rw [hst']; rfl) (by simp; omega) (fin m2 pb2 T hk2 hp2 (by rw [ob2, hst']; simp only [← hG]))
        · simp -implicitDefEqProofs (disch := (first | omega | (simp only [lenB, sboxL_len, exW_len] <;> omega) | fail)) only [admQ, lenB, sboxL_len, exW_len, aFill, AK.cls, implies_true, ↓reduceIte, reduceCtorEq, if_true, if_false, Nat.reduceAdd, Nat.reduceEqDiff, Nat.reduceMod, Nat.reduceLT, Nat.reduceLeDiff, Nat.reduceSub, Nat.reduceMul, Nat.reduceBEq, Int.reduceAdd, Int.reduceSub, Int.reduceMul, Int.reduceNeg, Int.reduceLT, Int.reduceLE, Int.reduceToNat, Int.reduceEq, Int.reduceBEq, oc', ob', w1, hsp, ocA, sb_at, g4, g5]
          refine new_inner hB hTl (by omega) (own_app ob _) (by simp -implicitDefEqProofs (disch := (first | omega | (simp only [lenB, sboxL_len, exW_len] <;> omega) | fail)) only [admQ, lenB, sboxL_len, exW_len, aFill, AK.cls, implies_true, ↓reduceIte, reduceCtorEq, if_true, if_false, Nat.reduceAdd, Nat.reduceEqDiff, Nat.reduceMod, Nat.reduceLT, Nat.reduceLeDiff, Nat.reduceSub, Nat.reduceMul, Nat.reduceBEq, Int.reduceAdd, Int.reduceSub, Int.reduceMul, Int.reduceNeg, Int.reduceLT, Int.reduceLE, Int.reduceToNat, Int.reduceEq, Int.reduceBEq]) (by have := own_lt ob; omega) fun m2 pb2 hk2 hp2 ob2 => ?_
          simp -implicitDefEqProofs (disch := (first | omega | (simp only [lenB, sboxL_len, exW_len] <;> omega) | fail)) only [admQ, lenB, sboxL_len, exW_len, aFill, AK.cls, implies_true, ↓reduceIte, reduceCtorEq, if_true, if_false, Nat.reduceAdd, Nat.reduceEqDiff, Nat.reduceMod, Nat.reduceLT, Nat.reduceLeDiff, Nat.reduceSub, Nat.reduceMul, Nat.reduceBEq, Int.reduceAdd, Int.reduceSub, Int.reduceMul, Int.reduceNeg, Int.reduceLT, Int.reduceLE, Int.reduceToNat, Int.reduceEq, Int.reduceBEq]
          exact hX (k + 1, pb2) _ _ (by rw [hst']; rfl) (by simp; omega) (fin m2 pb2 T hk2 hp2 (by rw [ob2, hst']; simp only [← hG]))
    · rw [if_pos g1] at hx1 hst'
      have e1 : [b8 (sb (gb W 1) ^^^ r), b8 (sb (gb W 2)), b8 (sb (gb W 3)), b8 (sb (gb W 0))] = bys T := by rw [hx1]; rfl
      have e2 : splice (bys W) 0 [b8 (sb (gb W 1) ^^^ r), b8 (sb (gb W 2)), b8 (sb (gb W 3)), b8 (sb (gb W 0))] = bys T := by rw [e1]; exact splice_all (by simp [hWl, hTl])
      simp -implicitDefEqProofs (disch := (first | omega | (simp only [lenB, sboxL_len, exW_len] <;> omega) | fail)) only [admQ, lenB, sboxL_len, exW_len, aFill, AK.cls, implies_true, ↓reduceIte, reduceCtorEq, if_true, if_false, Nat.reduceAdd, Nat.reduceEqDiff, Nat.reduceMod, Nat.reduceLT, Nat.reduceLeDiff, Nat.reduceSub, Nat.reduceMul, Nat.reduceBEq, Int.reduceAdd, Int.reduceSub, Int.reduceMul, Int.reduceNeg, Int.reduceLT, Int.reduceLE, Int.reduceToNat, Int.reduceEq, Int.reduceBEq, oc', ob', w1, hsp, ocA, sb_at, e2]
      refine (ans_twice r _).mono ?_
      rintro _ m3 ⟨rfl, rfl⟩
      simp -implicitDefEqProofs (disch := (first | omega | (simp only [lenB, sboxL_len, exW_len] <;> omega) | fail)) only [admQ, lenB, sboxL_len, exW_len, aFill, AK.cls, implies_true, ↓reduceIte, reduceCtorEq, if_true, if_false, Nat.reduceAdd, Nat.reduceEqDiff, Nat.reduceMod, Nat.reduceLT, Nat.reduceLeDiff, Nat.reduceSub, Nat.reduceMul, Nat.reduceBEq, Int.reduceAdd, Int.reduceSub, Int.reduceMul, Int.reduceNeg, Int.reduceLT, Int.reduceLE, Int.reduceToNat, Int.reduceEq, Int.reduceBEq]
      refine new_inner hB hTl (by omega) (own_app ob _) (by simp -implicitDefEqProofs (disch := (first | omega | (simp only [lenB, sboxL_len, exW_len] <;> omega) | fail)) only [admQ, lenB, sboxL_len, exW_len, aFill, AK.cls, implies_true, ↓reduceIte, reduceCtorEq, if_true, if_false, Nat.reduceAdd, Nat.reduceEqDiff, Nat.reduceMod, Nat.reduceLT, Nat.reduceLeDiff, Nat.reduceSub, Nat.reduceMul, Nat.reduceBEq, Int.reduceAdd, Int.reduceSub, Int.reduceMul, Int.reduceNeg, Int.reduceLT, Int.reduceLE, Int.reduceToNat, Int.reduceEq, Int.reduceBEq]) (by have := own_lt ob; omega) fun m2 pb2 hk2 hp2 ob2 => ?_
      simp -implicitDefEqProofs (disch := (first | omega | (simp only [lenB, sboxL_len, exW_len] <;> omega) | fail)) only [admQ, lenB, sboxL_len, exW_len, aFill, AK.cls, implies_true, ↓reduceIte, reduceCtorEq, if_true, if_false, Nat.reduceAdd, Nat.reduceEqDiff, Nat.reduceMod, Nat.reduceLT, Nat.reduceLeDiff, Nat.reduceSub, Nat.reduceMul, Nat.reduceBEq, Int.reduceAdd, Int.reduceSub, Int.reduceMul, Int.reduceNeg, Int.reduceLT, Int.reduceLE, Int.reduceToNat, Int.reduceEq, Int.reduceBEq]
      exact hX (k + 1, pb2) _ _ (by rw [hst']; rfl) (by simp; omega) (fin m2 pb2 T hk2 hp2 (by rw [ob2, hst']; simp only [← hG]))
  · obtain rfl : k = exN key.length := by omega
    have hE : expand key = B := by rw [expand, hst0]
    have hL : key.length + 4 * exN key.length = (key.length / 4 + 7) * 16 := by omega
    simp -implicitDefEqProofs (disch := (first | omega | (simp only [lenB, sboxL_len, exW_len] <;> omega) | fail)) only [admQ, lenB, sboxL_len, exW_len, aFill, AK.cls, implies_true, ↓reduceIte, reduceCtorEq, if_true, if_false, Nat.reduceAdd, Nat.reduceEqDiff, Nat.reduceMod, Nat.reduceLT, Nat.reduceLeDiff, Nat.reduceSub, Nat.reduceMul, Nat.reduceBEq, Int.reduceAdd, Int.reduceSub, Int.reduceMul, Int.reduceNeg, Int.reduceLT, Int.reduceLE, Int.reduceToNat, Int.reduceEq, Int.reduceBEq]
    rw [hL] at hB ⊢
    have hN2 : 2 ≤ key.length / 4 + 7 ∧ key.length / 4 + 7 ≤ 100 := by omega
    rw [← hE] at ob hB
    generalize hNn : key.length / 4 + 7 = N at *
    generalize hEe : expand key = E at *
    clear hst hst0 hX hlt hkn oc' ob' hL hN hE
    refine LoopW.on (fun s : Nat × Nat => [(5, .ptr m1.length 0), (6, .sl pb (s.1 * 16) (N * 16 - s.1 * 16) (N * 16 - s.1 * 16) 1)]) (fun s => N - s.1)
      (fun s m2 => s.1 ≤ N ∧ Kept [] m m2 ∧ own m2 pb = some (bys E) ∧ (s.1 = 0 ∧ own m2 m1.length = some (.nils :: bys sboxL) ∨ 0 < s.1 ∧ own m2 m1.length = some (.sl s.2 0 s.1 s.1 16 :: bys sboxL) ∧ own m2 s.2 = some (bys (E.take (s.1 * 16))) ∧ m1.length < s.2 ∧ s.2 ≠ pb)) ?_ (0, 0) _ _ rfl ⟨by omega, hk', ob, .inl ⟨rfl, oc⟩⟩
    clear ob oc hk'
    rintro ⟨q, kb⟩ m2 X2 ⟨hq, hk2, ob, hc⟩ hX2
    dsimp only at hq ob hc hX2 ⊢
    have obA := fun e => rowOf_own (own_app ob e)
    have hlc : m1.length < m2.length := by rcases hc with ⟨_, h⟩ | ⟨_, h, _⟩ <;> exact own_lt h
    have hlb := own_lt ob
    have hsw : ∀ v w : AV, splice (v :: bys sboxL) 0 [w] = w :: bys sboxL := fun v w => by rw [splice_zero, splice_nil]
    by_cases hlt : q < N
    · have hch : List.take 16 (List.drop (q * 16) (bys E)) = bys (keyAt E q) := keyAt_bys E q
      have hcl : (keyAt E q).length = 16 := keyAt_len (n := N) (by omega) hlt
      have hnx : q * 16 + 16 = (q + 1) * 16 := by omega
      have hny : N * 16 - q * 16 - 16 = N * 16 - (q + 1) * 16 := by omega
      have htk : E.take ((q + 1) * 16) = E.take (q * 16) ++ keyAt E q := by rw [← hnx, List.take_add]; rfl
      rcases hc with ⟨rfl, oc⟩ | ⟨h0, oc, ok, hkb, hkp⟩
      · have hg := appS_nils1 (m := m2) (size := 16) (bytes := 16) (l2 := bys (keyAt E 0)) (by simpa using hcl) (by omega)
        have ocA := fun e => own_app oc e
        have hsA := fun e b => set_app hlc e b
        have hch0 : List.take 16 (bys E) = bys (keyAt E 0) := by simpa using hch
        simp -implicitDefEqProofs (disch := (first | omega | (simp only [lenB, sboxL_len, exW_len] <;> omega) | fail)) only [admQ, lenB, sboxL_len, exW_len, aFill, AK.cls, implies_true, ↓reduceIte, reduceCtorEq, if_true, if_false, Nat.reduceAdd, Nat.reduceEqDiff, Nat.reduceMod, Nat.reduceLT, Nat.reduceLeDiff, Nat.reduceSub, Nat.reduceMul, Nat.reduceBEq, Int.reduceAdd, Int.reduceSub, Int.reduceMul, Int.reduceNeg, Int.reduceLT, Int.reduceLE, Int.reduceToNat, Int.reduceEq, Int.reduceBEq, rowOf_own oc, rowOf_own ob, hch0, hg, hsw, ocA, rowOf_own (ocA _), hsA]
        refine hX2 (1, m2.length + 1) _ _ rfl (by simp; omega) ⟨by simp; omega, ?_, ?_, .inr ⟨by simp, ?_, ?_, by simp; omega, by simp; omega⟩⟩
        · exact (hk2.write (.inr hm1) _).more_app _
        · exact own_app (own_set_ne' ob (by omega) _) _
        · exact own_app (own_set hlc _) _
        · simp -implicitDefEqProofs (disch := (first | omega | (simp only [lenB, sboxL_len, exW_len] <;> omega) | fail)) only [admQ, lenB, sboxL_len, exW_len, aFill, AK.cls, implies_true, ↓reduceIte, reduceCtorEq, if_true, if_false, Nat.reduceAdd, Nat.reduceEqDiff, Nat.reduceMod, Nat.reduceLT, Nat.reduceLeDiff, Nat.reduceSub, Nat.reduceMul, Nat.reduceBEq, Int.reduceAdd, Int.reduceSub, Int.reduceMul, Int.reduceNeg, Int.reduceLT, Int.reduceLE, Int.reduceToNat, Int.reduceEq, Int.reduceBEq]
          simp [keyAt]
      · have hkl := own_lt ok
        have hg := appS_grow1 (m := m2) (b := kb) (n := q) (size := 16) (bytes := 16) (l := bys (E.take (q * 16))) (l2 := bys (keyAt E q)) ok (by simp; omega) (by omega) (by simpa using hcl) (by omega)
        have ocA := fun e => own_app (own_set_ne' oc (show kb ≠ m1.length by omega) .dead) e
        have ocB := fun e => own_app oc e
        have hsA := fun e b => set_app (m := m2.set kb .dead) (by simpa using hlc) e b
        simp -implicitDefEqProofs (disch := (first | omega | (simp only [lenB, sboxL_len, exW_len] <;> omega) | fail)) only [admQ, lenB, sboxL_len, exW_len, aFill, AK.cls, implies_true, ↓reduceIte, reduceCtorEq, if_true, if_false, Nat.reduceAdd, Nat.reduceEqDiff, Nat.reduceMod, Nat.reduceLT, Nat.reduceLeDiff, Nat.reduceSub, Nat.reduceMul, Nat.reduceBEq, Int.reduceAdd, Int.reduceSub, Int.reduceMul, Int.reduceNeg, Int.reduceLT, Int.reduceLE, Int.reduceToNat, Int.reduceEq, Int.reduceBEq, rowOf_own oc, rowOf_own ob, hch, hg, hsw, ocA, rowOf_own (ocA _), hsA, rowOf_own (ocB _), hnx, hny]
        refine hX2 (q + 1, m2.length + 1) _ _ rfl (by simp; omega) ⟨by simp; omega, ?_, ?_, .inr ⟨by simp, ?_, ?_, by simp; omega, by simp; omega⟩⟩
        · exact ((hk2.write (.inr (by omega)) _).write (.inr hm1) _).more_app _
        · exact own_app (own_set_ne' (own_set_ne' ob hkp _) (by omega) _) _
        · exact own_app (own_set (by simpa using hlc) _) _
        · simp -implicitDefEqProofs (disch := (first | omega | (simp only [lenB, sboxL_len, exW_len] <;> omega) | fail)) only [admQ, lenB, sboxL_len, exW_len, aFill, AK.cls, implies_true, ↓reduceIte, reduceCtorEq, if_true, if_false, Nat.reduceAdd, Nat.reduceEqDiff, Nat.reduceMod, Nat.reduceLT, Nat.reduceLeDiff, Nat.reduceSub, Nat.reduceMul, Nat.reduceBEq, Int.reduceAdd, Int.reduceSub, Int.reduceMul, Int.reduceNeg, Int.reduceLT, Int.reduceLE, Int.reduceToNat, Int.reduceEq, Int.reduceBEq, htk, List.map_append]
    · obtain rfl : q = N := by omega
      rcases hc with ⟨rfl, oc⟩ | ⟨h0, oc, ok, hkb, hkp⟩
      · omega
      · simp -implicitDefEqProofs (disch := (first | omega | (simp only [lenB, sboxL_len, exW_len] <;> omega) | fail)) only [admQ, lenB, sboxL_len, exW_len, aFill, AK.cls, implies_true, ↓reduceIte, reduceCtorEq, if_true, if_false, Nat.reduceAdd, Nat.reduceEqDiff, Nat.reduceMod, Nat.reduceLT, Nat.reduceLeDiff, Nat.reduceSub, Nat.reduceMul, Nat.reduceBEq, Int.reduceAdd, Int.reduceSub, Int.reduceMul, Int.reduceNeg, Int.reduceLT, Int.reduceLE, Int.reduceToNat, Int.reduceEq, Int.reduceBEq]
        refine ⟨m1.length, kb, rfl, hk2, hm1, by omega, ?_⟩
        rw [hEe, hNn]
        exact ⟨rowOf_own oc, by rw [List.take_of_length_le (by omega)] at ok; exact rowOf_own ok, hB, hN2⟩
theorem ans_new {m : Mem} {x : AV} {key : List B8} (hx : RdB m x key) (hk : keyOk key.length) : Ans Tryd.prog 19 [x] m fun r m' =>
    ∃ c kb, r = .tup [.ptr c 0, .int .i64 0] ∧ Kept [] m m' ∧ m.length ≤ c ∧ m.length ≤ kb ∧ Ciph m' c kb (key.length / 4 + 7) (expand key) := by
  refine ans_ret mixed ok19 ?_
  have hlen : key.length = 16 ∨ key.length = 24 ∨ key.length = 32 := hk
  have e16 : key.length = 16 → ((key.length : Int) == 16) = true := fun h => by rw [h]; rfl
  have e24 : key.length = 24 → ((key.length : Int) == 16) = false ∧ ((key.length : Int) == 24) = true := fun h => by rw [h]; exact ⟨rfl, rfl⟩
  have e32 : key.length = 32 → ((key.length : Int) == 16) = false ∧ ((key.length : Int) == 24) = false ∧ ((key.length : Int) == 32) = true := fun h => by rw [h]; exact ⟨rfl, rfl, rfl⟩
  rcases hlen with h | h | h
  · rw [newCode]
    simp -implicitDefEqProofs (disch := (first | omega | (simp only [lenB, sboxL_len, exW_len] <;> omega) | fail)) only [admQ, lenB, sboxL_len, exW_len, aFill, AK.cls, implies_true, ↓reduceIte, reduceCtorEq, if_true, if_false, Nat.reduceAdd, Nat.reduceEqDiff, Nat.reduceMod, Nat.reduceLT, Nat.reduceLeDiff, Nat.reduceSub, Nat.reduceMul, Nat.reduceBEq, Int.reduceAdd, Int.reduceSub, Int.reduceMul, Int.reduceNeg, Int.reduceLT, Int.reduceLE, Int.reduceToNat, Int.reduceEq, Int.reduceBEq, hdC, tlC, c19, hx.len, e16 h]
    exact ans_new_go hx hk
  · rw [newCode]
    simp -implicitDefEqProofs (disch := (first | omega | (simp only [lenB, sboxL_len, exW_len] <;> omega) | fail)) only [admQ, lenB, sboxL_len, exW_len, aFill, AK.cls, implies_true, ↓reduceIte, reduceCtorEq, if_true, if_false, Nat.reduceAdd, Nat.reduceEqDiff, Nat.reduceMod, Nat.reduceLT, Nat.reduceLeDiff, Nat.reduceSub, Nat.reduceMul, Nat.reduceBEq, Int.reduceAdd, Int.reduceSub, Int.reduceMul, Int.reduceNeg, Int.reduceLT, Int.reduceLE, Int.reduceToNat, Int.reduceEq, Int.reduceBEq, hdC, tlC, c19, hx.len, e24 h]
    exact ans_new_go hx hk
  · rw [newCode]
    simp -implicitDefEqProofs (disch := (first | omega | (simp only [lenB, sboxL_len, exW_len] <;> omega) | fail)) only [admQ, lenB, sboxL_len, exW_len, aFill, AK.cls, implies_true, ↓reduceIte, reduceCtorEq, if_true, if_false, Nat.reduceAdd, Nat.reduceEqDiff, Nat.reduceMod, Nat.reduceLT, Nat.reduceLeDiff, Nat.reduceSub, Nat.reduceMul, Nat.reduceBEq, Int.reduceAdd, Int.reduceSub, Int.reduceMul, Int.reduceNeg, Int.reduceLT, Int.reduceLE, Int.reduceToNat, Int.reduceEq, Int.reduceBEq, hdC, tlC, c19, hx.len, e32 h]
    exact ans_new_go hx hk
end Go.Proofs.YtmnlmjlmbceimaaDoor
end
section
/- Bytes turned by a stream: what the program's functions answer. -/
namespace Go.Proofs.YtmnlmjlmbceimaaDoor
open Go Go.Adm
set_option linter.unusedSimpArgs false
set_option maxRecDepth 100000
theorem blkB_len (ks : List B8) (n : Nat) (s : List B8) : (blockB ks n s).length = 16 := runB_len _ _ _ _
def ctrIn (e n j : Nat) : List B8 := lowB e 6 ++ lowB n 6 ++ lowB j 4
theorem ctrIn_len (e n j : Nat) : (ctrIn e n j).length = 16 := by simp [ctrIn, lowB_len]
def ksB (E : List B8) (N e n j : Nat) : List B8 := blockB E N (ctrIn e n j)
theorem ksB_len (E : List B8) (N e n j : Nat) : (ksB E N e n j).length = 16 := blkB_len _ _ _
def ksAt (E : List B8) (N e n k : Nat) : B8 := gb (ksB E N e n (k / 16)) (k % 16)
def xorB (E : List B8) (N e n : Nat) (b : List B8) : List B8 := tab b.length fun i => gb b i ^^^ ksAt E N e n i
theorem xorB_len (E : List B8) (N e n : Nat) (b : List B8) : (xorB E N e n b).length = b.length := tab_len _ _
theorem ans_ctrput {m : Mem} {p o n cap s v : Nat} {X : List B8} (hp : own m p = some (bys X)) (ho : o + n ≤ X.length) (hn : n ≤ 8) (hv : v < 18446744073709551616) :
    Ans Tryd.prog 64 [.sl p o n cap s, .int .u64 v] m fun r m' => r = .tup [] ∧ m' = m.set p (.row (bys (putUp X o n v n)) false) := by
  refine ans_ret mixed ok64 ?_
  simp -implicitDefEqProofs (disch := (first | omega | (simp only [lenB, lowB_len, putUp_len, ctrIn_len, ksB_len, blkB_len] <;> omega) | fail)) only [admQ, lenB, lowB_len, putUp_len, ctrIn_len, ksB_len, blkB_len, aFill, AK.cls, implies_true, ↓reduceIte, reduceCtorEq, if_true, if_false, Nat.reduceAdd, Nat.reduceEqDiff, Nat.reduceMod, Nat.reduceLT, Nat.reduceLeDiff, Nat.reduceSub, Nat.reduceMul, Nat.reduceBEq, Int.reduceAdd, Int.reduceSub, Int.reduceMul, Int.reduceNeg, Int.reduceLT, Int.reduceLE, Int.reduceToNat, Int.reduceEq, Int.reduceBEq, c64, r64]
  refine LoopW.on (fun i : Nat => [(0, .sl p o n cap s), (1, .int .u64 v), (6, .int .i64 n), (7, .int .i64 i)]) (fun i => n - i) (fun i m' => i ≤ n ∧ m' = m.set p (.row (bys (putUp X o n v i)) false)) ?_ 0 _ _ rfl ⟨by omega, by rw [putUp_zero, set_same hp]⟩
  rintro i m' Y ⟨hi, rfl⟩ hY
  have ho' := own_set (own_lt hp) (bys (putUp X o n v i))
  by_cases hlt : i < n
  · have hu := putUp_set (X := X) (o := o) (n := n) (v := v) (i := i) (by omega)
    have hw : IntKind.u8.wrap ((v >>> (8 * (n - 1 - i)) : Nat) : Int) = ((byV v (n - 1 - i)).toNat : Int) := wrap_u8 _
    simp -implicitDefEqProofs (disch := (first | omega | (simp only [lenB, lowB_len, putUp_len, ctrIn_len, ksB_len, blkB_len] <;> omega) | fail)) only [admQ, lenB, lowB_len, putUp_len, ctrIn_len, ksB_len, blkB_len, aFill, AK.cls, implies_true, ↓reduceIte, reduceCtorEq, if_true, if_false, Nat.reduceAdd, Nat.reduceEqDiff, Nat.reduceMod, Nat.reduceLT, Nat.reduceLeDiff, Nat.reduceSub, Nat.reduceMul, Nat.reduceBEq, Int.reduceAdd, Int.reduceSub, Int.reduceMul, Int.reduceNeg, Int.reduceLT, Int.reduceLE, Int.reduceToNat, Int.reduceEq, Int.reduceBEq, ho', fdiv_nat, hw, splice_byte, hu, List.set_set]
    exact hY (i + 1) _ _ rfl (by omega) ⟨by omega, rfl⟩
  · obtain rfl : i = n := by omega
    simp -implicitDefEqProofs (disch := (first | omega | (simp only [lenB, lowB_len, putUp_len, ctrIn_len, ksB_len, blkB_len] <;> omega) | fail)) only [admQ, lenB, lowB_len, putUp_len, ctrIn_len, ksB_len, blkB_len, aFill, AK.cls, implies_true, ↓reduceIte, reduceCtorEq, if_true, if_false, Nat.reduceAdd, Nat.reduceEqDiff, Nat.reduceMod, Nat.reduceLT, Nat.reduceLeDiff, Nat.reduceSub, Nat.reduceMul, Nat.reduceBEq, Int.reduceAdd, Int.reduceSub, Int.reduceMul, Int.reduceNeg, Int.reduceLT, Int.reduceLE, Int.reduceToNat, Int.reduceEq, Int.reduceBEq]
/-- A stream that has told k bytes. -/
structure Strm (m : Mem) (pa pi pb pc po c kb N : Nat) (E : List B8) (e n k : Nat) : Prop where
  at_ : own m pa = some [.int .i64 ((if k % 16 = 0 then 16 else k % 16 : Nat) : Int)]
  blk : own m pb = some [.int .u64 (((k + 15) / 16 : Nat) : Int)]
  in_ : ∃ Z : List B8, Z.length = 4 ∧ own m pi = some (bys (lowB e 6 ++ lowB n 6 ++ Z))
  out : ∃ O : List B8, O.length = 16 ∧ own m po = some (bys O) ∧ (0 < k → O = ksB E N e n ((k - 1) / 16))
  cip : rowOf m pc = some [.ptr c 0]
  cpr : Ciph m c kb N E
  ne : pa ≠ pi ∧ pa ≠ pb ∧ pa ≠ po ∧ pi ≠ pb ∧ pi ≠ po ∧ pb ≠ po
  nc : pc ∉ [pa, pi, pb, po] ∧ c ∉ [pa, pi, pb, po] ∧ kb ∉ [pa, pi, pb, po]
theorem Strm.kept {X : List Nat} {m m' : Mem} {pa pi pb pc po c kb N : Nat} {E : List B8} {e n k : Nat} (h : Strm m pa pi pb pc po c kb N E e n k) (hk : Kept X m m') (hx : ∀ q ∈ X, q ≠ pa ∧ q ≠ pi ∧ q ≠ pb ∧ q ≠ pc ∧ q ≠ po ∧ q ≠ c ∧ q ≠ kb) :
    Strm m' pa pi pb pc po c kb N E e n k := by
  have nx : ∀ q, (q = pa ∨ q = pi ∨ q = pb ∨ q = pc ∨ q = po ∨ q = c ∨ q = kb) → q ∉ X := fun q hq hm => by
    have := hx q hm; rcases hq with h | h | h | h | h | h | h <;> simp_all
  obtain ⟨Z, hZ, hi⟩ := h.in_
  obtain ⟨O, hO, ho, hOk⟩ := h.out
  exact ⟨hk.own h.at_ (nx _ (by simp)), hk.own h.blk (nx _ (by simp)), ⟨Z, hZ, hk.own hi (nx _ (by simp))⟩, ⟨O, hO, hk.own ho (nx _ (by simp)), hOk⟩, hk.row h.cip (nx _ (by simp)),
    h.cpr.kept hk (nx _ (by simp)) (nx _ (by simp)), h.ne, h.nc⟩
theorem Strm.kept0 {m m' : Mem} {pa pi pb pc po c kb N : Nat} {E : List B8} {e n k : Nat} (h : Strm m pa pi pb pc po c kb N E e n k) (hk : Kept [] m m') : Strm m' pa pi pb pc po c kb N E e n k := h.kept hk (by simp)
theorem ne_own {p q : Nat} (h : p ≠ q) : (∀ m b, own (List.set m p b) q = own m q) ∧ (∀ m b, rowOf (List.set m p b) q = rowOf m q) ∧ (∀ m b, own (List.set m q b) p = own m p) ∧ (∀ m b, rowOf (List.set m q b) p = rowOf m p) :=
  ⟨fun _ b => own_set_ne h b, fun _ b => rowOf_set_ne h b, fun _ b => own_set_ne (Ne.symm h) b, fun _ b => rowOf_set_ne (Ne.symm h) b⟩
theorem ans_ctrnext {m : Mem} {pa pi pb pc po c kb N : Nat} {E : List B8} {e n k : Nat} (h : Strm m pa pi pb pc po c kb N E e n k) (hk : k < 1000000) :
    Ans Tryd.prog 65 [.ptr pa 0, .ptr pi 0, .ptr pb 0, .ptr pc 0, .ptr po 0] m fun r m' => r = b8 (ksAt E N e n k) ∧ Kept [pa, pi, pb, po] m m' ∧ Strm m' pa pi pb pc po c kb N E e n (k + 1) := by
  refine ans_ret mixed ok65 ?_
  obtain ⟨Z, hZ, hi⟩ := h.in_
  obtain ⟨O, hO, ho, hOk⟩ := h.out
  have ha := h.at_
  have hb := h.blk
  obtain ⟨q1, q2, q3, q4, q5, q6⟩ := h.ne
  have hnc := h.nc
  simp only [List.mem_cons, List.not_mem_nil, or_false, not_or] at hnc
  obtain ⟨⟨n1, n2, n3, n4⟩, ⟨n5, n6, n7, n8⟩, ⟨n9, n10, n11, n12⟩⟩ := hnc
  have s1 := ne_own q1
  have s2 := ne_own q2
  have s3 := ne_own q3
  have s4 := ne_own q4
  have s5 := ne_own q5
  have s6 := ne_own q6
  have t1 := ne_own n1
  have t2 := ne_own n2
  have t3 := ne_own n3
  have t4 := ne_own n4
  replace q1 : Unit → _ := fun _ => q1
  replace q2 : Unit → _ := fun _ => q2
  replace q3 : Unit → _ := fun _ => q3
  replace q4 : Unit → _ := fun _ => q4
  replace q5 : Unit → _ := fun _ => q5
  replace q6 : Unit → _ := fun _ => q6
  replace n1 : Unit → _ := fun _ => n1
  replace n2 : Unit → _ := fun _ => n2
  replace n3 : Unit → _ := fun _ => n3
  replace n4 : Unit → _ := fun _ => n4
  replace n5 : Unit → _ := fun _ => n5
  replace n6 : Unit → _ := fun _ => n6
  replace n7 : Unit → _ := fun _ => n7
  replace n8 : Unit → _ := fun _ => n8
  replace n9 : Unit → _ := fun _ => n9
  replace n10 : Unit → _ := fun _ => n10
  replace n11 : Unit → _ := fun _ => n11
  replace n12 : Unit → _ := fun _ => n12
  by_cases hz : k % 16 = 0
  · rw [if_pos hz] at ha
    have hla := own_lt ha
    have hlb := own_lt hb
    have hli := own_lt hi
    have hlo := own_lt ho
    have hput := putUp_all (a := lowB e 6 ++ lowB n 6) (b := Z) (c := []) (o := 12) (n := 4) (v := (k + 15) / 16) (by simp [lowB_len]) hZ
    rw [List.append_nil, List.append_nil, show (k + 15) / 16 = k / 16 by omega] at hput
    have hin : lowB e 6 ++ lowB n 6 ++ lowB (k / 16) 4 = ctrIn e n (k / 16) := rfl
    rw [hin] at hput
    rw [show (k + 15) / 16 = k / 16 by omega] at hb
    simp -implicitDefEqProofs (disch := (first | omega | (simp only [lenB, lowB_len, putUp_len, ctrIn_len, ksB_len, blkB_len] <;> omega) | fail)) only [admQ, lenB, lowB_len, putUp_len, ctrIn_len, ksB_len, blkB_len, aFill, AK.cls, implies_true, ↓reduceIte, reduceCtorEq, if_true, if_false, Nat.reduceAdd, Nat.reduceEqDiff, Nat.reduceMod, Nat.reduceLT, Nat.reduceLeDiff, Nat.reduceSub, Nat.reduceMul, Nat.reduceBEq, Int.reduceAdd, Int.reduceSub, Int.reduceMul, Int.reduceNeg, Int.reduceLT, Int.reduceLE, Int.reduceToNat, Int.reduceEq, Int.reduceBEq, c65, r65, rowOf_own ha, rowOf_own hb]
    refine (ans_ctrput (p := pi) (o := 12) (n := 4) hi (by simp [lowB_len, hZ]) (by omega) (by omega)).mono ?_
    rintro _ m1 ⟨rfl, hm1⟩
    rw [hput] at hm1
    have hk1 : Kept [pi] m m1 := by rw [hm1]; exact .set1 _ _ _
    have hi1 : own m1 pi = some (bys (ctrIn e n (k / 16))) := by rw [hm1]; exact own_set hli _
    have ha1 := hk1.own ha (by simp [q1 ()])
    have hb1 := hk1.own hb (by simpa using Ne.symm (q4 ()))
    have ho1 := hk1.own ho (by simpa using Ne.symm (q5 ()))
    have hc1 := hk1.row h.cip (by simp [n2 ()])
    have hp1 := h.cpr.kept hk1 (by simp [n6 ()]) (by simp [n10 ()])
    clear hm1
    simp -implicitDefEqProofs (disch := (first | omega | (simp only [lenB, lowB_len, putUp_len, ctrIn_len, ksB_len, blkB_len] <;> omega) | fail)) only [admQ, lenB, lowB_len, putUp_len, ctrIn_len, ksB_len, blkB_len, aFill, AK.cls, implies_true, ↓reduceIte, reduceCtorEq, if_true, if_false, Nat.reduceAdd, Nat.reduceEqDiff, Nat.reduceMod, Nat.reduceLT, Nat.reduceLeDiff, Nat.reduceSub, Nat.reduceMul, Nat.reduceBEq, Int.reduceAdd, Int.reduceSub, Int.reduceMul, Int.reduceNeg, Int.reduceLT, Int.reduceLE, Int.reduceToNat, Int.reduceEq, Int.reduceBEq, rowOf_own ha1, rowOf_own hb1, hc1, rowOf_own hi1, ha1, hb1]
    refine (ans_block hp1 _ (ctrIn_len _ _ _)).mono ?_
    rintro _ m2 ⟨rfl, hk2⟩
    rw [show blockB E N (ctrIn e n (k / 16)) = ksB E N e n (k / 16) from rfl]
    have ha2 := hk2.own0 ha1
    have hb2 := hk2.own0 hb1
    have ho2 := hk2.own0 ho1
    have hi2 := hk2.own0 hi1
    have hc2 := hk2.row0 hc1
    have hp2 := hp1.kept hk2 (by simp) (by simp)
    have hla2 := own_lt ha2
    have hlb2 := own_lt hb2
    have hlo2 := own_lt ho2
    generalize hKB : ksB E N e n (k / 16) = KB
    have hKl : KB.length = 16 := by rw [← hKB]; exact ksB_len _ _ _ _ _
    simp -implicitDefEqProofs (disch := (first | omega | (simp only [lenB, lowB_len, putUp_len, ctrIn_len, ksB_len, blkB_len] <;> omega) | fail)) only [admQ, lenB, lowB_len, putUp_len, ctrIn_len, ksB_len, blkB_len, aFill, AK.cls, implies_true, ↓reduceIte, reduceCtorEq, if_true, if_false, Nat.reduceAdd, Nat.reduceEqDiff, Nat.reduceMod, Nat.reduceLT, Nat.reduceLeDiff, Nat.reduceSub, Nat.reduceMul, Nat.reduceBEq, Int.reduceAdd, Int.reduceSub, Int.reduceMul, Int.reduceNeg, Int.reduceLT, Int.reduceLE, Int.reduceToNat, Int.reduceEq, Int.reduceBEq, own_set, rowOf_set, s1, s2, s3, s4, s5, s6, ha2, hb2, ho2, rowOf_own ha2, rowOf_own hb2, hKl, wrap_u64]
    have hks : Kept [pa, pb, po] m2 ((((m2.set po (.row (bys KB) false)).set pa (.row [.int .i64 0] false)).set pb (.row [.int .u64 ((k / 16 + 1 : Nat) : Int)] false)).set pa (.row [.int .i64 1] false)) :=
      ((((Kept.refl _ _).write (.inl (by simp)) _).write (.inl (by simp)) _).write (.inl (by simp)) _).write (.inl (by simp)) _
    refine ⟨?_, ((hk1.more (Y := [pa, pi, pb, po]) (by simp)).trans hk2.any).trans (hks.more (by simp)), ?_⟩
    · rw [ksAt, hKB, hz]
    · constructor
      · rw [own_set (by simpa using hla2), if_neg (by omega), show (k + 1) % 16 = 1 by omega]; rfl
      · rw [s2.1, own_set (by simpa using hlb2), show (k + 1 + 15) / 16 = k / 16 + 1 by omega]
      · exact ⟨lowB (k / 16) 4, lowB_len _ _, by rw [s1.1, s4.2.2.1, s1.1, s5.2.2.1]; exact hi2⟩
      · exact ⟨KB, hKl, by rw [s3.1, s6.1, s3.1, own_set hlo2], fun _ => by rw [← hKB, show (k + 1 - 1) / 16 = k / 16 by omega]⟩
      · exact hks.row hc2 (by simp [n1 (), n3 (), n4 ()])
      · exact hp2.kept hks (by simp [n5 (), n7 (), n8 ()]) (by simp [n9 (), n11 (), n12 ()])
      · exact h.ne
      · exact h.nc
  · rw [if_neg hz] at ha
    have hne16 : (((k % 16 : Nat) : Int) == 16) = false := beq_eq_false_iff_ne.mpr (by omega)
    have hla := own_lt ha
    simp -implicitDefEqProofs (disch := (first | omega | (simp only [lenB, lowB_len, putUp_len, ctrIn_len, ksB_len, blkB_len] <;> omega) | fail)) only [admQ, lenB, lowB_len, putUp_len, ctrIn_len, ksB_len, blkB_len, aFill, AK.cls, implies_true, ↓reduceIte, reduceCtorEq, if_true, if_false, Nat.reduceAdd, Nat.reduceEqDiff, Nat.reduceMod, Nat.reduceLT, Nat.reduceLeDiff, Nat.reduceSub, Nat.reduceMul, Nat.reduceBEq, Int.reduceAdd, Int.reduceSub, Int.reduceMul, Int.reduceNeg, Int.reduceLT, Int.reduceLE, Int.reduceToNat, Int.reduceEq, Int.reduceBEq, c65, r65, ha, rowOf_own ha, rowOf_own hb, hne16, own_set, rowOf_set, s1, s2, s3, Nat.add_sub_cancel, rowOf_own ho]
    have hO' := hOk (by omega)
    have hks : Kept [pa] m (m.set pa (.row [.int .i64 ((k % 16 + 1 : Nat) : Int)] false)) := .set1 _ _ _
    refine ⟨?_, hks.more (by simp), ?_⟩
    · rw [ksAt, hO', show (k - 1) / 16 = k / 16 by omega]
    · constructor
      · rw [own_set hla]
        by_cases h1 : (k + 1) % 16 = 0
        · rw [if_pos h1, show k % 16 + 1 = 16 by omega]
        · rw [if_neg h1, show k % 16 + 1 = (k + 1) % 16 by omega]
      · rw [s2.1, hb, show (k + 15) / 16 = (k + 1 + 15) / 16 by omega]
      · exact ⟨Z, hZ, by rw [s1.1]; exact hi⟩
      · exact ⟨O, hO, by rw [s3.1]; exact ho, fun _ => by rw [hO', show (k - 1) / 16 = (k + 1 - 1) / 16 by omega]⟩
      · rw [rowOf_set_ne (Ne.symm (n1 ()))]; exact h.cip
      · exact h.cpr.kept hks (by simp [n5 ()]) (by simp [n9 ()])
      · exact h.ne
      · exact h.nc
theorem ans_ctrstream {m : Mem} {c kb N : Nat} {E : List B8} (hc : Ciph m c kb N E) (e n : Int) : Ans Tryd.prog 63 [.ptr c 0, .int .i64 e, .int .i64 n] m fun r m' =>
    ∃ pa pi pb pc po, r = .fn (.func 65) [] [.ptr pa 0, .ptr pi 0, .ptr pb 0, .ptr pc 0, .ptr po 0] ∧ Kept [] m m' ∧ (m.length ≤ pa ∧ m.length ≤ pi ∧ m.length ≤ pb ∧ m.length ≤ po) ∧ Strm m' pa pi pb pc po c kb N E (e64 e) (e64 n) 0 := by
  refine ans_ret mixed ok63 ?_
  have he := e64_lt e
  have hn := e64_lt n
  simp -implicitDefEqProofs (disch := (first | omega | (simp only [lenB, lowB_len, putUp_len, ctrIn_len, ksB_len, blkB_len] <;> omega) | fail)) only [admQ, lenB, lowB_len, putUp_len, ctrIn_len, ksB_len, blkB_len, aFill, AK.cls, implies_true, ↓reduceIte, reduceCtorEq, if_true, if_false, Nat.reduceAdd, Nat.reduceEqDiff, Nat.reduceMod, Nat.reduceLT, Nat.reduceLeDiff, Nat.reduceSub, Nat.reduceMul, Nat.reduceBEq, Int.reduceAdd, Int.reduceSub, Int.reduceMul, Int.reduceNeg, Int.reduceLT, Int.reduceLE, Int.reduceToNat, Int.reduceEq, Int.reduceBEq, c63, r63, e64_wrap]
  have z16 : List.replicate 16 0#8 = List.replicate 6 0#8 ++ List.replicate 10 0#8 := rfl
  refine (ans_ctrput (p := m.length + 1) (o := 0) (n := 6) (X := List.replicate 16 0#8) (by simp -implicitDefEqProofs (disch := (first | omega | (simp only [lenB, lowB_len, putUp_len, ctrIn_len, ksB_len, blkB_len] <;> omega) | fail)) only [admQ, lenB, lowB_len, putUp_len, ctrIn_len, ksB_len, blkB_len, aFill, AK.cls, implies_true, ↓reduceIte, reduceCtorEq, if_true, if_false, Nat.reduceAdd, Nat.reduceEqDiff, Nat.reduceMod, Nat.reduceLT, Nat.reduceLeDiff, Nat.reduceSub, Nat.reduceMul, Nat.reduceBEq, Int.reduceAdd, Int.reduceSub, Int.reduceMul, Int.reduceNeg, Int.reduceLT, Int.reduceLE, Int.reduceToNat, Int.reduceEq, Int.reduceBEq]) (by simp) (by omega) he).mono ?_
  rintro _ m1 ⟨rfl, hm1⟩
  have h1 := putUp_all (a := []) (b := List.replicate 6 0#8) (c := List.replicate 10 0#8) (o := 0) (n := 6) (v := e64 e) rfl (by simp)
  rw [List.nil_append, List.nil_append, ← z16] at h1
  rw [h1] at hm1
  subst hm1
  simp -implicitDefEqProofs (disch := (first | omega | (simp only [lenB, lowB_len, putUp_len, ctrIn_len, ksB_len, blkB_len] <;> omega) | fail)) only [admQ, lenB, lowB_len, putUp_len, ctrIn_len, ksB_len, blkB_len, aFill, AK.cls, implies_true, ↓reduceIte, reduceCtorEq, if_true, if_false, Nat.reduceAdd, Nat.reduceEqDiff, Nat.reduceMod, Nat.reduceLT, Nat.reduceLeDiff, Nat.reduceSub, Nat.reduceMul, Nat.reduceBEq, Int.reduceAdd, Int.reduceSub, Int.reduceMul, Int.reduceNeg, Int.reduceLT, Int.reduceLE, Int.reduceToNat, Int.reduceEq, Int.reduceBEq, e64_wrap]
  have z10 : List.replicate 10 0#8 = List.replicate 6 0#8 ++ List.replicate 4 0#8 := rfl
  refine (ans_ctrput (p := m.length + 1) (o := 6) (n := 6) (X := lowB (e64 e) 6 ++ List.replicate 10 0#8) (by simp -implicitDefEqProofs (disch := (first | omega | (simp only [lenB, lowB_len, putUp_len, ctrIn_len, ksB_len, blkB_len] <;> omega) | fail)) only [admQ, lenB, lowB_len, putUp_len, ctrIn_len, ksB_len, blkB_len, aFill, AK.cls, implies_true, ↓reduceIte, reduceCtorEq, if_true, if_false, Nat.reduceAdd, Nat.reduceEqDiff, Nat.reduceMod, Nat.reduceLT, Nat.reduceLeDiff, Nat.reduceSub, Nat.reduceMul, Nat.reduceBEq, Int.reduceAdd, Int.reduceSub, Int.reduceMul, Int.reduceNeg, Int.reduceLT, Int.reduceLE, Int.reduceToNat, Int.reduceEq, Int.reduceBEq]) (by simp [lowB_len]) (by omega) hn).mono ?_
  rintro _ m2 ⟨rfl, hm2⟩
  have h2 := putUp_all (a := lowB (e64 e) 6) (b := List.replicate 6 0#8) (c := List.replicate 4 0#8) (o := 6) (n := 6) (v := e64 n) (lowB_len _ _) (by simp)
  rw [List.append_assoc, ← z10] at h2
  rw [h2] at hm2
  subst hm2
  simp -implicitDefEqProofs (disch := (first | omega | (simp only [lenB, lowB_len, putUp_len, ctrIn_len, ksB_len, blkB_len] <;> omega) | fail)) only [admQ, lenB, lowB_len, putUp_len, ctrIn_len, ksB_len, blkB_len, aFill, AK.cls, implies_true, ↓reduceIte, reduceCtorEq, if_true, if_false, Nat.reduceAdd, Nat.reduceEqDiff, Nat.reduceMod, Nat.reduceLT, Nat.reduceLeDiff, Nat.reduceSub, Nat.reduceMul, Nat.reduceBEq, Int.reduceAdd, Int.reduceSub, Int.reduceMul, Int.reduceNeg, Int.reduceLT, Int.reduceLE, Int.reduceToNat, Int.reduceEq, Int.reduceBEq]
  refine ⟨m.length + 3, m.length + 1, m.length + 4, m.length, m.length + 2, rfl, .app _ _ _, ⟨by omega, by omega, by omega, by omega⟩, ?_⟩
  have hcl : c < m.length := rowOf_lt hc.hd
  have hkl : kb < m.length := rowOf_lt hc.keys
  constructor
  · simp -implicitDefEqProofs (disch := (first | omega | (simp only [lenB, lowB_len, putUp_len, ctrIn_len, ksB_len, blkB_len] <;> omega) | fail)) only [admQ, lenB, lowB_len, putUp_len, ctrIn_len, ksB_len, blkB_len, aFill, AK.cls, implies_true, ↓reduceIte, reduceCtorEq, if_true, if_false, Nat.reduceAdd, Nat.reduceEqDiff, Nat.reduceMod, Nat.reduceLT, Nat.reduceLeDiff, Nat.reduceSub, Nat.reduceMul, Nat.reduceBEq, Int.reduceAdd, Int.reduceSub, Int.reduceMul, Int.reduceNeg, Int.reduceLT, Int.reduceLE, Int.reduceToNat, Int.reduceEq, Int.reduceBEq]
  · simp -implicitDefEqProofs (disch := (first | omega | (simp only [lenB, lowB_len, putUp_len, ctrIn_len, ksB_len, blkB_len] <;> omega) | fail)) only [admQ, lenB, lowB_len, putUp_len, ctrIn_len, ksB_len, blkB_len, aFill, AK.cls, implies_true, ↓reduceIte, reduceCtorEq, if_true, if_false, Nat.reduceAdd, Nat.reduceEqDiff, Nat.reduceMod, Nat.reduceLT, Nat.reduceLeDiff, Nat.reduceSub, Nat.reduceMul, Nat.reduceBEq, Int.reduceAdd, Int.reduceSub, Int.reduceMul, Int.reduceNeg, Int.reduceLT, Int.reduceLE, Int.reduceToNat, Int.reduceEq, Int.reduceBEq]; rfl
  · exact ⟨List.replicate 4 0#8, by simp, by simp -implicitDefEqProofs (disch := (first | omega | (simp only [lenB, lowB_len, putUp_len, ctrIn_len, ksB_len, blkB_len] <;> omega) | fail)) only [admQ, lenB, lowB_len, putUp_len, ctrIn_len, ksB_len, blkB_len, aFill, AK.cls, implies_true, ↓reduceIte, reduceCtorEq, if_true, if_false, Nat.reduceAdd, Nat.reduceEqDiff, Nat.reduceMod, Nat.reduceLT, Nat.reduceLeDiff, Nat.reduceSub, Nat.reduceMul, Nat.reduceBEq, Int.reduceAdd, Int.reduceSub, Int.reduceMul, Int.reduceNeg, Int.reduceLT, Int.reduceLE, Int.reduceToNat, Int.reduceEq, Int.reduceBEq]⟩
  · exact ⟨List.replicate 16 0#8, by simp, by simp -implicitDefEqProofs (disch := (first | omega | (simp only [lenB, lowB_len, putUp_len, ctrIn_len, ksB_len, blkB_len] <;> omega) | fail)) only [admQ, lenB, lowB_len, putUp_len, ctrIn_len, ksB_len, blkB_len, aFill, AK.cls, implies_true, ↓reduceIte, reduceCtorEq, if_true, if_false, Nat.reduceAdd, Nat.reduceEqDiff, Nat.reduceMod, Nat.reduceLT, Nat.reduceLeDiff, Nat.reduceSub, Nat.reduceMul, Nat.reduceBEq, Int.reduceAdd, Int.reduceSub, Int.reduceMul, Int.reduceNeg, Int.reduceLT, Int.reduceLE, Int.reduceToNat, Int.reduceEq, Int.reduceBEq], fun h => by omega⟩
  · simp -implicitDefEqProofs (disch := (first | omega | (simp only [lenB, lowB_len, putUp_len, ctrIn_len, ksB_len, blkB_len] <;> omega) | fail)) only [admQ, lenB, lowB_len, putUp_len, ctrIn_len, ksB_len, blkB_len, aFill, AK.cls, implies_true, ↓reduceIte, reduceCtorEq, if_true, if_false, Nat.reduceAdd, Nat.reduceEqDiff, Nat.reduceMod, Nat.reduceLT, Nat.reduceLeDiff, Nat.reduceSub, Nat.reduceMul, Nat.reduceBEq, Int.reduceAdd, Int.reduceSub, Int.reduceMul, Int.reduceNeg, Int.reduceLT, Int.reduceLE, Int.reduceToNat, Int.reduceEq, Int.reduceBEq]
  · exact hc.app _
  · omega
  · refine ⟨?_, ?_, ?_⟩ <;> simp <;> omega
/-- Bytes turned by the program. -/
theorem ans_ctrxor {m : Mem} {c kb N : Nat} {E : List B8} (hc : Ciph m c kb N E) (e n : Int) {x : AV} {b : List B8} (hx : RdB m x b) (hb : b.length ≤ 100000) : Ans Tryd.prog 60 [.ptr c 0, .int .i64 e, .int .i64 n, x] m fun r m' =>
    ∃ p, r = .sl p 0 b.length b.length 0 ∧ Kept [] m m' ∧ m.length ≤ p ∧ own m' p = some (bys (xorB E N (e64 e) (e64 n) b)) := by
  refine ans_ret mixed ok60 ?_
  simp -implicitDefEqProofs (disch := (first | omega | (simp only [lenB, lowB_len, putUp_len, ctrIn_len, ksB_len, blkB_len] <;> omega) | fail)) only [admQ, lenB, lowB_len, putUp_len, ctrIn_len, ksB_len, blkB_len, aFill, AK.cls, implies_true, ↓reduceIte, reduceCtorEq, if_true, if_false, Nat.reduceAdd, Nat.reduceEqDiff, Nat.reduceMod, Nat.reduceLT, Nat.reduceLeDiff, Nat.reduceSub, Nat.reduceMul, Nat.reduceBEq, Int.reduceAdd, Int.reduceSub, Int.reduceMul, Int.reduceNeg, Int.reduceLT, Int.reduceLE, Int.reduceToNat, Int.reduceEq, Int.reduceBEq, c60, r60]
  refine (ans_ctrstream hc e n).mono ?_
  rintro _ m1 ⟨pa, pi, pb, pc, po, rfl, hk1, ⟨ha, hi, hbb, ho⟩, hs⟩
  have hmk : (0 : Int) ≤ (b.length : Int) ∧ (b.length : Int) ≤ (b.length : Int) ∧ (b.length : Int) * 1 ≤ 1099511627776 ∧ (b.length : Int) ≤ 1099511627776 := by omega
  have hr : rep b.length [AV.int .u8 0] = bys (List.replicate b.length 0#8) := by rw [← bys_rep]; simp [rep]
  simp -implicitDefEqProofs (disch := (first | omega | (simp only [lenB, lowB_len, putUp_len, ctrIn_len, ksB_len, blkB_len] <;> omega) | fail)) only [admQ, lenB, lowB_len, putUp_len, ctrIn_len, ksB_len, blkB_len, aFill, AK.cls, implies_true, ↓reduceIte, reduceCtorEq, if_true, if_false, Nat.reduceAdd, Nat.reduceEqDiff, Nat.reduceMod, Nat.reduceLT, Nat.reduceLeDiff, Nat.reduceSub, Nat.reduceMul, Nat.reduceBEq, Int.reduceAdd, Int.reduceSub, Int.reduceMul, Int.reduceNeg, Int.reduceLT, Int.reduceLE, Int.reduceToNat, Int.reduceEq, Int.reduceBEq, hx.len, hr]
  have hs0 := hs.kept0 (Kept.app [] m1 [.row (bys (List.replicate b.length 0#8)) false])
  have hk0 : Kept [] m (m1 ++ [.row (bys (List.replicate b.length 0#8)) false]) := hk1.more_app _
  have hml := hk1.len
  have hlt1 := own_lt hs.at_
  have hlt2 := own_lt hs.blk
  obtain ⟨Z, _, hZ⟩ := hs.in_
  obtain ⟨O, _, hO, _⟩ := hs.out
  have hlt3 := own_lt hZ
  have hlt4 := own_lt hO
  clear hZ hO
  have hlt5 := rowOf_lt hs.cip
  have hlt6 := rowOf_lt hs.cpr.hd
  have hlt7 := rowOf_lt hs.cpr.keys
  let f : Nat → B8 := fun i => gb b i ^^^ ksAt E N (e64 e) (e64 n) i
  refine LoopW.on (fun i : Nat => [(9, .fn (.func 65) [] [.ptr pa 0, .ptr pi 0, .ptr pb 0, .ptr pc 0, .ptr po 0]), (10, .sl m1.length 0 b.length b.length 0), (20, x), (21, .int .i64 b.length), (22, .int .i64 i)]) (fun i => b.length - i)
    (fun i m' => i ≤ b.length ∧ Kept [] m m' ∧ Strm m' pa pi pb pc po c kb N E (e64 e) (e64 n) i ∧ own m' m1.length = some (bys (upTo b.length f (fun _ => 0#8) i))) ?_ 0 _ _ rfl ⟨by omega, hk0, hs0, by rw [upTo_zero, tab_const]; simp -implicitDefEqProofs (disch := (first | omega | (simp only [lenB, lowB_len, putUp_len, ctrIn_len, ksB_len, blkB_len] <;> omega) | fail)) only [admQ, lenB, lowB_len, putUp_len, ctrIn_len, ksB_len, blkB_len, aFill, AK.cls, implies_true, ↓reduceIte, reduceCtorEq, if_true, if_false, Nat.reduceAdd, Nat.reduceEqDiff, Nat.reduceMod, Nat.reduceLT, Nat.reduceLeDiff, Nat.reduceSub, Nat.reduceMul, Nat.reduceBEq, Int.reduceAdd, Int.reduceSub, Int.reduceMul, Int.reduceNeg, Int.reduceLT, Int.reduceLE, Int.reduceToNat, Int.reduceEq, Int.reduceBEq]⟩
  clear hs hs0 hk0
  rintro i m2 X ⟨hil, hk2, hs2, hout⟩ hX
  have hol := own_lt hout
  by_cases hlt : i < b.length
  · obtain ⟨b1, o1, cap1, s1, d1, rfl, hr1, hg1, hl1, hc1, hss1, ht1⟩ := (hx.kept0 hk2).cons hlt
    have e1 := hg1 i hlt
    have hu : (upTo b.length f (fun _ => 0#8) i).set i (gb b i ^^^ ksAt E N (e64 e) (e64 n) i) = _ := upTo_set (f := f)
    clear_value f
    simp -implicitDefEqProofs (disch := (first | omega | (simp only [lenB, lowB_len, putUp_len, ctrIn_len, ksB_len, blkB_len] <;> omega) | fail)) only [admQ, lenB, lowB_len, putUp_len, ctrIn_len, ksB_len, blkB_len, aFill, AK.cls, implies_true, ↓reduceIte, reduceCtorEq, if_true, if_false, Nat.reduceAdd, Nat.reduceEqDiff, Nat.reduceMod, Nat.reduceLT, Nat.reduceLeDiff, Nat.reduceSub, Nat.reduceMul, Nat.reduceBEq, Int.reduceAdd, Int.reduceSub, Int.reduceMul, Int.reduceNeg, Int.reduceLT, Int.reduceLE, Int.reduceToNat, Int.reduceEq, Int.reduceBEq, hr1, e1]
    refine (ans_ctrnext hs2 (by omega)).mono ?_
    rintro _ m3 ⟨rfl, hk3, hs3⟩
    have hout3 := hk3.own hout (by simp; omega)
    have hol3 := own_lt hout3
    simp -implicitDefEqProofs (disch := (first | omega | (simp only [lenB, lowB_len, putUp_len, ctrIn_len, ksB_len, blkB_len] <;> omega) | fail)) only [admQ, lenB, lowB_len, putUp_len, ctrIn_len, ksB_len, blkB_len, aFill, AK.cls, implies_true, ↓reduceIte, reduceCtorEq, if_true, if_false, Nat.reduceAdd, Nat.reduceEqDiff, Nat.reduceMod, Nat.reduceLT, Nat.reduceLeDiff, Nat.reduceSub, Nat.reduceMul, Nat.reduceBEq, Int.reduceAdd, Int.reduceSub, Int.reduceMul, Int.reduceNeg, Int.reduceLT, Int.reduceLE, Int.reduceToNat, Int.reduceEq, Int.reduceBEq, hout3, splice_byte, hu]
    refine hX (i + 1) _ _ rfl (by omega) ⟨by omega, (hk2.fresh hk3 (by simp; omega)).write (.inr (by omega)) _, hs3.kept (Kept.set1 _ _ _) (by simp; omega), own_set hol3 _⟩
  · obtain rfl : i = b.length := by omega
    have hu : upTo b.length f (fun _ => 0#8) b.length = xorB E N (e64 e) (e64 n) b := upTo_all _ _ _
    simp -implicitDefEqProofs (disch := (first | omega | (simp only [lenB, lowB_len, putUp_len, ctrIn_len, ksB_len, blkB_len] <;> omega) | fail)) only [admQ, lenB, lowB_len, putUp_len, ctrIn_len, ksB_len, blkB_len, aFill, AK.cls, implies_true, ↓reduceIte, reduceCtorEq, if_true, if_false, Nat.reduceAdd, Nat.reduceEqDiff, Nat.reduceMod, Nat.reduceLT, Nat.reduceLeDiff, Nat.reduceSub, Nat.reduceMul, Nat.reduceBEq, Int.reduceAdd, Int.reduceSub, Int.reduceMul, Int.reduceNeg, Int.reduceLT, Int.reduceLE, Int.reduceToNat, Int.reduceEq, Int.reduceBEq]
    exact ⟨m1.length, rfl, hk2, hml, by rw [← hu]; exact hout⟩
end Go.Proofs.YtmnlmjlmbceimaaDoor
end
section
/- Digests, purely: words, rounds, blocks. -/
namespace Go.Proofs.YtmnlmjlmbceimaaDoor
open Go Go.Adm
set_option linter.unusedSimpArgs false
abbrev W32 := BitVec 32
def kT : List W32 := [0x428a2f98#32, 0x71374491#32, 0xb5c0fbcf#32, 0xe9b5dba5#32, 0x3956c25b#32, 0x59f111f1#32, 0x923f82a4#32, 0xab1c5ed5#32,
  0xd807aa98#32, 0x12835b01#32, 0x243185be#32, 0x550c7dc3#32, 0x72be5d74#32, 0x80deb1fe#32, 0x9bdc06a7#32, 0xc19bf174#32,
  0xe49b69c1#32, 0xefbe4786#32, 0x0fc19dc6#32, 0x240ca1cc#32, 0x2de92c6f#32, 0x4a7484aa#32, 0x5cb0a9dc#32, 0x76f988da#32,
  0x983e5152#32, 0xa831c66d#32, 0xb00327c8#32, 0xbf597fc7#32, 0xc6e00bf3#32, 0xd5a79147#32, 0x06ca6351#32, 0x14292967#32,
  0x27b70a85#32, 0x2e1b2138#32, 0x4d2c6dfc#32, 0x53380d13#32, 0x650a7354#32, 0x766a0abb#32, 0x81c2c92e#32, 0x92722c85#32,
  0xa2bfe8a1#32, 0xa81a664b#32, 0xc24b8b70#32, 0xc76c51a3#32, 0xd192e819#32, 0xd6990624#32, 0xf40e3585#32, 0x106aa070#32,
  0x19a4c116#32, 0x1e376c08#32, 0x2748774c#32, 0x34b0bcb5#32, 0x391c0cb3#32, 0x4ed8aa4a#32, 0x5b9cca4f#32, 0x682e6ff3#32,
  0x748f82ee#32, 0x78a5636f#32, 0x84c87814#32, 0x8cc70208#32, 0x90befffa#32, 0xa4506ceb#32, 0xbef9a3f7#32, 0xc67178f2#32]
def gw (l : List W32) (i : Nat) : W32 := l.getD i 0
theorem gw_get {l : List W32} {i : Nat} (h : i < l.length) : l[i]? = some (gw l i) := by simp [gw, h]
abbrev wds (l : List W32) : List AV := l.map b32
theorem wds_at {l : List W32} {i : Nat} (h : i < l.length) : (wds l)[i]? = some (b32 (gw l i)) := map_get (gw_get h)
def rotR (x : W32) (n : Nat) : W32 := x >>> n ||| x <<< (32 - n)
def wd0 (b : List B8) (t : Nat) : W32 := (gb b (4 * t)).setWidth 32 <<< 24 ||| (gb b (4 * t + 1)).setWidth 32 <<< 16 ||| (gb b (4 * t + 2)).setWidth 32 <<< 8 ||| (gb b (4 * t + 3)).setWidth 32
def wdN (w : List W32) (t : Nat) : W32 :=
  (rotR (gw w (t - 2)) 17 ^^^ rotR (gw w (t - 2)) 19 ^^^ gw w (t - 2) >>> 10) + gw w (t - 7) + (rotR (gw w (t - 15)) 7 ^^^ rotR (gw w (t - 15)) 18 ^^^ gw w (t - 15) >>> 3) + gw w (t - 16)
/-- The first n words of a block. -/
def wS (b : List B8) : Nat → List W32
  | 0 => []
  | n + 1 => wS b n ++ [if n < 16 then wd0 b n else wdN (wS b n) n]
theorem wS_len (b : List B8) : ∀ n, (wS b n).length = n := by
  intro n
  induction n with
  | zero => rfl
  | succ n ih => simp [wS, ih]
/-- A state: eight words. -/
structure S8 where
  a : W32
  b : W32
  c : W32
  d : W32
  e : W32
  f : W32
  g : W32
  h : W32
def S8.l (s : S8) : List W32 := [s.a, s.b, s.c, s.d, s.e, s.f, s.g, s.h]
def S8.cells (s : S8) : List AV := wds s.l
def S8.t1 (s : S8) (k w : W32) : W32 := s.h + (rotR s.e 6 ^^^ rotR s.e 11 ^^^ rotR s.e 25) + (s.e &&& s.f ^^^ ~~~s.e &&& s.g) + k + w
def S8.t2 (s : S8) : W32 := (rotR s.a 2 ^^^ rotR s.a 13 ^^^ rotR s.a 22) + (s.a &&& s.b ^^^ s.a &&& s.c ^^^ s.b &&& s.c)
def S8.rnd (s : S8) (k w : W32) : S8 := ⟨s.t1 k w + s.t2, s.a, s.b, s.c, s.d + s.t1 k w, s.e, s.f, s.g⟩
def S8.rnds (s : S8) (w : List W32) : Nat → S8
  | 0 => s
  | n + 1 => (s.rnds w n).rnd (gw kT n) (gw w n)
def S8.add (s r : S8) : S8 := ⟨s.a + r.a, s.b + r.b, s.c + r.c, s.d + r.d, s.e + r.e, s.f + r.f, s.g + r.g, s.h + r.h⟩
def S8.take (s : S8) (b : List B8) : S8 := s.add (s.rnds (wS b 64) 64)
def S8.first : S8 := ⟨0x6a09e667#32, 0xbb67ae85#32, 0x3c6ef372#32, 0xa54ff53a#32, 0x510e527f#32, 0x9b05688c#32, 0x1f83d9ab#32, 0x5be0cd19#32⟩
/-- A state behind n blocks of a text. -/
def S8.takes (s : S8) (b : List B8) : Nat → S8
  | 0 => s
  | n + 1 => (s.takes b n).take ((b.drop (64 * n)).take 64)
def S8.out (s : S8) : List B8 := tab 32 fun i => (gw s.l (i / 4) >>> (24 - 8 * (i % 4))).setWidth 8
theorem S8.out_len (s : S8) : s.out.length = 32 := tab_len _ _
/-- What stands behind a text of n bytes of which all whole blocks but r bytes are gone. -/
def padZ (n : Nat) : Nat := (119 - n % 64) % 64
def pad (n : Nat) : List B8 := 0x80#8 :: (List.replicate (padZ n) 0#8 ++ lowB (8 * n) 8)
theorem pad_len (n : Nat) : (pad n).length = padZ n + 9 := by simp [pad, lowB_len]
def shaB (m : List B8) : List B8 := (S8.first.takes (m ++ pad m.length) ((m.length + (pad m.length).length) / 64)).out
theorem shaB_len (m : List B8) : (shaB m).length = 32 := S8.out_len _
theorem takes_congr {s : S8} {b c : List B8} : ∀ n, (b.take (64 * n)) = (c.take (64 * n)) → s.takes b n = s.takes c n := by
  intro n
  induction n with
  | zero => intro _; rfl
  | succ n ih =>
    intro h
    have e1 : b.take (64 * n) = c.take (64 * n) := by
      have := congrArg (List.take (64 * n)) h
      simpa [List.take_take, Nat.min_eq_left (show 64 * n ≤ 64 * (n + 1) by omega)] using this
    have e2 : (b.drop (64 * n)).take 64 = (c.drop (64 * n)).take 64 := by
      have := congrArg (List.drop (64 * n)) h
      simpa [List.drop_take, show 64 * (n + 1) - 64 * n = 64 by omega] using this
    rw [S8.takes, S8.takes, ih e1, e2]
theorem takes_add (s : S8) (b : List B8) (p : Nat) : ∀ n, s.takes b (p + n) = (s.takes b p).takes (b.drop (64 * p)) n := by
  intro n
  induction n with
  | zero => rfl
  | succ n ih =>
    rw [Nat.add_succ, S8.takes, S8.takes, ih, List.drop_drop, show 64 * p + 64 * n = 64 * (p + n) by omega]
end Go.Proofs.YtmnlmjlmbceimaaDoor
end
section
/- Digests: how the program turns a word, and takes a block. -/
namespace Go.Proofs.YtmnlmjlmbceimaaDoor
open Go Go.Adm
set_option linter.unusedSimpArgs false
set_option linter.defProp false
set_option maxRecDepth 100000
theorem not_u32 {a : BitVec 32} : IntKind.u32.wrap (((BitVec.ofInt IntKind.u32.bits (if IntKind.u32.signed = true then -1 else IntKind.u32.max)) ^^^ (BitVec.ofInt IntKind.u32.bits (a.toNat : Int))).toNat : Int) = ((~~~a).toNat : Int) := by
  have e : (if IntKind.u32.signed = true then (-1 : Int) else IntKind.u32.max) = 4294967295 := rfl
  rw [e]
  refine (xor_lv_u32 (k := 4294967295)).trans ?_
  have : BitVec.ofNat 32 4294967295 ^^^ a = ~~~a := by
    rw [show BitVec.ofNat 32 4294967295 = BitVec.allOnes 32 from rfl, BitVec.allOnes_xor]
  rw [this]
def u32R := And.intro @not_u32 (And.intro @xor_vv_u32 (And.intro @and_vv_u32 (And.intro @or_vv_u32 (And.intro @shl_u32 (And.intro @shr_u32 (And.intro @conv_u32_8 @conv_u8_32))))))
theorem w64 {k : Nat} (h : k < 18446744073709551616) : IntKind.u64.wrap (k : Int) = k := by
  rw [wr_u64, BitVec.ofInt_natCast, BitVec.toNat_ofNat, Nat.mod_eq_of_lt h]
theorem ans_shaturn (x : W32) (n : Nat) (hn : n ≤ 32) (m : Mem) : Ans Tryd.prog 38 [b32 x, .int .u64 n] m fun r m' => r = b32 (rotR x n) ∧ m' = m := by
  refine ans_ret mixed ok38 ?_
  simp -implicitDefEqProofs (disch := (first | omega | (simp only [lenB, wS_len] <;> omega) | fail)) only [admQ, lenB, wS_len, aFill, AK.cls, implies_true, ↓reduceIte, reduceCtorEq, if_true, if_false, Nat.reduceAdd, Nat.reduceEqDiff, Nat.reduceMod, Nat.reduceLT, Nat.reduceLeDiff, Nat.reduceSub, Nat.reduceMul, Nat.reduceBEq, Int.reduceAdd, Int.reduceSub, Int.reduceMul, Int.reduceNeg, Int.reduceLT, Int.reduceLE, Int.reduceToNat, Int.reduceEq, Int.reduceBEq, c38, r38, u32R, @w64]
  rfl
/-- A block's words, as far as they are laid. -/
def wP (B : List B8) (i : Nat) : List W32 := wS B i ++ List.replicate (64 - i) 0#32
theorem wP_len (B : List B8) {i : Nat} (h : i ≤ 64) : (wP B i).length = 64 := by simp [wP, wS_len]; omega
theorem wP_zero (B : List B8) : wds (wP B 0) = List.replicate 64 (AV.int .u32 0) := by simp [wP, wS]
theorem wP_all (B : List B8) : wP B 64 = wS B 64 := by simp [wP]
theorem wP_gw (B : List B8) {i j : Nat} (h : j < i) : gw (wP B i) j = gw (wS B i) j := by
  simp only [gw, List.getD_eq_getElem?_getD, wP]
  rw [List.getElem?_append_left (by rw [wS_len]; omega)]
theorem wP_set (B : List B8) {i : Nat} (h : i < 64) (x : W32) (hx : x = if i < 16 then wd0 B i else wdN (wS B i) i) : (wP B i).set i x = wP B (i + 1) := by
  subst hx
  unfold wP
  rw [List.set_append_right _ _ (by rw [wS_len]; omega), wS_len, Nat.sub_self, show 64 - i = (64 - (i + 1)) + 1 by omega, List.replicate_succ, List.set_cons_zero, wS, List.append_assoc]
  rfl
theorem wP_at (B : List B8) {i j : Nat} (h : j < i) (hi : i ≤ 64) : (wds (wP B i))[j]? = some (b32 (gw (wS B i) j)) := by
  rw [wds_at (by rw [wP_len B hi]; omega), wP_gw B h]
theorem splice_wds {l : List W32} {i : Nat} {x : W32} (h : i < l.length) : splice (wds l) i [b32 x] = wds (l.set i x) := splice_map h
theorem ans_shatake (s : S8) {m : Mem} {x : AV} {B : List B8} (hK : rowOf m 0 = some (wds kT)) (hB : RdB m x B) (h64 : B.length = 64) :
    Ans Tryd.prog 37 [.agg s.cells, x] m fun r m' => r = .agg (s.take B).cells ∧ Kept [] m m' := by
  refine ans_ret mixed ok37 ?_
  obtain ⟨b, o, cap, sl, c, rfl, hrow, hat, hlen, hcap, hsl, _⟩ := hB.cons (i := 0) (by omega)
  rw [h64] at hat hlen hcap
  have hb := fun e => (Kept.app [] m e).row hrow (by simp)
  have hk := fun e => (Kept.app [] m e).row hK (by simp)
  rw [show B.length = 64 from h64]
  have hs : s.cells = [b32 s.a, b32 s.b, b32 s.c, b32 s.d, b32 s.e, b32 s.f, b32 s.g, b32 s.h] := rfl
  rw [hs]
  simp -implicitDefEqProofs (disch := (first | omega | (simp only [lenB, wS_len] <;> omega) | fail)) only [admQ, lenB, wS_len, aFill, AK.cls, implies_true, ↓reduceIte, reduceCtorEq, if_true, if_false, Nat.reduceAdd, Nat.reduceEqDiff, Nat.reduceMod, Nat.reduceLT, Nat.reduceLeDiff, Nat.reduceSub, Nat.reduceMul, Nat.reduceBEq, Int.reduceAdd, Int.reduceSub, Int.reduceMul, Int.reduceNeg, Int.reduceLT, Int.reduceLE, Int.reduceToNat, Int.reduceEq, Int.reduceBEq, c37, r37, u32R]
  rw [← wP_zero B]
  refine LoopW.on (fun i : Nat => [(1, .sl b o 64 cap sl), (2, .ptr (List.length m) 0), (4, .ptr (List.length m + 1) 0), (5, .ptr (List.length m + 2) 0), (21, .int .i64 i)]) (fun i => 16 - i)
    (fun i m' => i ≤ 16 ∧ m' = m ++ [.row [b32 s.a, b32 s.b, b32 s.c, b32 s.d, b32 s.e, b32 s.f, b32 s.g, b32 s.h] false, .row (List.replicate 8 (.int .u32 0)) false, .row (wds (wP B i)) false]) ?_ 0 _ _ rfl ⟨by omega, rfl⟩
  rintro i m' X ⟨hi, rfl⟩ hX
  have hl := wP_len B (i := i) (by omega)
  by_cases hlt : i < 16
  · have hset := wP_set B (i := i) (by omega) (wd0 B i) (by rw [if_pos hlt])
    simp -implicitDefEqProofs (disch := (first | omega | (simp only [lenB, wS_len] <;> omega) | fail)) only [admQ, lenB, wS_len, aFill, AK.cls, implies_true, ↓reduceIte, reduceCtorEq, if_true, if_false, Nat.reduceAdd, Nat.reduceEqDiff, Nat.reduceMod, Nat.reduceLT, Nat.reduceLeDiff, Nat.reduceSub, Nat.reduceMul, Nat.reduceBEq, Int.reduceAdd, Int.reduceSub, Int.reduceMul, Int.reduceNeg, Int.reduceLT, Int.reduceLE, Int.reduceToNat, Int.reduceEq, Int.reduceBEq, u32R, hb, hat, @splice_wds]
    refine hX (i + 1) _ _ rfl (by omega) ⟨by omega, ?_⟩
    rw [← hset]; rfl
  · obtain rfl : i = 16 := by omega
    simp -implicitDefEqProofs (disch := (first | omega | (simp only [lenB, wS_len] <;> omega) | fail)) only [admQ, lenB, wS_len, aFill, AK.cls, implies_true, ↓reduceIte, reduceCtorEq, if_true, if_false, Nat.reduceAdd, Nat.reduceEqDiff, Nat.reduceMod, Nat.reduceLT, Nat.reduceLeDiff, Nat.reduceSub, Nat.reduceMul, Nat.reduceBEq, Int.reduceAdd, Int.reduceSub, Int.reduceMul, Int.reduceNeg, Int.reduceLT, Int.reduceLE, Int.reduceToNat, Int.reduceEq, Int.reduceBEq]
    clear hX X hat hb
    refine LoopW.on (fun i : Nat => [(2, .ptr (List.length m) 0), (4, .ptr (List.length m + 1) 0), (5, .ptr (List.length m + 2) 0), (7, .int .i64 i)]) (fun i => 64 - i)
      (fun i m' => 16 ≤ i ∧ i ≤ 64 ∧ m' = m ++ [.row [b32 s.a, b32 s.b, b32 s.c, b32 s.d, b32 s.e, b32 s.f, b32 s.g, b32 s.h] false, .row (List.replicate 8 (.int .u32 0)) false, .row (wds (wP B i)) false]) ?_ 16 _ _ rfl ⟨by omega, by omega, rfl⟩
    rintro i m' X ⟨h16, hi, rfl⟩ hX
    have hl := wP_len B (i := i) (by omega)
    have hw : ∀ j, j < i → (wds (wP B i))[j]? = some (b32 (gw (wS B i) j)) := fun j hj => wP_at B hj hi
    by_cases hlt : i < 64
    · have hset := wP_set B (i := i) hlt (wdN (wS B i) i) (by rw [if_neg (by omega)])
      simp -implicitDefEqProofs (disch := (first | omega | (simp only [lenB, wS_len] <;> omega) | fail)) only [admQ, lenB, wS_len, aFill, AK.cls, implies_true, ↓reduceIte, reduceCtorEq, if_true, if_false, Nat.reduceAdd, Nat.reduceEqDiff, Nat.reduceMod, Nat.reduceLT, Nat.reduceLeDiff, Nat.reduceSub, Nat.reduceMul, Nat.reduceBEq, Int.reduceAdd, Int.reduceSub, Int.reduceMul, Int.reduceNeg, Int.reduceLT, Int.reduceLE, Int.reduceToNat, Int.reduceEq, Int.reduceBEq, u32R, hw, @splice_wds]
      refine (ans_shaturn _ 17 (by omega) _).mono ?_
      rintro _ _ ⟨rfl, rfl⟩
      simp -implicitDefEqProofs (disch := (first | omega | (simp only [lenB, wS_len] <;> omega) | fail)) only [admQ, lenB, wS_len, aFill, AK.cls, implies_true, ↓reduceIte, reduceCtorEq, if_true, if_false, Nat.reduceAdd, Nat.reduceEqDiff, Nat.reduceMod, Nat.reduceLT, Nat.reduceLeDiff, Nat.reduceSub, Nat.reduceMul, Nat.reduceBEq, Int.reduceAdd, Int.reduceSub, Int.reduceMul, Int.reduceNeg, Int.reduceLT, Int.reduceLE, Int.reduceToNat, Int.reduceEq, Int.reduceBEq, u32R, hw, @splice_wds]
      refine (ans_shaturn _ 19 (by omega) _).mono ?_
      rintro _ _ ⟨rfl, rfl⟩
      simp -implicitDefEqProofs (disch := (first | omega | (simp only [lenB, wS_len] <;> omega) | fail)) only [admQ, lenB, wS_len, aFill, AK.cls, implies_true, ↓reduceIte, reduceCtorEq, if_true, if_false, Nat.reduceAdd, Nat.reduceEqDiff, Nat.reduceMod, Nat.reduceLT, Nat.reduceLeDiff, Nat.reduceSub, Nat.reduceMul, Nat.reduceBEq, Int.reduceAdd, Int.reduceSub, Int.reduceMul, Int.reduceNeg, Int.reduceLT, Int.reduceLE, Int.reduceToNat, Int.reduceEq, Int.reduceBEq, u32R, hw, @splice_wds]
      refine (ans_shaturn _ 7 (by omega) _).mono ?_
      rintro _ _ ⟨rfl, rfl⟩
      simp -implicitDefEqProofs (disch := (first | omega | (simp only [lenB, wS_len] <;> omega) | fail)) only [admQ, lenB, wS_len, aFill, AK.cls, implies_true, ↓reduceIte, reduceCtorEq, if_true, if_false, Nat.reduceAdd, Nat.reduceEqDiff, Nat.reduceMod, Nat.reduceLT, Nat.reduceLeDiff, Nat.reduceSub, Nat.reduceMul, Nat.reduceBEq, Int.reduceAdd, Int.reduceSub, Int.reduceMul, Int.reduceNeg, Int.reduceLT, Int.reduceLE, Int.reduceToNat, Int.reduceEq, Int.reduceBEq, u32R, hw, @splice_wds]
      refine (ans_shaturn _ 18 (by omega) _).mono ?_
      rintro _ _ ⟨rfl, rfl⟩
      simp -implicitDefEqProofs (disch := (first | omega | (simp only [lenB, wS_len] <;> omega) | fail)) only [admQ, lenB, wS_len, aFill, AK.cls, implies_true, ↓reduceIte, reduceCtorEq, if_true, if_false, Nat.reduceAdd, Nat.reduceEqDiff, Nat.reduceMod, Nat.reduceLT, Nat.reduceLeDiff, Nat.reduceSub, Nat.reduceMul, Nat.reduceBEq, Int.reduceAdd, Int.reduceSub, Int.reduceMul, Int.reduceNeg, Int.reduceLT, Int.reduceLE, Int.reduceToNat, Int.reduceEq, Int.reduceBEq, u32R, hw, @splice_wds]
      refine hX (i + 1) _ _ rfl (by omega) ⟨by omega, by omega, ?_⟩
      rw [← hset]; rfl
    · obtain rfl : i = 64 := by omega
      simp -implicitDefEqProofs (disch := (first | omega | (simp only [lenB, wS_len] <;> omega) | fail)) only [admQ, lenB, wS_len, aFill, AK.cls, implies_true, ↓reduceIte, reduceCtorEq, if_true, if_false, Nat.reduceAdd, Nat.reduceEqDiff, Nat.reduceMod, Nat.reduceLT, Nat.reduceLeDiff, Nat.reduceSub, Nat.reduceMul, Nat.reduceBEq, Int.reduceAdd, Int.reduceSub, Int.reduceMul, Int.reduceNeg, Int.reduceLT, Int.reduceLE, Int.reduceToNat, Int.reduceEq, Int.reduceBEq]
      clear hX X
      have hkT : ∀ j, j < 64 → (wds kT)[j]? = some (b32 (gw kT j)) := fun j hj => wds_at hj
      generalize hW : wP B 64 = W at *
      rw [wP_all] at hW
      refine LoopW.on (fun i : Nat => [(2, .ptr (List.length m) 0), (4, .ptr (List.length m + 1) 0), (5, .ptr (List.length m + 2) 0), (10, b32 (s.rnds W i).a), (11, b32 (s.rnds W i).b), (12, b32 (s.rnds W i).c), (13, b32 (s.rnds W i).d), (14, b32 (s.rnds W i).e), (15, b32 (s.rnds W i).f), (16, b32 (s.rnds W i).g), (17, b32 (s.rnds W i).h), (117, .int .i64 i)]) (fun i => 64 - i)
        (fun i m' => i ≤ 64 ∧ m' = m ++ [.row [b32 s.a, b32 s.b, b32 s.c, b32 s.d, b32 s.e, b32 s.f, b32 s.g, b32 s.h] false, .row (List.replicate 8 (.int .u32 0)) false, .row (wds W) false]) ?_ 0 _ _ rfl ⟨by omega, rfl⟩
      clear hlt h16 hi
      rw [hW] at hw
      rintro i m' X ⟨hi, rfl⟩ hX
      generalize hr : s.rnds W i = r at *
      by_cases hlt : i < 64
      · simp -implicitDefEqProofs (disch := (first | omega | (simp only [lenB, wS_len] <;> omega) | fail)) only [admQ, lenB, wS_len, aFill, AK.cls, implies_true, ↓reduceIte, reduceCtorEq, if_true, if_false, Nat.reduceAdd, Nat.reduceEqDiff, Nat.reduceMod, Nat.reduceLT, Nat.reduceLeDiff, Nat.reduceSub, Nat.reduceMul, Nat.reduceBEq, Int.reduceAdd, Int.reduceSub, Int.reduceMul, Int.reduceNeg, Int.reduceLT, Int.reduceLE, Int.reduceToNat, Int.reduceEq, Int.reduceBEq, u32R, hw, hk, hkT]
        refine (ans_shaturn _ 6 (by omega) _).mono ?_
        rintro _ _ ⟨rfl, rfl⟩
        simp -implicitDefEqProofs (disch := (first | omega | (simp only [lenB, wS_len] <;> omega) | fail)) only [admQ, lenB, wS_len, aFill, AK.cls, implies_true, ↓reduceIte, reduceCtorEq, if_true, if_false, Nat.reduceAdd, Nat.reduceEqDiff, Nat.reduceMod, Nat.reduceLT, Nat.reduceLeDiff, Nat.reduceSub, Nat.reduceMul, Nat.reduceBEq, Int.reduceAdd, Int.reduceSub, Int.reduceMul, Int.reduceNeg, Int.reduceLT, Int.reduceLE, Int.reduceToNat, Int.reduceEq, Int.reduceBEq, u32R, hw, hk, hkT]
        refine (ans_shaturn _ 11 (by omega) _).mono ?_
        rintro _ _ ⟨rfl, rfl⟩
        simp -implicitDefEqProofs (disch := (first | omega | (simp only [lenB, wS_len] <;> omega) | fail)) only [admQ, lenB, wS_len, aFill, AK.cls, implies_true, ↓reduceIte, reduceCtorEq, if_true, if_false, Nat.reduceAdd, Nat.reduceEqDiff, Nat.reduceMod, Nat.reduceLT, Nat.reduceLeDiff, Nat.reduceSub, Nat.reduceMul, Nat.reduceBEq, Int.reduceAdd, Int.reduceSub, Int.reduceMul, Int.reduceNeg, Int.reduceLT, Int.reduceLE, Int.reduceToNat, Int.reduceEq, Int.reduceBEq, u32R, hw, hk, hkT]
        refine (ans_shaturn _ 25 (by omega) _).mono ?_
        rintro _ _ ⟨rfl, rfl⟩
        simp -implicitDefEqProofs (disch := (first | omega | (simp only [lenB, wS_len] <;> omega) | fail)) only [admQ, lenB, wS_len, aFill, AK.cls, implies_true, ↓reduceIte, reduceCtorEq, if_true, if_false, Nat.reduceAdd, Nat.reduceEqDiff, Nat.reduceMod, Nat.reduceLT, Nat.reduceLeDiff, Nat.reduceSub, Nat.reduceMul, Nat.reduceBEq, Int.reduceAdd, Int.reduceSub, Int.reduceMul, Int.reduceNeg, Int.reduceLT, Int.reduceLE, Int.reduceToNat, Int.reduceEq, Int.reduceBEq, u32R, hw, hk, hkT]
        refine (ans_shaturn _ 2 (by omega) _).mono ?_
        rintro _ _ ⟨rfl, rfl⟩
        simp -implicitDefEqProofs (disch := (first | omega | (simp only [lenB, wS_len] <;> omega) | fail)) only [admQ, lenB, wS_len, aFill, AK.cls, implies_true, ↓reduceIte, reduceCtorEq, if_true, if_false, Nat.reduceAdd, Nat.reduceEqDiff, Nat.reduceMod, Nat.reduceLT, Nat.reduceLeDiff, Nat.reduceSub, Nat.reduceMul, Nat.reduceBEq, Int.reduceAdd, Int.reduceSub, Int.reduceMul, Int.reduceNeg, Int.reduceLT, Int.reduceLE, Int.reduceToNat, Int.reduceEq, Int.reduceBEq, u32R, hw, hk, hkT]
        refine (ans_shaturn _ 13 (by omega) _).mono ?_
        rintro _ _ ⟨rfl, rfl⟩
        simp -implicitDefEqProofs (disch := (first | omega | (simp only [lenB, wS_len] <;> omega) | fail)) only [admQ, lenB, wS_len, aFill, AK.cls, implies_true, ↓reduceIte, reduceCtorEq, if_true, if_false, Nat.reduceAdd, Nat.reduceEqDiff, Nat.reduceMod, Nat.reduceLT, Nat.reduceLeDiff, Nat.reduceSub, Nat.reduceMul, Nat.reduceBEq, Int.reduceAdd, Int.reduceSub, Int.reduceMul, Int.reduceNeg, Int.reduceLT, Int.reduceLE, Int.reduceToNat, Int.reduceEq, Int.reduceBEq, u32R, hw, hk, hkT]
        refine (ans_shaturn _ 22 (by omega) _).mono ?_
        rintro _ _ ⟨rfl, rfl⟩
        simp -implicitDefEqProofs (disch := (first | omega | (simp only [lenB, wS_len] <;> omega) | fail)) only [admQ, lenB, wS_len, aFill, AK.cls, implies_true, ↓reduceIte, reduceCtorEq, if_true, if_false, Nat.reduceAdd, Nat.reduceEqDiff, Nat.reduceMod, Nat.reduceLT, Nat.reduceLeDiff, Nat.reduceSub, Nat.reduceMul, Nat.reduceBEq, Int.reduceAdd, Int.reduceSub, Int.reduceMul, Int.reduceNeg, Int.reduceLT, Int.reduceLE, Int.reduceToNat, Int.reduceEq, Int.reduceBEq, u32R, hw, hk, hkT]
        refine hX (i + 1) _ _ ?_ (by omega) ⟨by omega, rfl⟩
        rw [S8.rnds, hr]; rfl
      · obtain rfl : i = 64 := by omega
        simp -implicitDefEqProofs (disch := (first | omega | (simp only [lenB, wS_len] <;> omega) | fail)) only [admQ, lenB, wS_len, aFill, AK.cls, implies_true, ↓reduceIte, reduceCtorEq, if_true, if_false, Nat.reduceAdd, Nat.reduceEqDiff, Nat.reduceMod, Nat.reduceLT, Nat.reduceLeDiff, Nat.reduceSub, Nat.reduceMul, Nat.reduceBEq, Int.reduceAdd, Int.reduceSub, Int.reduceMul, Int.reduceNeg, Int.reduceLT, Int.reduceLE, Int.reduceToNat, Int.reduceEq, Int.reduceBEq, u32R]
        subst hr
        subst hW
        refine ⟨rfl, .app [] _ _⟩
end Go.Proofs.YtmnlmjlmbceimaaDoor
end
