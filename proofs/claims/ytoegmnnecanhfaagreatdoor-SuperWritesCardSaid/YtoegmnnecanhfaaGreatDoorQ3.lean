/- Texts of this seat, joined (part 3 of 6): an abstract memory for Go programs, this seat's functions as abstract code, and what each of them does. -/
import Derived.Test.YtoegmnnecanhfaaGreatDoorProg
import Derived.KernelRfl
import Derived.Test.YtoegmnnecanhfaaGreatDoorQ2
set_option linter.unusedSimpArgs false
set_option linter.defProp false
section
namespace Go.Proofs.YtoegmnnecanhfaaGreatDoor
open Go.Adm
abbrev ox (d : Nat) (k : AK) (xs : List AX) : AOper := ⟨some d, k, xs, none, 0, 0⟩
abbrev oy (k : AK) (xs : List AX) : AOper := ⟨none, k, xs, none, 0, 0⟩
abbrev og (d : Nat) (k : AK) (xs : List AX) (j : Nat) (b : Bool) : AOper := ⟨some d, k, xs, some (j, b), 0, 0⟩
abbrev od (d : Nat) (k : AK) (xs : List AX) (lo hi : Nat) : AOper := ⟨some d, k, xs, none, lo, hi⟩
abbrev oe (k : AK) (xs : List AX) (lo hi : Nat) : AOper := ⟨none, k, xs, none, lo, hi⟩
abbrev oh (d : Nat) (k : AK) (xs : List AX) (j : Nat) (b : Bool) (lo hi : Nat) : AOper := ⟨some d, k, xs, some (j, b), lo, hi⟩
theorem mixed : Tryz.prog.follows .mixedOrders = true := by kernel_rfl
def c3 : ACode :=
 (.seq
 (.ops [0, 3, 5, 6] [
 ox 5 .box [.t 1],
 ox 6 .box [.t 2],
 ox 8 .mv [.c (.bool false)]])
 (.seq
 (.seq
 (.ops [0, 3, 5, 6, 33] [
 ox 26 .mv [.t 0],
 ox 27 .len [.t 26],
 ox 28 (.cmp .gtr) [.t 27, .c (.int .i64 1024)],
 ox 29 .mv [.t 28],
 og 30 .mv [.t 3] 29 false,
 og 31 .len [.t 30] 29 false,
 og 32 (.cmp .gtr) [.t 31, .c (.int .i64 2048)] 29 false,
 ox 33 .pick [.t 29, .c (.bool true), .t 32]])
 (.cond (.t 33)
 (.seq
 (.ops [8] [
 ox 34 (.call 4) [],
 ox 8 .mv [.t 34]])
 .ret)
 .skip))
 (.seq
 (.ops [0, 3, 5, 6, 9, 10] [
 ox 36 (.call 5) [.c (.int .i64 5)],
 ox 35 .mv [.t 36],
 ox 37 (.extract 0) [.t 35],
 ox 38 (.extract 1) [.t 35],
 ox 9 .mv [.t 37],
 ox 10 .mv [.t 38]])
 (.seq
 (.ops [0, 3, 5, 6, 9, 10, 11, 12] [
 ox 40 (.call 6) [.c (.int .i64 5)],
 ox 39 .mv [.t 40],
 ox 41 (.extract 0) [.t 39],
 ox 42 (.extract 1) [.t 39],
 ox 11 .mv [.t 41],
 ox 12 .mv [.t 42]])
 (.seq
 (.ops [0, 3, 5, 6, 9, 10, 11, 12, 13] [
 ox 43 .mv [.t 0],
 ox 44 (.call 7) [.t 43],
 ox 13 .mv [.t 44]])
 (.seq
 (.ops [3, 5, 6, 9, 10, 11, 12, 13, 14] [
 ox 45 .mv [.t 0],
 ox 46 (.call 8) [.t 45],
 ox 14 .mv [.t 46]])
 (.seq
 (.seq
 (.ops [3, 5, 6, 9, 11, 13, 14, 52] [
 ox 47 .mv [.t 10],
 ox 48 (.eq true .int) [.t 47, .c (.int .i64 0)],
 ox 49 .mv [.t 48],
 og 50 .mv [.t 12] 49 false,
 og 51 (.eq true .int) [.t 50, .c (.int .i64 0)] 49 false,
 ox 52 .pick [.t 49, .c (.bool true), .t 51]])
 (.cond (.t 52)
 (.seq
 (.ops [8] [
 ox 8 .mv [.c (.bool false)]])
 .ret)
 .skip))
 (.seq
 (.ops [3, 5, 6, 9, 11, 13, 14] [
 ox 53 .mv [.t 9],
 ox 54 (.fieldAddr 1) [.t 6],
 ox 55 (.load false 1) [.t 54],
 ox 56 (.call 9) [.t 53, .t 55]])
 (.seq
 (.ops [3, 5, 6, 9, 11, 13, 14] [
 ox 57 .mv [.t 11],
 ox 58 (.fieldAddr 1) [.t 6],
 ox 59 (.load false 1) [.t 58],
 ox 60 (.call 10) [.t 57, .t 59]])
 (.seq
 (.ops [3, 5, 6, 9, 10, 11, 13, 14, 15] [
 ox 62 .mv [.t 9],
 ox 63 .mv [.t 13],
 ox 64 (.iface 35) [.t 63],
 ox 65 (.fieldAddr 0) [.t 6],
 ox 66 (.load false 1) [.t 65],
 ox 67 (.load true 3) [.t 5],
 ox 68 (.call 11) [.t 62, .t 64, .t 66, .t 67],
 ox 61 .mv [.t 68],
 ox 69 (.extract 0) [.t 61],
 ox 70 (.extract 1) [.t 61],
 ox 15 (.alloc (List.replicate 32 (.int .u8 0))) [],
 oy (.store 32) [.t 15, .t 69],
 ox 10 .mv [.t 70]])
 (.seq
 (.ops [3, 9, 10, 11, 12, 13, 14, 15, 16] [
 ox 72 .mv [.t 11],
 ox 73 .mv [.t 14],
 ox 74 (.fieldAddr 0) [.t 6],
 ox 75 (.load false 1) [.t 74],
 ox 76 (.load true 3) [.t 5],
 ox 77 (.call 12) [.t 72, .t 73, .t 75, .t 76],
 ox 71 .mv [.t 77],
 ox 78 (.extract 0) [.t 71],
 ox 79 (.extract 1) [.t 71],
 ox 16 (.alloc (List.replicate 32 (.int .u8 0))) [],
 oy (.store 32) [.t 16, .t 78],
 ox 12 .mv [.t 79]])
 (.seq
 (.seq
 (.drawn [3, 9, 11, 13, 14, 105] [
 ox 80 (.load true 32) [.t 15],
 ox 81 (.load true 32) [.t 16],
 ox 82 (.eqAgg true (List.replicate 32 .i)) [.t 80, .t 81],
 ox 83 .mv [.t 82],
 og 84 .mv [.t 10] 83 false,
 og 85 .mv [.t 12] 83 false,
 og 86 (.eq true .int) [.t 84, .t 85] 83 false,
 ox 87 .pick [.t 83, .c (.bool true), .t 86],
 ox 88 .mv [.t 87],
 og 89 .mv [.t 9] 88 false,
 oh 90 (.call 13) [.t 89] 88 false 0 1,
 oh 91 .mv [.t 11] 88 false 0 1,
 oh 92 .nilCheck [.t 91] 88 false 0 1,
 oh 93 (.fieldAddr 3) [.t 92] 88 false 0 1,
 oh 94 (.load false 1) [.t 93] 88 false 0 1,
 oh 95 (.eq true .bool) [.t 90, .t 94] 88 false 1 1,
 od 96 .pick [.t 88, .c (.bool true), .t 95] 1 1,
 od 97 .mv [.t 96] 1 1,
 oh 98 .mv [.t 9] 97 false 1 1,
 oh 99 (.call 14) [.t 98] 97 false 1 2,
 oh 100 .mv [.t 11] 97 false 1 2,
 oh 101 .nilCheck [.t 100] 97 false 1 2,
 oh 102 (.fieldAddr 2) [.t 101] 97 false 1 2,
 oh 103 (.load false 1) [.t 102] 97 false 1 2,
 oh 104 (.eq true .int) [.t 99, .t 103] 97 false 2 2,
 od 105 .pick [.t 97, .c (.bool true), .t 104] 2 2])
 (.cond (.t 105)
 (.seq
 (.ops [8] [
 ox 8 .mv [.c (.bool false)]])
 .ret)
 .skip))
 (.seq
 (.seq
 (.ops [3, 9, 11, 13, 14, 17] [
 ox 17 .mv [.c (.int .i64 0)]])
 (.block 0
 (.loop [3, 9, 11, 13, 14, 17]
 (.seq
 (.seq
 (.ops [3, 9, 11, 13, 14, 17, 107] [
 ox 106 .mv [.t 17],
 ox 107 (.cmp .lss) [.t 106, .c (.int .i64 2)]])
 (.cond (.t 107)
 .skip
 (.exit 0)))
 (.seq
 (.block 1
 (.seq
 (.ops [3, 9, 11, 13, 14, 17, 18, 19, 20] [
 ox 111 .mv [.t 9],
 ox 112 .mv [.t 13],
 ox 113 (.iface 35) [.t 112],
 ox 114 (.call 15) [.t 111, .t 113],
 ox 110 .mv [.t 114],
 ox 115 (.extract 0) [.t 110],
 ox 116 (.extract 1) [.t 110],
 ox 117 (.extract 2) [.t 110],
 ox 18 (.alloc [.int .i64 0, .int .i64 0, .int .i64 0]) [],
 ox 19 (.alloc (List.replicate 32 (.int .u8 0))) [],
 oy (.store 3) [.t 18, .t 115],
 oy (.store 32) [.t 19, .t 116],
 ox 20 .mv [.t 117]])
 (.seq
 (.ops [3, 9, 11, 13, 14, 17, 18, 19, 20, 21, 22, 23] [
 ox 119 .mv [.t 11],
 ox 120 .mv [.t 14],
 ox 121 (.call 16) [.t 119, .t 120],
 ox 118 .mv [.t 121],
 ox 122 (.extract 0) [.t 118],
 ox 123 (.extract 1) [.t 118],
 ox 124 (.extract 2) [.t 118],
 ox 21 (.alloc [.int .i64 0, .int .i64 0, .int .i64 0]) [],
 ox 22 (.alloc (List.replicate 32 (.int .u8 0))) [],
 oy (.store 3) [.t 21, .t 122],
 oy (.store 32) [.t 22, .t 123],
 ox 23 .mv [.t 124]])
 (.seq
 (.ops [3, 9, 11, 13, 14, 17, 18, 19, 20, 21, 22, 23, 24] [
 ox 126 .mv [.t 9],
 ox 127 (.call 17) [.t 126, .c (.int .i64 0)],
 ox 125 .mv [.t 127],
 ox 128 (.extract 0) [.t 125],
 ox 129 (.extract 1) [.t 125],
 ox 24 .mv [.t 128],
 ox 25 .mv [.t 129]])
 (.seq
 (.seq
 (.ops [3, 9, 11, 13, 14, 17, 149] [
 ox 130 (.load true 3) [.t 18],
 ox 131 (.load true 3) [.t 21],
 ox 132 (.eqAgg true [.i, .i, .i]) [.t 130, .t 131],
 ox 133 .mv [.t 132],
 og 134 (.load true 32) [.t 19] 133 false,
 og 135 (.load true 32) [.t 22] 133 false,
 og 136 (.eqAgg true (List.replicate 32 .i)) [.t 134, .t 135] 133 false,
 ox 137 .pick [.t 133, .c (.bool true), .t 136],
 ox 138 .mv [.t 137],
 og 139 .mv [.t 20] 138 false,
 og 140 .mv [.t 23] 138 false,
 og 141 (.eq true .int) [.t 139, .t 140] 138 false,
 ox 142 .pick [.t 138, .c (.bool true), .t 141],
 ox 143 .mv [.t 142],
 og 144 .mv [.t 24] 143 false,
 og 145 .mv [.t 11] 143 false,
 og 146 (.call 19) [.t 145, .c (.int .i64 0)] 143 false,
 og 147 (.call 18) [.t 144, .t 146] 143 false,
 og 148 .not [.t 147] 143 false,
 ox 149 .pick [.t 143, .c (.bool true), .t 148]])
 (.cond (.t 149)
 (.seq
 (.ops [8] [
 ox 8 .mv [.c (.bool false)]])
 .ret)
 .skip))
 (.seq
 (.ops [3, 9, 11, 13, 14, 17] [
 ox 150 .mv [.t 9],
 ox 151 .mv [.t 3],
 ox 152 (.call 20) [.t 150, .c (.int .i64 0), .t 151]])
 (.ops [3, 9, 11, 13, 14, 17] [
 ox 153 .mv [.t 11],
 ox 154 .mv [.t 3],
 ox 155 (.call 21) [.t 153, .c (.int .i64 0), .t 154]])))))))
 (.ops [3, 9, 11, 13, 14, 17] [
 ox 108 .mv [.t 17],
 ox 109 (.arith .add) [.t 108, .c (.int .i64 1)],
 ox 17 .mv [.t 109]]))))))
 (.seq
 (.ops [8] [
 ox 156 (.call 4) [],
 ox 8 .mv [.t 156]])
 .ret))))))))))))))
def r3 : List ARes := [.tmp 8]
theorem ok3 : FnOk Tryz.prog 3 c3 r3 :=
 ⟨Tryz.f3, _, Tryz.func3, by kernel_rfl, rfl, by kernel_rfl, by kernel_rfl⟩
def c4 : ACode :=
 (.seq
 (.ops [] [
 ox 0 .mv [.c (.bool false)]])
 (.seq
 (.ops [1, 2] [
 ox 13 (.call 5) [.c (.int .i64 5)],
 ox 12 .mv [.t 13],
 ox 14 (.extract 0) [.t 12],
 ox 15 (.extract 1) [.t 12],
 ox 1 .mv [.t 14],
 ox 2 .mv [.t 15]])
 (.seq
 (.ops [1, 2, 3] [
 ox 16 (.call 22) [],
 ox 3 .mv [.t 16]])
 (.seq
 (.seq
 (.ops [1, 3, 18] [
 ox 17 .mv [.t 2],
 ox 18 (.eq true .int) [.t 17, .c (.int .i64 0)]])
 (.cond (.t 18)
 (.seq
 (.ops [0] [
 ox 0 .mv [.c (.bool false)]])
 .ret)
 .skip))
 (.seq
 (.ops [1, 3, 6] [
 ox 20 .mv [.t 1],
 ox 21 .mv [.t 3],
 ox 22 (.iface 59) [.t 21],
 ox 23 (.call 15) [.t 20, .t 22],
 ox 19 .mv [.t 23],
 ox 24 (.extract 0) [.t 19],
 ox 25 (.extract 1) [.t 19],
 ox 26 (.extract 2) [.t 19],
 ox 4 (.alloc [.int .i64 0, .int .i64 0, .int .i64 0]) [],
 ox 5 (.alloc (List.replicate 32 (.int .u8 0))) [],
 oy (.store 3) [.t 4, .t 24],
 oy (.store 32) [.t 5, .t 25],
 ox 6 .mv [.t 26]])
 (.seq
 (.ops [1, 3, 6, 7, 8] [
 ox 28 .mv [.t 1],
 ox 29 .mv [.t 3],
 ox 30 (.iface 59) [.t 29],
 ox 31 (.call 23) [],
 ox 32 (.call 11) [.t 28, .t 30, .c (.int .i64 1), .t 31],
 ox 27 .mv [.t 32],
 ox 33 (.extract 0) [.t 27],
 ox 34 (.extract 1) [.t 27],
 ox 7 (.alloc (List.replicate 32 (.int .u8 0))) [],
 oy (.store 32) [.t 7, .t 33],
 ox 8 .mv [.t 34]])
 (.seq
 (.ops [6, 7, 8, 9, 10, 11] [
 ox 36 .mv [.t 1],
 ox 37 .mv [.t 3],
 ox 38 (.iface 59) [.t 37],
 ox 39 (.call 15) [.t 36, .t 38],
 ox 35 .mv [.t 39],
 ox 40 (.extract 0) [.t 35],
 ox 41 (.extract 1) [.t 35],
 ox 42 (.extract 2) [.t 35],
 ox 9 (.alloc [.int .i64 0, .int .i64 0, .int .i64 0]) [],
 ox 10 (.alloc (List.replicate 32 (.int .u8 0))) [],
 oy (.store 3) [.t 9, .t 40],
 oy (.store 32) [.t 10, .t 41],
 ox 11 .mv [.t 42]])
 (.seq
 (.drawn [0] [
 ox 43 .mv [.t 6],
 ox 44 (.eq false .int) [.t 43, .c (.int .i64 9)],
 ox 45 .mv [.t 44],
 og 46 .mv [.t 8] 45 true,
 og 47 (.eq false .int) [.t 46, .c (.int .i64 0)] 45 true,
 ox 48 .pick [.t 45, .t 47, .c (.bool false)],
 ox 49 .mv [.t 48],
 og 50 .mv [.t 11] 49 true,
 og 51 (.eq false .int) [.t 50, .c (.int .i64 0)] 49 true,
 ox 52 .pick [.t 49, .t 51, .c (.bool false)],
 ox 53 .mv [.t 52],
 oh 54 (.load true 3) [.t 9] 53 true 0 1,
 oh 55 (.call 23) [] 53 true 0 1,
 oh 56 (.eqAgg false [.i, .i, .i]) [.t 54, .t 55] 53 true 1 1,
 od 57 .pick [.t 53, .t 56, .c (.bool false)] 1 1,
 od 58 .mv [.t 57] 1 1,
 oh 59 (.load true 32) [.t 7] 58 true 1 1,
 oh 60 (.load true 32) [.t 10] 58 true 1 1,
 oh 61 (.eqAgg false (List.replicate 32 .i)) [.t 59, .t 60] 58 true 1 1,
 od 62 .pick [.t 58, .t 61, .c (.bool false)] 1 1,
 od 0 .mv [.t 62] 1 1])
 .ret))))))))
def r4 : List ARes := [.tmp 0]
theorem ok4 : FnOk Tryz.prog 4 c4 r4 :=
 ⟨Tryz.f4, _, Tryz.func4, by kernel_rfl, rfl, by kernel_rfl, by kernel_rfl⟩
def c5 : ACode :=
 (.seq
 (.ops [0] [
 ox 2 .mv [.c .nilp],
 ox 3 .mv [.c (.int .i64 0)]])
 (.seq
 (.seq
 (.ops [0, 9] [
 ox 4 .mv [.t 0],
 ox 5 (.cmp .lss) [.t 4, .c (.int .i64 1)],
 ox 6 .mv [.t 5],
 og 7 .mv [.t 0] 6 false,
 og 8 (.cmp .gtr) [.t 7, .c (.int .i64 4096)] 6 false,
 ox 9 .pick [.t 6, .c (.bool true), .t 8]])
 (.cond (.t 9)
 (.seq
 (.ops [2, 3] [
 ox 2 .mv [.c .nilp],
 ox 3 .mv [.c (.int .i64 7)]])
 .ret)
 .skip))
 (.seq
 (.drawn [2, 3] [
 ox 10 .mv [.t 0],
 ox 11 (.mkSlice [.nils] 24) [.t 10, .t 10],
 ox 12 .mkMap [],
 ox 13 .mv [.t 0],
 ox 14 (.mkSlice [.int .i64 0] 8) [.t 13, .t 13],
 ox 15 (.build [.nils, .mapn, .bool false, .int .i64 0, .bool false, .int .i64 0, .nils] [(0, 1), (1, 1), (6, 1)]) [.t 11, .t 12, .t 14],
 ox 16 .box [.t 15],
 ox 2 .mv [.t 16],
 ox 3 .mv [.c (.int .i64 0)]])
 .ret)))
def r5 : List ARes := [.tmp 2, .tmp 3]
theorem ok5 : FnOk Tryz.prog 5 c5 r5 :=
 ⟨Tryz.f5, _, Tryz.func5, by kernel_rfl, rfl, by kernel_rfl, by kernel_rfl⟩
def c6 : ACode :=
 (.seq
 (.ops [0] [
 ox 2 .mv [.c .nilp],
 ox 3 .mv [.c (.int .i64 0)]])
 (.seq
 (.seq
 (.ops [0, 9] [
 ox 4 .mv [.t 0],
 ox 5 (.cmp .lss) [.t 4, .c (.int .i64 1)],
 ox 6 .mv [.t 5],
 og 7 .mv [.t 0] 6 false,
 og 8 (.cmp .gtr) [.t 7, .c (.int .i64 4096)] 6 false,
 ox 9 .pick [.t 6, .c (.bool true), .t 8]])
 (.cond (.t 9)
 (.seq
 (.ops [2, 3] [
 ox 2 .mv [.c .nilp],
 ox 3 .mv [.c (.int .i64 7)]])
 .ret)
 .skip))
 (.seq
 (.ops [2, 3] [
 ox 10 .mv [.t 0],
 ox 11 .mv [.t 0],
 ox 12 (.mkSlice [.int .i64 0] 8) [.t 11, .t 11],
 ox 13 (.build [.int .i64 0, .int .i64 0, .int .i64 0, .bool false, .nils, .nils, .nils] [(0, 1), (1, 1), (6, 1)]) [.t 10, .c (.int .i64 (-1)), .t 12],
 ox 14 .box [.t 13],
 ox 2 .mv [.t 14],
 ox 3 .mv [.c (.int .i64 0)]])
 .ret)))
def r6 : List ARes := [.tmp 2, .tmp 3]
theorem ok6 : FnOk Tryz.prog 6 c6 r6 :=
 ⟨Tryz.f6, _, Tryz.func6, by kernel_rfl, rfl, by kernel_rfl, by kernel_rfl⟩
def c7 : ACode :=
 (.seq
 (.ops [0] [
 ox 2 .mv [.c .nilp]])
 (.seq
 (.ops [3, 4] [
 ox 7 .mv [.t 0],
 ox 8 (.call 24) [.t 7, .c (.str ⟨#[101, 110, 99, 114, 121, 112, 116]⟩)],
 ox 9 .mv [.t 0],
 ox 10 (.call 24) [.t 9, .c (.str ⟨#[97, 117, 116, 104, 101, 110, 116, 105, 99, 97, 116, 101]⟩)],
 ox 3 (.alloc (List.replicate 32 (.int .u8 0))) [],
 ox 4 (.alloc (List.replicate 32 (.int .u8 0))) [],
 oy (.store 32) [.t 3, .t 8],
 oy (.store 32) [.t 4, .t 10]])
 (.seq
 (.ops [4, 5] [
 ox 12 (.sliceArr 32 1 false true false) [.t 3, .c (.int .i64 16)],
 ox 13 (.call 25) [.t 12],
 ox 11 .mv [.t 13],
 ox 14 (.extract 0) [.t 11],
 ox 15 (.extract 1) [.t 11],
 ox 5 .mv [.t 14],
 ox 6 .mv [.t 15]])
 (.seq
 (.ops [2] [
 ox 16 .mv [.t 5],
 ox 17 (.sliceArr 32 1 false false false) [.t 4],
 ox 18 (.build [.nilp, .nils] [(0, 1), (1, 1)]) [.t 16, .t 17],
 ox 19 .box [.t 18],
 ox 2 .mv [.t 19]])
 .ret))))
def r7 : List ARes := [.tmp 2]
theorem ok7 : FnOk Tryz.prog 7 c7 r7 :=
 ⟨Tryz.f7, _, Tryz.func7, by kernel_rfl, rfl, by kernel_rfl, by kernel_rfl⟩
def c8 : ACode :=
 (.seq
 (.ops [0] [
 ox 2 .mv [.c .nilp]])
 (.seq
 (.ops [2] [
 ox 3 .mv [.t 0],
 ox 4 (.call 26) [.t 3],
 ox 5 (.build [.nilp, .nilp] [(0, 1)]) [.t 4],
 ox 6 .box [.t 5],
 ox 2 .mv [.t 6]])
 .ret))
def r8 : List ARes := [.tmp 2]
theorem ok8 : FnOk Tryz.prog 8 c8 r8 :=
 ⟨Tryz.f8, _, Tryz.func8, by kernel_rfl, rfl, by kernel_rfl, by kernel_rfl⟩
def c9 : ACode :=
 (.ops [] [
 ox 4 .mv [.t 0],
 ox 5 .mv [.t 0],
 ox 6 .mv [.t 1],
 ox 7 (.cmp .geq) [.t 6, .c (.int .i64 0)],
 ox 8 .mv [.t 1],
 ox 9 .nilCheck [.t 4],
 ox 10 (.fieldAddr 2) [.t 9],
 oy (.store 1) [.t 10, .t 7],
 ox 11 .nilCheck [.t 5],
 ox 12 (.fieldAddr 3) [.t 11],
 oy (.store 1) [.t 12, .t 8]])
def r9 : List ARes := []
theorem ok9 : FnOk Tryz.prog 9 c9 r9 :=
 ⟨Tryz.f9, _, Tryz.func9, by kernel_rfl, rfl, by kernel_rfl, by kernel_rfl⟩
def c10 : ACode :=
 (.seq
 (.ops [0, 1] [
 ox 4 .mv [.t 0],
 ox 5 .mv [.t 1],
 ox 6 .nilCheck [.t 4],
 ox 7 (.fieldAddr 1) [.t 6],
 oy (.store 1) [.t 7, .t 5]])
 (.seq
 (.ops [0, 9] [
 ox 8 .mv [.t 1],
 ox 9 (.cmp .lss) [.t 8, .c (.int .i64 0)]])
 (.cond (.t 9)
 (.ops [] [
 ox 10 .mv [.t 0],
 ox 11 .nilCheck [.t 10],
 ox 12 (.fieldAddr 1) [.t 11],
 oy (.store 1) [.t 12, .c (.int .i64 (-1))]])
 .skip)))
def r10 : List ARes := []
theorem ok10 : FnOk Tryz.prog 10 c10 r10 :=
 ⟨Tryz.f10, _, Tryz.func10, by kernel_rfl, rfl, by kernel_rfl, by kernel_rfl⟩
def c11 : ACode :=
 (.seq
 (.ops [0, 1, 2, 7, 8] [
 ox 7 .box [.t 3],
 ox 8 (.alloc (List.replicate 32 (.int .u8 0))) [],
 ox 9 .mv [.c (.int .i64 0)]])
 (.seq
 (.ops [0, 1, 2, 8, 10, 11] [
 ox 14 (.load true 3) [.t 7],
 ox 15 (.call 27) [.t 14],
 ox 13 .mv [.t 15],
 ox 16 (.extract 0) [.t 13],
 ox 17 (.extract 1) [.t 13],
 ox 10 .mv [.t 16],
 ox 11 .mv [.t 17]])
 (.seq
 (.seq
 (.ops [0, 1, 2, 8, 10, 11, 19] [
 ox 18 .mv [.t 11],
 ox 19 (.eq true .int) [.t 18, .c (.int .i64 0)]])
 (.cond (.t 19)
 (.seq
 (.ops [8, 9] [
 ox 20 (.build (List.replicate 32 (.int .u8 0)) []) [],
 ox 21 .mv [.t 11],
 oy (.store 32) [.t 8, .t 20],
 ox 9 .mv [.t 21]])
 .ret)
 .skip))
 (.seq
 (.ops [0, 1, 8, 11, 12] [
 ox 23 .mv [.t 1],
 ox 24 .mv [.t 2],
 ox 25 .mv [.t 10],
 ox 26 (.build [.int .i64 0, .int .i64 0, .int .i64 0, .int .i64 0, .nils] [(0, 1), (1, 1), (4, 1)]) [.c (.int .i64 1), .t 24, .t 25],
 ox 27 (.call 28) [.t 23, .t 26],
 ox 22 .mv [.t 27],
 ox 28 (.extract 0) [.t 22],
 ox 29 (.extract 1) [.t 22],
 ox 12 .mv [.t 28],
 ox 11 .mv [.t 29]])
 (.seq
 (.seq
 (.ops [0, 1, 8, 11, 12, 31] [
 ox 30 .mv [.t 11],
 ox 31 (.eq false .int) [.t 30, .c (.int .i64 0)]])
 (.cond (.t 31)
 (.ops [1, 8, 11, 12] [
 ox 32 .mv [.t 0],
 ox 33 .mv [.t 12],
 ox 34 (.call 29) [.t 32, .c (.int .i64 0), .t 33],
 ox 11 .mv [.t 34]])
 .skip))
 (.seq
 (.seq
 (.ops [1, 8, 11, 12, 36] [
 ox 35 .mv [.t 11],
 ox 36 (.eq true .int) [.t 35, .c (.int .i64 0)]])
 (.cond (.t 36)
 (.seq
 (.ops [8, 9] [
 ox 37 (.build (List.replicate 32 (.int .u8 0)) []) [],
 ox 38 .mv [.t 11],
 oy (.store 32) [.t 8, .t 37],
 ox 9 .mv [.t 38]])
 .ret)
 .skip))
 (.seq
 (.ops [8, 9] [
 ox 39 .mv [.t 1],
 ox 40 .mv [.t 12],
 ox 41 (.invoke "Sum") [.t 39, .t 40],
 oy (.store 32) [.t 8, .t 41],
 ox 9 .mv [.c (.int .i64 0)]])
 .ret)))))))
def r11 : List ARes := [.cell 8 true 32, .tmp 9]
theorem ok11 : FnOk Tryz.prog 11 c11 r11 :=
 ⟨Tryz.f11, _, Tryz.func11, by kernel_rfl, rfl, by kernel_rfl, by kernel_rfl⟩
def c12 : ACode :=
 (.seq
 (.ops [0, 1, 2, 7, 8] [
 ox 7 .box [.t 3],
 ox 8 (.alloc (List.replicate 32 (.int .u8 0))) [],
 ox 9 .mv [.c (.int .i64 0)]])
 (.seq
 (.ops [0, 1, 2, 8, 10, 11] [
 ox 16 (.load true 3) [.t 7],
 ox 17 (.call 30) [.t 16],
 ox 15 .mv [.t 17],
 ox 18 (.extract 0) [.t 15],
 ox 19 (.extract 1) [.t 15],
 ox 10 .mv [.t 18],
 ox 11 .mv [.t 19]])
 (.seq
 (.seq
 (.ops [0, 1, 2, 8, 10, 11, 21] [
 ox 20 .mv [.t 11],
 ox 21 (.eq true .int) [.t 20, .c (.int .i64 0)]])
 (.cond (.t 21)
 (.seq
 (.ops [8, 9] [
 ox 22 (.build (List.replicate 32 (.int .u8 0)) []) [],
 ox 23 .mv [.t 11],
 oy (.store 32) [.t 8, .t 22],
 ox 9 .mv [.t 23]])
 .ret)
 .skip))
 (.seq
 (.ops [0, 1, 8, 12, 13] [
 ox 25 .mv [.t 1],
 ox 26 .mv [.t 2],
 ox 27 .mv [.t 10],
 ox 28 (.build [.int .i64 0, .int .i64 0, .int .i64 0, .int .i64 0, .nils] [(0, 1), (1, 1), (4, 1)]) [.c (.int .i64 1), .t 26, .t 27],
 ox 29 (.call 31) [.t 25, .t 28],
 ox 24 .mv [.t 29],
 ox 30 (.extract 0) [.t 24],
 ox 31 (.extract 1) [.t 24],
 ox 12 .mv [.t 30],
 ox 13 .mv [.t 31]])
 (.seq
 (.seq
 (.ops [0, 1, 8, 12, 13, 33] [
 ox 32 .mv [.t 13],
 ox 33 (.eq true .int) [.t 32, .c (.int .i64 0)]])
 (.cond (.t 33)
 (.seq
 (.ops [8, 9] [
 ox 34 (.build (List.replicate 32 (.int .u8 0)) []) [],
 ox 35 .mv [.t 13],
 oy (.store 32) [.t 8, .t 34],
 ox 9 .mv [.t 35]])
 .ret)
 .skip))
 (.seq
 (.ops [1, 8, 12, 14] [
 ox 36 .mv [.t 0],
 ox 37 .mv [.t 12],
 ox 38 (.call 32) [.t 36, .c (.int .i64 0), .t 37],
 ox 14 .mv [.t 38]])
 (.seq
 (.seq
 (.ops [1, 8, 12, 14, 40] [
 ox 39 .mv [.t 14],
 ox 40 (.eq true .int) [.t 39, .c (.int .i64 0)]])
 (.cond (.t 40)
 (.seq
 (.ops [8, 9] [
 ox 41 (.build (List.replicate 32 (.int .u8 0)) []) [],
 ox 42 .mv [.t 14],
 oy (.store 32) [.t 8, .t 41],
 ox 9 .mv [.t 42]])
 .ret)
 .skip))
 (.seq
 (.ops [8, 9] [
 ox 43 .mv [.t 1],
 ox 44 .mv [.t 12],
 ox 45 (.call 33) [.t 43, .t 44],
 oy (.store 32) [.t 8, .t 45],
 ox 9 .mv [.c (.int .i64 0)]])
 .ret))))))))
def r12 : List ARes := [.cell 8 true 32, .tmp 9]
theorem ok12 : FnOk Tryz.prog 12 c12 r12 :=
 ⟨Tryz.f12, _, Tryz.func12, by kernel_rfl, rfl, by kernel_rfl, by kernel_rfl⟩
def c13 : ACode :=
 (.seq
 (.ops [0] [
 ox 2 .mv [.c (.bool false)]])
 (.seq
 (.ops [2] [
 ox 3 .mv [.t 0],
 ox 4 .nilCheck [.t 3],
 ox 5 (.fieldAddr 4) [.t 4],
 ox 6 (.load false 1) [.t 5],
 ox 2 .mv [.t 6]])
 .ret))
def r13 : List ARes := [.tmp 2]
theorem ok13 : FnOk Tryz.prog 13 c13 r13 :=
 ⟨Tryz.f13, _, Tryz.func13, by kernel_rfl, rfl, by kernel_rfl, by kernel_rfl⟩
def c14 : ACode :=
 (.seq
 (.ops [0] [
 ox 2 .mv [.c (.int .i64 0)]])
 (.seq
 (.ops [2] [
 ox 3 .mv [.t 0],
 ox 4 .nilCheck [.t 3],
 ox 5 (.fieldAddr 5) [.t 4],
 ox 6 (.load false 1) [.t 5],
 ox 2 .mv [.t 6]])
 .ret))
def r14 : List ARes := [.tmp 2]
theorem ok14 : FnOk Tryz.prog 14 c14 r14 :=
 ⟨Tryz.f14, _, Tryz.func14, by kernel_rfl, rfl, by kernel_rfl, by kernel_rfl⟩
def c15 : ACode :=
 (.seq
 (.ops [0, 1, 4, 5] [
 ox 4 (.alloc [.int .i64 0, .int .i64 0, .int .i64 0]) [],
 ox 5 (.alloc (List.replicate 32 (.int .u8 0))) [],
 ox 6 .mv [.c (.int .i64 0)]])
 (.seq
 (.ops [1, 4, 5, 7] [
 ox 14 .mv [.t 0],
 ox 15 (.call 17) [.t 14, .c (.int .i64 0)],
 ox 13 .mv [.t 15],
 ox 16 (.extract 0) [.t 13],
 ox 17 (.extract 1) [.t 13],
 ox 7 .mv [.t 16],
 ox 8 .mv [.t 17]])
 (.seq
 (.seq
 (.ops [1, 4, 5, 7, 20] [
 ox 18 .mv [.t 7],
 ox 19 .len [.t 18],
 ox 20 (.eq false .int) [.t 19, .c (.int .i64 0)]])
 (.cond (.t 20)
 (.seq
 (.ops [4, 5, 6] [
 ox 21 (.build [.int .i64 0, .int .i64 0, .int .i64 0] []) [],
 ox 22 (.build (List.replicate 32 (.int .u8 0)) []) [],
 oy (.store 3) [.t 4, .t 21],
 oy (.store 32) [.t 5, .t 22],
 ox 6 .mv [.c (.int .i64 9)]])
 .ret)
 .skip))
 (.seq
 (.ops [1, 4, 5, 7, 9, 10] [
 ox 24 .mv [.t 1],
 ox 25 .mv [.t 7],
 ox 26 (.call 34) [.t 24, .c (.int .i64 1), .c (.int .i64 0), .t 25],
 ox 23 .mv [.t 26],
 ox 27 (.extract 0) [.t 23],
 ox 28 (.extract 1) [.t 23],
 ox 9 (.alloc [.int .i64 0, .int .i64 0, .int .i64 0, .int .i64 0, .nils]) [],
 oy (.store 5) [.t 9, .t 27],
 ox 10 .mv [.t 28]])
 (.seq
 (.ops [1, 4, 5, 7, 9, 10, 11, 12] [
 ox 30 (.fieldAddr 4) [.t 9],
 ox 31 (.load false 1) [.t 30],
 ox 32 (.call 35) [.t 31],
 ox 29 .mv [.t 32],
 ox 33 (.extract 0) [.t 29],
 ox 34 (.extract 1) [.t 29],
 ox 11 (.alloc [.int .i64 0, .int .i64 0, .int .i64 0]) [],
 oy (.store 3) [.t 11, .t 33],
 ox 12 .mv [.t 34]])
 (.seq
 (.seq
 (.ops [1, 4, 5, 7, 11, 45] [
 ox 35 .mv [.t 10],
 ox 36 (.eq true .int) [.t 35, .c (.int .i64 0)],
 ox 37 .mv [.t 36],
 og 38 .mv [.t 12] 37 false,
 og 39 (.eq true .int) [.t 38, .c (.int .i64 0)] 37 false,
 ox 40 .pick [.t 37, .c (.bool true), .t 39],
 ox 41 .mv [.t 40],
 og 42 (.fieldAddr 2) [.t 9] 41 false,
 og 43 (.load false 1) [.t 42] 41 false,
 og 44 (.eq true .int) [.t 43, .c (.int .i64 0)] 41 false,
 ox 45 .pick [.t 41, .c (.bool true), .t 44]])
 (.cond (.t 45)
 (.seq
 (.ops [4, 5, 6] [
 ox 46 (.build [.int .i64 0, .int .i64 0, .int .i64 0] []) [],
 ox 47 (.build (List.replicate 32 (.int .u8 0)) []) [],
 oy (.store 3) [.t 4, .t 46],
 oy (.store 32) [.t 5, .t 47],
 ox 6 .mv [.c (.int .i64 14)]])
 .ret)
 .skip))
 (.seq
 (.drawn [4, 5, 6] [
 od 48 (.load true 3) [.t 11] 0 1,
 ox 49 .mv [.t 1],
 ox 50 .mv [.t 7],
 od 51 (.invoke "Sum") [.t 49, .t 50] 0 1,
 oe (.store 3) [.t 4, .t 48] 1 2,
 oe (.store 32) [.t 5, .t 51] 2 3,
 od 6 .mv [.c (.int .i64 0)] 3 3])
 .ret)))))))
def r15 : List ARes := [.cell 4 true 3, .cell 5 true 32, .tmp 6]
theorem ok15 : FnOk Tryz.prog 15 c15 r15 :=
 ⟨Tryz.f15, _, Tryz.func15, by kernel_rfl, rfl, by kernel_rfl, by kernel_rfl⟩
def c16 : ACode :=
 (.seq
 (.ops [0, 1, 4, 5] [
 ox 4 (.alloc [.int .i64 0, .int .i64 0, .int .i64 0]) [],
 ox 5 (.alloc (List.replicate 32 (.int .u8 0))) [],
 ox 6 .mv [.c (.int .i64 0)]])
 (.seq
 (.ops [1, 4, 5, 7] [
 ox 14 .mv [.t 0],
 ox 15 (.call 36) [.t 14, .c (.int .i64 0)],
 ox 13 .mv [.t 15],
 ox 16 (.extract 0) [.t 13],
 ox 17 (.extract 1) [.t 13],
 ox 7 .mv [.t 16],
 ox 8 .mv [.t 17]])
 (.seq
 (.seq
 (.ops [1, 4, 5, 7, 20] [
 ox 18 .mv [.t 7],
 ox 19 .len [.t 18],
 ox 20 (.eq false .int) [.t 19, .c (.int .i64 0)]])
 (.cond (.t 20)
 (.seq
 (.ops [4, 5, 6] [
 ox 21 (.build [.int .i64 0, .int .i64 0, .int .i64 0] []) [],
 ox 22 (.build (List.replicate 32 (.int .u8 0)) []) [],
 oy (.store 3) [.t 4, .t 21],
 oy (.store 32) [.t 5, .t 22],
 ox 6 .mv [.c (.int .i64 9)]])
 .ret)
 .skip))
 (.seq
 (.ops [1, 4, 5, 7, 9, 10] [
 ox 24 .mv [.t 1],
 ox 25 .mv [.t 7],
 ox 26 (.call 37) [.t 24, .c (.int .i64 1), .c (.int .i64 0), .t 25],
 ox 23 .mv [.t 26],
 ox 27 (.extract 0) [.t 23],
 ox 28 (.extract 1) [.t 23],
 ox 9 (.alloc [.int .i64 0, .int .i64 0, .int .i64 0, .int .i64 0, .nils]) [],
 oy (.store 5) [.t 9, .t 27],
 ox 10 .mv [.t 28]])
 (.seq
 (.ops [1, 4, 5, 7, 9, 10, 11, 12] [
 ox 30 (.fieldAddr 4) [.t 9],
 ox 31 (.load false 1) [.t 30],
 ox 32 (.call 38) [.t 31],
 ox 29 .mv [.t 32],
 ox 33 (.extract 0) [.t 29],
 ox 34 (.extract 1) [.t 29],
 ox 11 (.alloc [.int .i64 0, .int .i64 0, .int .i64 0]) [],
 oy (.store 3) [.t 11, .t 33],
 ox 12 .mv [.t 34]])
 (.seq
 (.seq
 (.ops [1, 4, 5, 7, 11, 45] [
 ox 35 .mv [.t 10],
 ox 36 (.eq true .int) [.t 35, .c (.int .i64 0)],
 ox 37 .mv [.t 36],
 og 38 .mv [.t 12] 37 false,
 og 39 (.eq true .int) [.t 38, .c (.int .i64 0)] 37 false,
 ox 40 .pick [.t 37, .c (.bool true), .t 39],
 ox 41 .mv [.t 40],
 og 42 (.fieldAddr 2) [.t 9] 41 false,
 og 43 (.load false 1) [.t 42] 41 false,
 og 44 (.eq true .int) [.t 43, .c (.int .i64 0)] 41 false,
 ox 45 .pick [.t 41, .c (.bool true), .t 44]])
 (.cond (.t 45)
 (.seq
 (.ops [4, 5, 6] [
 ox 46 (.build [.int .i64 0, .int .i64 0, .int .i64 0] []) [],
 ox 47 (.build (List.replicate 32 (.int .u8 0)) []) [],
 oy (.store 3) [.t 4, .t 46],
 oy (.store 32) [.t 5, .t 47],
 ox 6 .mv [.c (.int .i64 14)]])
 .ret)
 .skip))
 (.seq
 (.drawn [4, 5, 6] [
 od 48 (.load true 3) [.t 11] 0 1,
 ox 49 .mv [.t 1],
 ox 50 .mv [.t 7],
 od 51 (.call 33) [.t 49, .t 50] 0 1,
 oe (.store 3) [.t 4, .t 48] 1 2,
 oe (.store 32) [.t 5, .t 51] 2 3,
 od 6 .mv [.c (.int .i64 0)] 3 3])
 .ret)))))))
def r16 : List ARes := [.cell 4 true 3, .cell 5 true 32, .tmp 6]
theorem ok16 : FnOk Tryz.prog 16 c16 r16 :=
 ⟨Tryz.f16, _, Tryz.func16, by kernel_rfl, rfl, by kernel_rfl, by kernel_rfl⟩
def c17 : ACode :=
 (.seq
 (.ops [0, 1] [
 ox 4 .mv [.c .nils],
 ox 5 .mv [.c (.int .i64 0)]])
 (.seq
 (.seq
 (.ops [0, 1, 11] [
 ox 8 .mv [.t 0],
 ox 9 .mv [.t 1],
 ox 10 (.call 39) [.t 8, .t 9],
 ox 11 .not [.t 10]])
 (.cond (.t 11)
 (.seq
 (.ops [4, 5] [
 ox 4 .mv [.c .nils],
 ox 5 .mv [.c (.int .i64 7)]])
 .ret)
 .skip))
 (.seq
 (.ops [0, 1] [
 ox 12 .mv [.t 0],
 ox 13 .nilCheck [.t 12],
 ox 14 (.fieldAddr 6) [.t 13],
 ox 15 (.load false 1) [.t 14],
 ox 16 .mv [.t 1],
 ox 17 (.idxAddr 1) [.t 15, .t 16],
 ox 18 (.load false 1) [.t 17],
 ox 19 (.arith .add) [.t 18, .c (.int .i64 1)],
 ox 20 (.idxAddr 1) [.t 15, .t 16],
 oy (.store 1) [.t 20, .t 19]])
 (.seq
 (.seq
 (.ops [0, 1, 6, 7] [
 ox 22 .mv [.t 0],
 ox 23 .nilCheck [.t 22],
 ox 24 (.fieldAddr 1) [.t 23],
 ox 25 (.load false 1) [.t 24],
 ox 26 .mv [.t 1],
 ox 27 (.lookup (.one .i) .nils true) [.t 25, .t 26],
 ox 21 .mv [.t 27],
 ox 28 (.extract 0) [.t 21],
 ox 29 (.extract 1) [.t 21],
 ox 6 .mv [.t 28],
 ox 7 .mv [.t 29]])
 (.seq
 (.ops [0, 1, 6, 30] [
 ox 30 .mv [.t 7]])
 (.cond (.t 30)
 (.seq
 (.ops [4, 5] [
 ox 31 .mv [.t 6],
 ox 32 (.call 40) [.t 31],
 ox 4 .mv [.t 32],
 ox 5 .mv [.c (.int .i64 0)]])
 .ret)
 .skip)))
 (.seq
 (.ops [4, 5] [
 ox 33 .mv [.t 0],
 ox 34 .nilCheck [.t 33],
 ox 35 (.fieldAddr 0) [.t 34],
 ox 36 (.load false 1) [.t 35],
 ox 37 .mv [.t 1],
 ox 38 (.idxAddr 1) [.t 36, .t 37],
 ox 39 (.load false 1) [.t 38],
 ox 40 (.call 40) [.t 39],
 ox 4 .mv [.t 40],
 ox 5 .mv [.c (.int .i64 0)]])
 .ret)))))
def r17 : List ARes := [.tmp 4, .tmp 5]
theorem ok17 : FnOk Tryz.prog 17 c17 r17 :=
 ⟨Tryz.f17, _, Tryz.func17, by kernel_rfl, rfl, by kernel_rfl, by kernel_rfl⟩
def c18 : ACode :=
 (.seq
 (.ops [0, 1] [
 ox 4 .mv [.c (.bool false)]])
 (.seq
 (.seq
 (.ops [0, 1, 10] [
 ox 6 .mv [.t 0],
 ox 7 .len [.t 6],
 ox 8 .mv [.t 1],
 ox 9 .len [.t 8],
 ox 10 (.eq true .int) [.t 7, .t 9]])
 (.cond (.t 10)
 (.seq
 (.ops [4] [
 ox 4 .mv [.c (.bool false)]])
 .ret)
 .skip))
 (.seq
 (.seq
 (.ops [0, 1, 5] [
 ox 5 .mv [.c (.int .i64 0)]])
 (.block 0
 (.loop [0, 1, 5]
 (.seq
 (.seq
 (.ops [0, 1, 5, 14] [
 ox 11 .mv [.t 5],
 ox 12 .mv [.t 0],
 ox 13 .len [.t 12],
 ox 14 (.cmp .lss) [.t 11, .t 13]])
 (.cond (.t 14)
 .skip
 (.exit 0)))
 (.seq
 (.block 1
 (.seq
 (.drawn [0, 1, 5, 25] [
 ox 17 .mv [.t 0],
 ox 18 .mv [.t 5],
 ox 19 (.idxAddr 1) [.t 17, .t 18],
 ox 20 (.load false 1) [.t 19],
 ox 21 .mv [.t 1],
 ox 22 .mv [.t 5],
 ox 23 (.idxAddr 1) [.t 21, .t 22],
 ox 24 (.load false 1) [.t 23],
 ox 25 (.eq true .int) [.t 20, .t 24]])
 (.cond (.t 25)
 (.seq
 (.ops [4] [
 ox 4 .mv [.c (.bool false)]])
 .ret)
 .skip)))
 (.ops [0, 1, 5] [
 ox 15 .mv [.t 5],
 ox 16 (.arith .add) [.t 15, .c (.int .i64 1)],
 ox 5 .mv [.t 16]]))))))
 (.seq
 (.ops [4] [
 ox 4 .mv [.c (.bool true)]])
 .ret))))
def r18 : List ARes := [.tmp 4]
theorem ok18 : FnOk Tryz.prog 18 c18 r18 :=
 ⟨Tryz.f18, _, Tryz.func18, by kernel_rfl, rfl, by kernel_rfl, by kernel_rfl⟩
def c19 : ACode :=
 (.seq
 (.ops [0, 1] [
 ox 4 .mv [.c .nils]])
 (.seq
 (.ops [0, 1, 5, 6] [
 ox 8 .mv [.t 0],
 ox 9 .nilCheck [.t 8],
 ox 10 (.fieldAddr 5) [.t 9],
 ox 11 (.load false 1) [.t 10],
 ox 12 .mv [.t 1],
 ox 13 (.call 41) [.t 11, .t 12],
 ox 7 .mv [.t 13],
 ox 14 (.extract 0) [.t 7],
 ox 15 (.extract 1) [.t 7],
 ox 5 .mv [.t 14],
 ox 6 .mv [.t 15]])
 (.seq
 (.seq
 (.ops [0, 1, 5, 17] [
 ox 16 .mv [.t 6],
 ox 17 .not [.t 16]])
 (.cond (.t 17)
 (.ops [5] [
 ox 19 .mv [.t 0],
 ox 20 .nilCheck [.t 19],
 ox 21 (.fieldAddr 4) [.t 20],
 ox 22 (.load false 1) [.t 21],
 ox 23 .mv [.t 1],
 ox 24 (.call 41) [.t 22, .t 23],
 ox 18 .mv [.t 24],
 ox 25 (.extract 0) [.t 18],
 ox 26 (.extract 1) [.t 18],
 ox 5 .mv [.t 25]])
 .skip))
 (.seq
 (.ops [4] [
 ox 27 .mv [.t 5],
 ox 4 .mv [.t 27]])
 .ret))))
def r19 : List ARes := [.tmp 4]
theorem ok19 : FnOk Tryz.prog 19 c19 r19 :=
 ⟨Tryz.f19, _, Tryz.func19, by kernel_rfl, rfl, by kernel_rfl, by kernel_rfl⟩
def c20 : ACode :=
 (.seq
 (.ops [0, 1, 2] [
 ox 6 .mv [.c (.int .i64 0)]])
 (.seq
 (.seq
 (.ops [0, 1, 2, 7] [
 ox 8 .mv [.t 0],
 ox 9 .mv [.t 1],
 ox 10 .mv [.t 2],
 ox 11 (.call 42) [.t 8, .t 9, .t 10],
 ox 7 .mv [.t 11]])
 (.seq
 (.ops [0, 1, 2, 7, 13] [
 ox 12 .mv [.t 7],
 ox 13 (.eq true .int) [.t 12, .c (.int .i64 0)]])
 (.cond (.t 13)
 (.seq
 (.ops [6] [
 ox 14 .mv [.t 7],
 ox 6 .mv [.t 14]])
 .ret)
 .skip)))
 (.seq
 (.drawn [0, 1] [
 od 15 .mv [.t 0] 0 1,
 od 16 .nilCheck [.t 15] 0 1,
 od 17 (.fieldAddr 0) [.t 16] 0 1,
 od 18 (.load false 1) [.t 17] 0 1,
 od 19 .mv [.t 1] 0 1,
 ox 20 .mv [.t 2],
 od 21 (.call 40) [.t 20] 0 1,
 od 22 (.idxAddr 1) [.t 18, .t 19] 1 1,
 oe (.store 1) [.t 22, .t 21] 1 2])
 (.seq
 (.ops [] [
 ox 23 .mv [.t 0],
 ox 24 .nilCheck [.t 23],
 ox 25 (.fieldAddr 1) [.t 24],
 ox 26 (.load false 1) [.t 25],
 ox 27 .mv [.t 1],
 oy (.mapDel (.one .i)) [.t 26, .t 27]])
 (.seq
 (.ops [6] [
 ox 6 .mv [.c (.int .i64 0)]])
 .ret)))))
def r20 : List ARes := [.tmp 6]
theorem ok20 : FnOk Tryz.prog 20 c20 r20 :=
 ⟨Tryz.f20, _, Tryz.func20, by kernel_rfl, rfl, by kernel_rfl, by kernel_rfl⟩
def c21 : ACode :=
 (.seq
 (.ops [0, 1, 2] [
 ox 6 .mv [.c (.int .i64 0)]])
 (.seq
 (.ops [0, 1, 2, 7] [
 ox 8 .mv [.t 0],
 ox 9 .mv [.t 1],
 ox 10 .mv [.t 2],
 ox 11 (.call 43) [.t 8, .t 9, .t 10],
 ox 7 .mv [.t 11]])
 (.seq
 (.seq
 (.ops [0, 1, 2, 7, 13] [
 ox 12 .mv [.t 7],
 ox 13 (.eq true .int) [.t 12, .c (.int .i64 0)]])
 (.cond (.t 13)
 (.seq
 (.ops [6] [
 ox 14 .mv [.t 7],
 ox 6 .mv [.t 14]])
 .ret)
 .skip))
 (.seq
 (.drawn [0, 1] [
 od 15 .mv [.t 0] 0 2,
 od 16 .mv [.t 0] 0 1,
 od 17 .nilCheck [.t 16] 0 1,
 od 18 (.fieldAddr 4) [.t 17] 0 1,
 od 19 (.load false 1) [.t 18] 0 1,
 od 20 .mv [.t 1] 0 1,
 ox 21 .mv [.t 2],
 od 22 (.call 45) [.t 21] 0 1,
 od 23 (.build [.int .i64 0, .nils] [(0, 1), (1, 1)]) [.t 20, .t 22] 1 1,
 od 24 (.call 44) [.t 19, .t 23] 1 2,
 od 25 .nilCheck [.t 15] 2 2,
 od 26 (.fieldAddr 4) [.t 25] 2 2,
 oe (.store 1) [.t 26, .t 24] 2 3])
 (.seq
 (.ops [] [
 ox 27 .mv [.t 0],
 ox 28 .mv [.t 0],
 ox 29 .nilCheck [.t 28],
 ox 30 (.fieldAddr 5) [.t 29],
 ox 31 (.load false 1) [.t 30],
 ox 32 .mv [.t 1],
 ox 33 (.call 46) [.t 31, .t 32],
 ox 34 .nilCheck [.t 27],
 ox 35 (.fieldAddr 5) [.t 34],
 oy (.store 1) [.t 35, .t 33]])
 (.seq
 (.ops [6] [
 ox 6 .mv [.c (.int .i64 0)]])
 .ret))))))
def r21 : List ARes := [.tmp 6]
theorem ok21 : FnOk Tryz.prog 21 c21 r21 :=
 ⟨Tryz.f21, _, Tryz.func21, by kernel_rfl, rfl, by kernel_rfl, by kernel_rfl⟩
def c22 : ACode :=
 (.seq
 (.ops [] [
 ox 0 .mv [.c .nilp]])
 (.seq
 (.ops [0] [
 ox 1 .mkMap [],
 ox 2 .mkMap [],
 ox 3 (.build [.mapn, .nils, .mapn] [(0, 1), (2, 1)]) [.t 1, .t 2],
 ox 4 .box [.t 3],
 ox 0 .mv [.t 4]])
 .ret))
def r22 : List ARes := [.tmp 0]
theorem ok22 : FnOk Tryz.prog 22 c22 r22 :=
 ⟨Tryz.f22, _, Tryz.func22, by kernel_rfl, rfl, by kernel_rfl, by kernel_rfl⟩
def c23 : ACode :=
 (.seq
 (.ops [0] [
 ox 0 (.alloc [.int .i64 0, .int .i64 0, .int .i64 0]) []])
 (.seq
 (.ops [0] [
 ox 1 (.build [.int .i64 0, .int .i64 0, .int .i64 0] [(0, 1), (1, 1), (2, 1)]) [.c (.int .i64 18), .c (.int .i64 32), .c (.int .i64 4)],
 oy (.store 3) [.t 0, .t 1]])
 .ret))
def r23 : List ARes := [.cell 0 true 3]
theorem ok23 : FnOk Tryz.prog 23 c23 r23 :=
 ⟨Tryz.f23, _, Tryz.func23, by kernel_rfl, rfl, by kernel_rfl, by kernel_rfl⟩
def c24 : ACode :=
 (.seq
 (.ops [0, 1, 4] [
 ox 4 (.alloc (List.replicate 32 (.int .u8 0))) []])
 (.seq
 (.ops [4] [
 ox 5 .mv [.t 0],
 ox 6 .mv [.t 1],
 ox 7 .s2b [.t 6],
 ox 8 (.call 47) [.t 5, .t 7],
 oy (.store 32) [.t 4, .t 8]])
 .ret))
def r24 : List ARes := [.cell 4 true 32]
theorem ok24 : FnOk Tryz.prog 24 c24 r24 :=
 ⟨Tryz.f24, _, Tryz.func24, by kernel_rfl, rfl, by kernel_rfl, by kernel_rfl⟩
def c25 : ACode :=
 (.seq
 (.ops [0] [
 ox 2 .mv [.c .nilp],
 ox 3 .mv [.c (.int .i64 0)]])
 (.seq
 (.ops [0, 4] [
 ox 11 .mv [.t 0],
 ox 12 .len [.t 11],
 ox 4 .mv [.t 12]])
 (.seq
 (.seq
 (.ops [0, 4, 22] [
 ox 13 .mv [.t 4],
 ox 14 (.eq true .int) [.t 13, .c (.int .i64 16)],
 ox 15 .mv [.t 14],
 og 16 .mv [.t 4] 15 true,
 og 17 (.eq true .int) [.t 16, .c (.int .i64 24)] 15 true,
 ox 18 .pick [.t 15, .t 17, .c (.bool false)],
 ox 19 .mv [.t 18],
 og 20 .mv [.t 4] 19 true,
 og 21 (.eq true .int) [.t 20, .c (.int .i64 32)] 19 true,
 ox 22 .pick [.t 19, .t 21, .c (.bool false)]])
 (.cond (.t 22)
 (.seq
 (.ops [2, 3] [
 ox 2 .mv [.c .nilp],
 ox 3 .mv [.c (.int .i64 1)]])
 .ret)
 .skip))
 (.seq
 (.ops [0, 4, 5] [
 ox 23 (.call 48) [],
 ox 24 (.build ([.nils] ++ (List.replicate 256 (.int .u8 0))) [(1, 256)]) [.t 23],
 ox 25 .box [.t 24],
 ox 5 .mv [.t 25]])
 (.seq
 (.ops [4, 5, 6] [
 ox 26 (.mkSl 0 [] []) [],
 ox 27 .mv [.t 0],
 ox 28 (.append 1 1) [.t 26, .t 27],
 ox 6 .mv [.t 28]])
 (.seq
 (.ops [4, 5, 6, 7] [
 ox 7 .mv [.c (.int .u8 1)]])
 (.seq
 (.seq
 (.ops [4, 5, 6, 7, 8] [
 ox 29 .mv [.t 4],
 ox 8 .mv [.t 29]])
 (.block 0
 (.loop [4, 5, 6, 7, 8]
 (.seq
 (.seq
 (.ops [4, 5, 6, 7, 8, 35] [
 ox 30 .mv [.t 8],
 ox 31 .mv [.t 4],
 ox 32 (.arith .quo) [.t 31, .c (.int .i64 4)],
 ox 33 (.arith .add) [.t 32, .c (.int .i64 7)],
 ox 34 (.arith .mul) [.c (.int .i64 16), .t 33],
 ox 35 (.cmp .lss) [.t 30, .t 34]])
 (.cond (.t 35)
 .skip
 (.exit 0)))
 (.seq
 (.block 1
 (.seq
 (.ops [4, 5, 6, 7, 8, 9] [
 ox 38 .mv [.t 6],
 ox 39 .mv [.t 8],
 ox 40 (.arith .sub) [.t 39, .c (.int .i64 4)],
 ox 41 .mv [.t 8],
 ox 42 (.slice 1 true true false) [.t 38, .t 40, .t 41],
 ox 43 (.arrPtr 4) [.t 42],
 ox 44 (.load true 4) [.t 43],
 ox 9 (.alloc [.int .u8 0, .int .u8 0, .int .u8 0, .int .u8 0]) [],
 oy (.store 4) [.t 9, .t 44]])
 (.seq
 (.block 2
 (.seq
 (.ops [4, 5, 6, 7, 8, 9, 45] [
 ox 46 .mv [.t 8],
 ox 47 .mv [.t 4],
 ox 48 (.arith .rem) [.t 46, .t 47],
 ox 49 (.eq false .int) [.t 48, .c (.int .i64 0)],
 ox 45 .mv [.t 49]])
 (.cond (.t 45)
 (.seq
 (.drawn [4, 5, 6, 7, 8, 9] [
 ox 50 .mv [.t 5],
 ox 51 (.idxAddrArr 4 1) [.t 9, .c (.int .i64 1)],
 ox 52 (.load false 1) [.t 51],
 ox 53 .nilCheck [.t 50],
 ox 54 (.fieldAddr 1) [.t 53],
 ox 55 (.idxAddrArr 256 1) [.t 54, .t 52],
 ox 56 (.load false 1) [.t 55],
 ox 57 .mv [.t 7],
 ox 58 (.arith .xor) [.t 56, .t 57],
 ox 59 .mv [.t 5],
 ox 60 (.idxAddrArr 4 1) [.t 9, .c (.int .i64 2)],
 ox 61 (.load false 1) [.t 60],
 ox 62 .nilCheck [.t 59],
 ox 63 (.fieldAddr 1) [.t 62],
 ox 64 (.idxAddrArr 256 1) [.t 63, .t 61],
 ox 65 (.load false 1) [.t 64],
 ox 66 .mv [.t 5],
 ox 67 (.idxAddrArr 4 1) [.t 9, .c (.int .i64 3)],
 ox 68 (.load false 1) [.t 67],
 ox 69 .nilCheck [.t 66],
 ox 70 (.fieldAddr 1) [.t 69],
 ox 71 (.idxAddrArr 256 1) [.t 70, .t 68],
 ox 72 (.load false 1) [.t 71],
 ox 73 .mv [.t 5],
 ox 74 (.idxAddrArr 4 1) [.t 9, .c (.int .i64 0)],
 ox 75 (.load false 1) [.t 74],
 ox 76 .nilCheck [.t 73],
 ox 77 (.fieldAddr 1) [.t 76],
 ox 78 (.idxAddrArr 256 1) [.t 77, .t 75],
 ox 79 (.load false 1) [.t 78],
 ox 80 (.build [.int .u8 0, .int .u8 0, .int .u8 0, .int .u8 0] [(0, 1), (1, 1), (2, 1), (3, 1)]) [.t 58, .t 65, .t 72, .t 79],
 oe (.store 4) [.t 9, .t 80] 0 1])
 (.ops [4, 5, 6, 7, 8, 9] [
 ox 81 .mv [.t 7],
 ox 82 (.call 49) [.t 81],
 ox 7 .mv [.t 82]]))
 (.seq
 (.ops [4, 5, 6, 7, 8, 9, 83] [
 ox 84 .mv [.t 4],
 ox 85 (.eq false .int) [.t 84, .c (.int .i64 32)],
 ox 86 .mv [.t 85],
 og 87 .mv [.t 8] 86 true,
 og 88 .mv [.t 4] 86 true,
 og 89 (.arith .rem) [.t 87, .t 88] 86 true,
 og 90 (.eq false .int) [.t 89, .c (.int .i64 16)] 86 true,
 ox 91 .pick [.t 86, .t 90, .c (.bool false)],
 ox 83 .mv [.t 91]])
 (.cond (.t 83)
 (.drawn [4, 5, 6, 7, 8, 9] [
 ox 92 .mv [.t 5],
 ox 93 (.idxAddrArr 4 1) [.t 9, .c (.int .i64 0)],
 ox 94 (.load false 1) [.t 93],
 ox 95 .nilCheck [.t 92],
 ox 96 (.fieldAddr 1) [.t 95],
 ox 97 (.idxAddrArr 256 1) [.t 96, .t 94],
 ox 98 (.load false 1) [.t 97],
 ox 99 .mv [.t 5],
 ox 100 (.idxAddrArr 4 1) [.t 9, .c (.int .i64 1)],
 ox 101 (.load false 1) [.t 100],
 ox 102 .nilCheck [.t 99],
 ox 103 (.fieldAddr 1) [.t 102],
 ox 104 (.idxAddrArr 256 1) [.t 103, .t 101],
 ox 105 (.load false 1) [.t 104],
 ox 106 .mv [.t 5],
 ox 107 (.idxAddrArr 4 1) [.t 9, .c (.int .i64 2)],
 ox 108 (.load false 1) [.t 107],
 ox 109 .nilCheck [.t 106],
 ox 110 (.fieldAddr 1) [.t 109],
 ox 111 (.idxAddrArr 256 1) [.t 110, .t 108],
 ox 112 (.load false 1) [.t 111],
 ox 113 .mv [.t 5],
 ox 114 (.idxAddrArr 4 1) [.t 9, .c (.int .i64 3)],
 ox 115 (.load false 1) [.t 114],
 ox 116 .nilCheck [.t 113],
 ox 117 (.fieldAddr 1) [.t 116],
 ox 118 (.idxAddrArr 256 1) [.t 117, .t 115],
 ox 119 (.load false 1) [.t 118],
 ox 120 (.build [.int .u8 0, .int .u8 0, .int .u8 0, .int .u8 0] [(0, 1), (1, 1), (2, 1), (3, 1)]) [.t 98, .t 105, .t 112, .t 119],
 oe (.store 4) [.t 9, .t 120] 0 1])
 .skip)))))
 (.seq
 (.ops [4, 5, 6, 7, 8, 9, 121] [
 ox 121 .mv [.c (.int .i64 0)]])
 (.block 3
 (.loop [4, 5, 6, 7, 8, 9, 121]
 (.seq
 (.ops [4, 5, 6, 7, 8, 9, 121, 122] [
 ox 122 (.cmp .lss) [.t 121, .c (.int .i64 4)]])
 (.seq
 (.cond (.t 122)
 .skip
 (.exit 3))
 (.seq
 (.block 4
 (.seq
 (.ops [4, 5, 6, 7, 8, 9, 10, 121] [
 ox 123 .mv [.t 121],
 ox 10 .mv [.t 123]])
 (.drawn [4, 5, 6, 7, 8, 9, 121] [
 ox 124 .mv [.t 6],
 ox 125 .mv [.t 6],
 ox 126 .mv [.t 8],
 ox 127 .mv [.t 4],
 ox 128 (.arith .sub) [.t 126, .t 127],
 ox 129 .mv [.t 10],
 ox 130 (.arith .add) [.t 128, .t 129],
 ox 131 (.idxAddr 1) [.t 125, .t 130],
 ox 132 (.load false 1) [.t 131],
 ox 133 .mv [.t 10],
 ox 134 (.idxAddrArr 4 1) [.t 9, .t 133],
 ox 135 (.load false 1) [.t 134],
 ox 136 (.arith .xor) [.t 132, .t 135],
 ox 137 (.mkSl 1 [.int .u8 0] [(0, 1)]) [.t 136],
 od 138 (.append 1 1) [.t 124, .t 137] 0 1,
 od 6 .mv [.t 138] 1 1])))
 (.ops [4, 5, 6, 7, 8, 9, 121] [
 ox 139 (.arith .add) [.t 121, .c (.int .i64 1)],
 ox 121 .mv [.t 139]]))))))))))
 (.ops [4, 5, 6, 7, 8] [
 ox 36 .mv [.t 8],
 ox 37 (.arith .add) [.t 36, .c (.int .i64 4)],
 ox 8 .mv [.t 37]]))))))
 (.seq
 (.block 5
 (.loop [5, 6]
 (.seq
 (.seq
 (.ops [5, 6, 142] [
 ox 140 .mv [.t 6],
 ox 141 .len [.t 140],
 ox 142 (.cmp .gtr) [.t 141, .c (.int .i64 0)]])
 (.cond (.t 142)
 .skip
 (.exit 5)))
 (.seq
 (.block 6
 (.drawn [5, 6] [
 od 145 .mv [.t 5] 0 1,
 ox 146 .mv [.t 5],
 ox 147 .nilCheck [.t 146],
 ox 148 (.fieldAddr 0) [.t 147],
 ox 149 (.load false 1) [.t 148],
 ox 150 .mv [.t 6],
 ox 151 (.slice 1 false true false) [.t 150, .c (.int .i64 16)],
 ox 152 (.arrPtr 16) [.t 151],
 ox 153 (.load true 16) [.t 152],
 ox 154 (.mkSl 1 (List.replicate 16 (.int .u8 0)) [(0, 16)]) [.t 153],
 od 155 (.append 16 16) [.t 149, .t 154] 0 1,
 od 156 .nilCheck [.t 145] 1 1,
 od 157 (.fieldAddr 0) [.t 156] 1 1,
 oe (.store 1) [.t 157, .t 155] 1 2]))
 (.ops [5, 6] [
 ox 143 .mv [.t 6],
 ox 144 (.slice 1 true false false) [.t 143, .c (.int .i64 16)],
 ox 6 .mv [.t 144]])))))
 (.seq
 (.ops [2, 3] [
 ox 158 .mv [.t 5],
 ox 2 .mv [.t 158],
 ox 3 .mv [.c (.int .i64 0)]])
 .ret)))))))))
def r25 : List ARes := [.tmp 2, .tmp 3]
theorem ok25 : FnOk Tryz.prog 25 c25 r25 :=
 ⟨Tryz.f25, _, Tryz.func25, by kernel_rfl, rfl, by kernel_rfl, by kernel_rfl⟩
def c26 : ACode :=
 (.seq
 (.ops [0] [
 ox 2 .mv [.c .nilp]])
 (.seq
 (.ops [0, 3] [
 ox 7 .mv [.t 0],
 ox 8 (.call 50) [.t 7, .c (.str ⟨#[101, 110, 99, 114, 121, 112, 116]⟩)],
 ox 3 (.alloc (List.replicate 32 (.int .u8 0))) [],
 oy (.store 32) [.t 3, .t 8]])
 (.seq
 (.ops [3, 4] [
 ox 9 .mv [.t 0],
 ox 10 (.call 50) [.t 9, .c (.str ⟨#[97, 117, 116, 104, 101, 110, 116, 105, 99, 97, 116, 101]⟩)],
 ox 4 (.alloc (List.replicate 32 (.int .u8 0))) [],
 oy (.store 32) [.t 4, .t 10]])
 (.seq
 (.ops [4, 5] [
 ox 12 (.sliceArr 32 1 false true false) [.t 3, .c (.int .i64 16)],
 ox 13 (.call 51) [.t 12],
 ox 11 .mv [.t 13],
 ox 14 (.extract 0) [.t 11],
 ox 15 (.extract 1) [.t 11],
 ox 5 .mv [.t 14],
 ox 6 .mv [.t 15]])
 (.seq
 (.ops [2] [
 ox 16 .mv [.t 5],
 ox 17 (.mkSl 0 [] []) [],
 ox 18 (.sliceArr 32 1 false false false) [.t 4],
 ox 19 (.append 1 1) [.t 17, .t 18],
 ox 20 (.build [.nilp, .nils] [(0, 1), (1, 1)]) [.t 16, .t 19],
 ox 21 .box [.t 20],
 ox 2 .mv [.t 21]])
 .ret)))))
def r26 : List ARes := [.tmp 2]
theorem ok26 : FnOk Tryz.prog 26 c26 r26 :=
 ⟨Tryz.f26, _, Tryz.func26, by kernel_rfl, rfl, by kernel_rfl, by kernel_rfl⟩
def c27 : ACode :=
 (.seq
 (.ops [1] [
 ox 1 .box [.t 0],
 ox 2 .mv [.c .nils],
 ox 3 .mv [.c (.int .i64 0)]])
 (.seq
 (.seq
 (.ops [1, 4] [
 ox 5 (.load true 3) [.t 1],
 ox 6 (.call 52) [.t 5],
 ox 4 .mv [.t 6]])
 (.seq
 (.ops [1, 4, 8] [
 ox 7 .mv [.t 4],
 ox 8 (.eq true .int) [.t 7, .c (.int .i64 0)]])
 (.cond (.t 8)
 (.seq
 (.ops [2, 3] [
 ox 9 .mv [.t 4],
 ox 2 .mv [.c .nils],
 ox 3 .mv [.t 9]])
 .ret)
 .skip)))
 (.seq
 (.drawn [2, 3] [
 ox 10 (.fieldAddr 0) [.t 1],
 ox 11 (.load false 1) [.t 10],
 od 12 (.call 53) [.c .nils, .t 11] 0 1,
 od 13 (.fieldAddr 1) [.t 1] 0 1,
 od 14 (.load false 1) [.t 13] 0 1,
 od 15 (.call 53) [.t 12, .t 14] 1 2,
 od 16 (.fieldAddr 2) [.t 1] 0 2,
 od 17 (.load false 1) [.t 16] 0 2,
 od 18 (.call 53) [.t 15, .t 17] 2 3,
 od 2 .mv [.t 18] 3 3,
 od 3 .mv [.c (.int .i64 0)] 3 3])
 .ret)))
def r27 : List ARes := [.tmp 2, .tmp 3]
theorem ok27 : FnOk Tryz.prog 27 c27 r27 :=
 ⟨Tryz.f27, _, Tryz.func27, by kernel_rfl, rfl, by kernel_rfl, by kernel_rfl⟩
def c28 : ACode :=
 (.seq
 (.ops [0, 3] [
 ox 3 .box [.t 1],
 ox 4 .mv [.c .nils],
 ox 5 .mv [.c (.int .i64 0)]])
 (.seq
 (.block 0
 (.seq
 (.seq
 (.ops [0, 3, 7] [
 ox 8 (.fieldAddr 0) [.t 3],
 ox 9 (.load false 1) [.t 8],
 ox 10 (.cmp .lss) [.t 9, .c (.int .i64 1)],
 ox 7 .mv [.t 10]])
 (.cond (.t 7)
 .skip
 (.ops [0, 3, 7] [
 ox 11 (.fieldAddr 0) [.t 3],
 ox 12 (.load false 1) [.t 11],
 ox 13 (.cmp .gtr) [.t 12, .c (.int .i64 5)],
 ox 7 .mv [.t 13]])))
 (.cond (.t 7)
 (.seq
 (.ops [4, 5] [
 ox 4 .mv [.c .nils],
 ox 5 .mv [.c (.int .i64 5)]])
 .ret)
 (.seq
 (.ops [0, 3, 14] [
 ox 15 (.fieldAddr 1) [.t 3],
 ox 16 (.load false 1) [.t 15],
 ox 17 (.fieldAddr 2) [.t 3],
 ox 18 (.load false 1) [.t 17],
 ox 19 (.fieldAddr 3) [.t 3],
 ox 20 (.load false 1) [.t 19],
 ox 21 (.call 54) [.t 16, .t 18, .t 20],
 ox 22 .not [.t 21],
 ox 14 .mv [.t 22]])
 (.cond (.t 14)
 (.seq
 (.ops [4, 5] [
 ox 4 .mv [.c .nils],
 ox 5 .mv [.c (.int .i64 7)]])
 .ret)
 (.seq
 (.ops [0, 3, 23] [
 ox 24 (.fieldAddr 4) [.t 3],
 ox 25 (.load false 1) [.t 24],
 ox 26 .len [.t 25],
 ox 27 (.cmp .gtr) [.t 26, .c (.int .i64 975)],
 ox 23 .mv [.t 27]])
 (.cond (.t 23)
 (.seq
 (.ops [4, 5] [
 ox 4 .mv [.c .nils],
 ox 5 .mv [.c (.int .i64 3)]])
 .ret)
 .skip)))))))
 (.seq
 (.drawn [0, 3, 6] [
 ox 28 (.fieldAddr 0) [.t 3],
 ox 29 (.load false 1) [.t 28],
 ox 30 (.conv .u8) [.t 29],
 ox 31 (.mkSl 1 [.int .u8 0] [(0, 1)]) [.t 30],
 ox 32 (.fieldAddr 1) [.t 3],
 ox 33 (.load false 1) [.t 32],
 od 34 (.call 53) [.t 31, .t 33] 0 1,
 od 35 (.fieldAddr 2) [.t 3] 0 1,
 od 36 (.load false 1) [.t 35] 0 1,
 od 37 (.call 53) [.t 34, .t 36] 1 2,
 od 6 .mv [.t 37] 2 2])
 (.seq
 (.drawn [4, 5] [
 od 38 .mv [.t 6] 0 2,
 od 39 .mv [.t 0] 0 1,
 od 40 (.fieldAddr 1) [.t 3] 0 1,
 od 41 (.load false 1) [.t 40] 0 1,
 od 42 (.fieldAddr 2) [.t 3] 0 1,
 od 43 (.load false 1) [.t 42] 0 1,
 ox 44 (.fieldAddr 0) [.t 3],
 ox 45 (.load false 1) [.t 44],
 ox 46 (.fieldAddr 3) [.t 3],
 ox 47 (.load false 1) [.t 46],
 od 48 (.call 55) [.t 45, .t 47] 0 1,
 od 49 (.fieldAddr 4) [.t 3] 0 1,
 od 50 (.load false 1) [.t 49] 0 1,
 od 51 (.mkFn (.method "Seal") 1) [.t 39] 0 1,
 od 52 .nilCheck [.t 51] 0 1,
 od 53 .mv [.t 39] 0 1,
 od 54 (.invoke "Seal") [.t 53, .t 41, .t 43, .t 48, .t 50] 1 2,
 od 55 (.append 1 1) [.t 38, .t 54] 2 3,
 od 4 .mv [.t 55] 3 3,
 od 5 .mv [.c (.int .i64 0)] 3 3])
 .ret))))
def r28 : List ARes := [.tmp 4, .tmp 5]
theorem ok28 : FnOk Tryz.prog 28 c28 r28 :=
 ⟨Tryz.f28, _, Tryz.func28, by kernel_rfl, rfl, by kernel_rfl, by kernel_rfl⟩
def c29 : ACode :=
 (.seq
 (.ops [0, 1, 2] [
 ox 6 .mv [.c (.int .i64 0)]])
 (.seq
 (.seq
 (.ops [0, 1, 2, 12] [
 ox 9 .mv [.t 0],
 ox 10 .nilCheck [.t 9],
 ox 11 (.fieldAddr 4) [.t 10],
 ox 12 (.load false 1) [.t 11]])
 (.cond (.t 12)
 (.seq
 (.ops [6] [
 ox 6 .mv [.c (.int .i64 12)]])
 .ret)
 .skip))
 (.seq
 (.seq
 (.ops [0, 1, 2, 7] [
 ox 13 .mv [.t 0],
 ox 14 .mv [.t 1],
 ox 15 .mv [.t 2],
 ox 16 (.call 42) [.t 13, .t 14, .t 15],
 ox 7 .mv [.t 16]])
 (.seq
 (.ops [0, 1, 2, 7, 18] [
 ox 17 .mv [.t 7],
 ox 18 (.eq true .int) [.t 17, .c (.int .i64 0)]])
 (.cond (.t 18)
 (.seq
 (.ops [6] [
 ox 19 .mv [.t 7],
 ox 6 .mv [.t 19]])
 .ret)
 .skip)))
 (.seq
 (.seq
 (.ops [0, 1, 2, 8] [
 ox 20 .mv [.t 0],
 ox 21 (.call 56) [.t 20],
 ox 8 .mv [.t 21]])
 (.seq
 (.ops [0, 1, 2, 8, 23] [
 ox 22 .mv [.t 8],
 ox 23 (.eq true .int) [.t 22, .c (.int .i64 0)]])
 (.cond (.t 23)
 (.seq
 (.ops [6] [
 ox 24 .mv [.t 8],
 ox 6 .mv [.t 24]])
 .ret)
 .skip)))
 (.seq
 (.drawn [0] [
 od 25 .mv [.t 0] 0 1,
 od 26 .nilCheck [.t 25] 0 1,
 od 27 (.fieldAddr 1) [.t 26] 0 1,
 od 28 (.load false 1) [.t 27] 0 1,
 od 29 .mv [.t 1] 0 1,
 ox 30 .mv [.t 2],
 od 31 (.call 40) [.t 30] 0 1,
 oe (.mapSet (.one .i)) [.t 28, .t 29, .t 31] 1 2])
 (.seq
 (.ops [] [
 ox 32 .mv [.t 0],
 ox 33 .nilCheck [.t 32],
 ox 34 (.fieldAddr 5) [.t 33],
 ox 35 (.load false 1) [.t 34],
 ox 36 (.arith .add) [.t 35, .c (.int .i64 1)],
 ox 37 .nilCheck [.t 32],
 ox 38 (.fieldAddr 5) [.t 37],
 oy (.store 1) [.t 38, .t 36]])
 (.seq
 (.ops [6] [
 ox 6 .mv [.c (.int .i64 0)]])
 .ret)))))))
def r29 : List ARes := [.tmp 6]
theorem ok29 : FnOk Tryz.prog 29 c29 r29 :=
 ⟨Tryz.f29, _, Tryz.func29, by kernel_rfl, rfl, by kernel_rfl, by kernel_rfl⟩
def c30 : ACode :=
 (.seq
 (.ops [1] [
 ox 1 .box [.t 0],
 ox 2 .mv [.c .nils],
 ox 3 .mv [.c (.int .i64 0)]])
 (.seq
 (.ops [1, 4] [
 ox 5 (.load true 3) [.t 1],
 ox 6 (.call 57) [.t 5],
 ox 4 .mv [.t 6]])
 (.seq
 (.seq
 (.ops [1, 4, 8] [
 ox 7 .mv [.t 4],
 ox 8 (.eq true .int) [.t 7, .c (.int .i64 0)]])
 (.cond (.t 8)
 (.seq
 (.ops [2, 3] [
 ox 9 .mv [.t 4],
 ox 2 .mv [.c .nils],
 ox 3 .mv [.t 9]])
 .ret)
 .skip))
 (.seq
 (.drawn [2, 3] [
 ox 10 (.fieldAddr 0) [.t 1],
 ox 11 (.load false 1) [.t 10],
 od 12 (.call 58) [.c .nils, .t 11] 0 1,
 od 13 (.fieldAddr 1) [.t 1] 0 1,
 od 14 (.load false 1) [.t 13] 0 1,
 od 15 (.call 58) [.t 12, .t 14] 1 2,
 od 16 (.fieldAddr 2) [.t 1] 0 2,
 od 17 (.load false 1) [.t 16] 0 2,
 od 18 (.call 58) [.t 15, .t 17] 2 3,
 od 2 .mv [.t 18] 3 3,
 od 3 .mv [.c (.int .i64 0)] 3 3])
 .ret))))
def r30 : List ARes := [.tmp 2, .tmp 3]
theorem ok30 : FnOk Tryz.prog 30 c30 r30 :=
 ⟨Tryz.f30, _, Tryz.func30, by kernel_rfl, rfl, by kernel_rfl, by kernel_rfl⟩
def c31 : ACode :=
 (.seq
 (.ops [0, 3] [
 ox 3 .box [.t 1],
 ox 4 .mv [.c .nils],
 ox 5 .mv [.c (.int .i64 0)]])
 (.seq
 (.seq
 (.ops [0, 3, 10] [
 ox 7 (.fieldAddr 0) [.t 3],
 ox 8 (.load false 1) [.t 7],
 ox 9 (.call 59) [.t 8],
 ox 10 .not [.t 9]])
 (.cond (.t 10)
 (.seq
 (.ops [4, 5] [
 ox 4 .mv [.c .nils],
 ox 5 .mv [.c (.int .i64 5)]])
 .ret)
 .skip))
 (.seq
 (.seq
 (.ops [0, 3, 26] [
 ox 11 (.fieldAddr 1) [.t 3],
 ox 12 (.load false 1) [.t 11],
 ox 13 (.call 60) [.t 12],
 ox 14 .not [.t 13],
 ox 15 .mv [.t 14],
 og 16 (.fieldAddr 2) [.t 3] 15 false,
 og 17 (.load false 1) [.t 16] 15 false,
 og 18 (.call 60) [.t 17] 15 false,
 og 19 .not [.t 18] 15 false,
 ox 20 .pick [.t 15, .c (.bool true), .t 19],
 ox 21 .mv [.t 20],
 og 22 (.fieldAddr 3) [.t 3] 21 false,
 og 23 (.load false 1) [.t 22] 21 false,
 og 24 (.call 61) [.t 23] 21 false,
 og 25 .not [.t 24] 21 false,
 ox 26 .pick [.t 21, .c (.bool true), .t 25]])
 (.cond (.t 26)
 (.seq
 (.ops [4, 5] [
 ox 4 .mv [.c .nils],
 ox 5 .mv [.c (.int .i64 7)]])
 .ret)
 .skip))
 (.seq
 (.seq
 (.ops [0, 3, 30] [
 ox 27 (.fieldAddr 4) [.t 3],
 ox 28 (.load false 1) [.t 27],
 ox 29 .len [.t 28],
 ox 30 (.cmp .gtr) [.t 29, .c (.int .i64 975)]])
 (.cond (.t 30)
 (.seq
 (.ops [4, 5] [
 ox 4 .mv [.c .nils],
 ox 5 .mv [.c (.int .i64 3)]])
 .ret)
 .skip))
 (.seq
 (.drawn [0, 3, 6] [
 ox 31 (.fieldAddr 0) [.t 3],
 ox 32 (.load false 1) [.t 31],
 ox 33 (.conv .u8) [.t 32],
 ox 34 (.mkSl 1 [.int .u8 0] [(0, 1)]) [.t 33],
 ox 35 (.fieldAddr 1) [.t 3],
 ox 36 (.load false 1) [.t 35],
 od 37 (.call 58) [.t 34, .t 36] 0 1,
 od 38 (.fieldAddr 2) [.t 3] 0 1,
 od 39 (.load false 1) [.t 38] 0 1,
 od 40 (.call 58) [.t 37, .t 39] 1 2,
 od 6 .mv [.t 40] 2 2])
 (.seq
 (.drawn [4, 5] [
 od 41 .mv [.t 6] 0 2,
 od 42 .mv [.t 0] 0 1,
 od 43 (.fieldAddr 1) [.t 3] 0 1,
 od 44 (.load false 1) [.t 43] 0 1,
 od 45 (.fieldAddr 2) [.t 3] 0 1,
 od 46 (.load false 1) [.t 45] 0 1,
 ox 47 (.fieldAddr 0) [.t 3],
 ox 48 (.load false 1) [.t 47],
 ox 49 (.fieldAddr 3) [.t 3],
 ox 50 (.load false 1) [.t 49],
 od 51 (.call 63) [.t 48, .t 50] 0 1,
 od 52 (.fieldAddr 4) [.t 3] 0 1,
 od 53 (.load false 1) [.t 52] 0 1,
 od 54 (.call 62) [.t 42, .t 44, .t 46, .t 51, .t 53] 1 2,
 od 55 (.append 1 1) [.t 41, .t 54] 2 3,
 od 4 .mv [.t 55] 3 3,
 od 5 .mv [.c (.int .i64 0)] 3 3])
 .ret))))))
def r31 : List ARes := [.tmp 4, .tmp 5]
theorem ok31 : FnOk Tryz.prog 31 c31 r31 :=
 ⟨Tryz.f31, _, Tryz.func31, by kernel_rfl, rfl, by kernel_rfl, by kernel_rfl⟩
def c32 : ACode :=
 (.seq
 (.ops [0, 1, 2] [
 ox 6 .mv [.c (.int .i64 0)]])
 (.seq
 (.seq
 (.ops [0, 1, 2, 11] [
 ox 8 .mv [.t 0],
 ox 9 .nilCheck [.t 8],
 ox 10 (.fieldAddr 3) [.t 9],
 ox 11 (.load false 1) [.t 10]])
 (.cond (.t 11)
 (.seq
 (.ops [6] [
 ox 6 .mv [.c (.int .i64 12)]])
 .ret)
 .skip))
 (.seq
 (.ops [0, 1, 2, 7] [
 ox 12 .mv [.t 0],
 ox 13 .mv [.t 1],
 ox 14 .mv [.t 2],
 ox 15 (.call 43) [.t 12, .t 13, .t 14],
 ox 7 .mv [.t 15]])
 (.seq
 (.seq
 (.ops [0, 1, 2, 7, 17] [
 ox 16 .mv [.t 7],
 ox 17 (.eq false .int) [.t 16, .c (.int .i64 0)]])
 (.cond (.t 17)
 (.ops [0, 1, 2, 7] [
 ox 18 .mv [.t 0],
 ox 19 (.call 64) [.t 18],
 ox 7 .mv [.t 19]])
 .skip))
 (.seq
 (.seq
 (.ops [0, 1, 2, 7, 21] [
 ox 20 .mv [.t 7],
 ox 21 (.eq true .int) [.t 20, .c (.int .i64 0)]])
 (.cond (.t 21)
 (.seq
 (.ops [6] [
 ox 22 .mv [.t 7],
 ox 6 .mv [.t 22]])
 .ret)
 .skip))
 (.seq
 (.drawn [0] [
 od 23 .mv [.t 0] 0 2,
 od 24 .mv [.t 0] 0 1,
 od 25 .nilCheck [.t 24] 0 1,
 od 26 (.fieldAddr 5) [.t 25] 0 1,
 od 27 (.load false 1) [.t 26] 0 1,
 od 28 .mv [.t 1] 0 1,
 ox 29 .mv [.t 2],
 od 30 (.call 45) [.t 29] 0 1,
 od 31 (.build [.int .i64 0, .nils] [(0, 1), (1, 1)]) [.t 28, .t 30] 1 1,
 od 32 (.call 44) [.t 27, .t 31] 1 2,
 od 33 .nilCheck [.t 23] 2 2,
 od 34 (.fieldAddr 5) [.t 33] 2 2,
 oe (.store 1) [.t 34, .t 32] 2 3])
 (.seq
 (.ops [] [
 ox 35 .mv [.t 0],
 ox 36 .mv [.t 0],
 ox 37 .nilCheck [.t 36],
 ox 38 (.fieldAddr 2) [.t 37],
 ox 39 (.load false 1) [.t 38],
 ox 40 (.arith .add) [.t 39, .c (.int .i64 1)],
 ox 41 .nilCheck [.t 35],
 ox 42 (.fieldAddr 2) [.t 41],
 oy (.store 1) [.t 42, .t 40]])
 (.seq
 (.ops [6] [
 ox 6 .mv [.c (.int .i64 0)]])
 .ret))))))))
def r32 : List ARes := [.tmp 6]
theorem ok32 : FnOk Tryz.prog 32 c32 r32 :=
 ⟨Tryz.f32, _, Tryz.func32, by kernel_rfl, rfl, by kernel_rfl, by kernel_rfl⟩
def c33 : ACode :=
 (.seq
 (.ops [0, 1, 4] [
 ox 4 (.alloc (List.replicate 32 (.int .u8 0))) []])
 (.seq
 (.seq
 (.ops [0, 1, 4, 9] [
 ox 5 .mv [.t 0],
 ox 6 .nilCheck [.t 5],
 ox 7 (.fieldAddr 0) [.t 6],
 ox 8 (.load false 1) [.t 7],
 ox 9 (.eq true .ptr) [.t 8, .c .nilp]])
 (.cond (.t 9)
 (.seq
 (.ops [4] [
 ox 10 .mv [.t 0],
 ox 11 .nilCheck [.t 10],
 ox 12 (.fieldAddr 0) [.t 11],
 ox 13 (.load false 1) [.t 12],
 ox 14 .mv [.t 1],
 ox 15 (.call 65) [.t 13, .t 14],
 oy (.store 32) [.t 4, .t 15]])
 .ret)
 .skip))
 (.seq
 (.ops [4] [
 ox 16 .mv [.t 0],
 ox 17 .nilCheck [.t 16],
 ox 18 (.fieldAddr 1) [.t 17],
 ox 19 (.load false 1) [.t 18],
 ox 20 .mv [.t 1],
 ox 21 (.call 66) [.t 19, .t 20],
 oy (.store 32) [.t 4, .t 21]])
 .ret)))
def r33 : List ARes := [.cell 4 true 32]
theorem ok33 : FnOk Tryz.prog 33 c33 r33 :=
 ⟨Tryz.f33, _, Tryz.func33, by kernel_rfl, rfl, by kernel_rfl, by kernel_rfl⟩
def c34 : ACode :=
 (.seq
 (.ops [0, 1, 2, 3, 8] [
 ox 8 (.alloc [.int .i64 0, .int .i64 0, .int .i64 0, .int .i64 0, .nils]) [],
 ox 9 .mv [.c (.int .i64 0)]])
 (.seq
 (.block 0
 (.seq
 (.ops [0, 1, 2, 3, 8, 14] [
 ox 15 .mv [.t 3],
 ox 16 .len [.t 15],
 ox 17 (.cmp .lss) [.t 16, .c (.int .i64 17)],
 ox 14 .mv [.t 17]])
 (.cond (.t 14)
 (.seq
 (.ops [8, 9] [
 ox 18 (.build [.int .i64 0, .int .i64 0, .int .i64 0, .int .i64 0, .nils] []) [],
 oy (.store 5) [.t 8, .t 18],
 ox 9 .mv [.c (.int .i64 2)]])
 .ret)
 (.seq
 (.ops [0, 1, 2, 3, 8, 19] [
 ox 20 .mv [.t 3],
 ox 21 .len [.t 20],
 ox 22 (.cmp .gtr) [.t 21, .c (.int .i64 1024)],
 ox 19 .mv [.t 22]])
 (.cond (.t 19)
 (.seq
 (.ops [8, 9] [
 ox 23 (.build [.int .i64 0, .int .i64 0, .int .i64 0, .int .i64 0, .nils] []) [],
 oy (.store 5) [.t 8, .t 23],
 ox 9 .mv [.c (.int .i64 3)]])
 .ret)
 (.seq
 (.ops [0, 1, 2, 3, 8, 24] [
 ox 25 .mv [.t 1],
 ox 26 (.eq false .int) [.t 25, .c (.int .i64 0)],
 ox 27 .mv [.t 26],
 og 28 .mv [.t 3] 27 false,
 og 29 (.call 67) [.t 28] 27 false,
 og 30 .mv [.t 1] 27 false,
 og 31 (.eq true .int) [.t 29, .t 30] 27 false,
 ox 32 .pick [.t 27, .c (.bool true), .t 31],
 ox 24 .mv [.t 32]])
 (.cond (.t 24)
 (.seq
 (.ops [8, 9] [
 ox 33 (.build [.int .i64 0, .int .i64 0, .int .i64 0, .int .i64 0, .nils] []) [],
 oy (.store 5) [.t 8, .t 33],
 ox 9 .mv [.c (.int .i64 5)]])
 .ret)
 .skip)))))))
 (.seq
 (.ops [0, 1, 2, 3, 8, 10] [
 ox 34 .mv [.t 3],
 ox 35 (.slice 1 true true false) [.t 34, .c (.int .i64 1), .c (.int .i64 17)],
 ox 36 (.call 68) [.t 35],
 ox 10 .mv [.t 36]])
 (.seq
 (.ops [0, 1, 2, 3, 8, 11] [
 ox 37 .mv [.t 1],
 ox 38 .mv [.t 10],
 ox 39 (.call 69) [.t 38],
 ox 40 .mv [.t 10],
 ox 41 (.call 69) [.t 40],
 ox 42 .mv [.t 2],
 ox 43 (.build [.int .i64 0, .int .i64 0, .int .i64 0, .int .i64 0, .nils] [(0, 1), (1, 1), (2, 1), (3, 1)]) [.t 37, .t 39, .t 41, .t 42],
 ox 11 (.alloc [.int .i64 0, .int .i64 0, .int .i64 0, .int .i64 0, .nils]) [],
 oy (.store 5) [.t 11, .t 43]])
 (.seq
 (.seq
 (.ops [0, 1, 2, 3, 8, 11, 50] [
 ox 44 (.fieldAddr 1) [.t 11],
 ox 45 (.load false 1) [.t 44],
 ox 46 (.fieldAddr 2) [.t 11],
 ox 47 (.load false 1) [.t 46],
 ox 48 .mv [.t 2],
 ox 49 (.call 54) [.t 45, .t 47, .t 48],
 ox 50 .not [.t 49]])
 (.cond (.t 50)
 (.seq
 (.ops [8, 9] [
 ox 51 (.build [.int .i64 0, .int .i64 0, .int .i64 0, .int .i64 0, .nils] []) [],
 oy (.store 5) [.t 8, .t 51],
 ox 9 .mv [.c (.int .i64 7)]])
 .ret)
 .skip))
 (.seq
 (.drawn [8, 11, 12, 13] [
 od 53 .mv [.t 0] 0 1,
 od 54 (.fieldAddr 1) [.t 11] 0 1,
 od 55 (.load false 1) [.t 54] 0 1,
 od 56 (.fieldAddr 2) [.t 11] 0 1,
 od 57 (.load false 1) [.t 56] 0 1,
 ox 58 .mv [.t 1],
 ox 59 .mv [.t 2],
 od 60 (.call 55) [.t 58, .t 59] 0 1,
 od 61 .mv [.t 3] 0 1,
 od 62 (.slice 1 true false false) [.t 61, .c (.int .i64 17)] 0 1,
 od 63 (.mkFn (.method "Open") 1) [.t 53] 0 1,
 od 64 .nilCheck [.t 63] 0 1,
 od 65 .mv [.t 53] 0 1,
 od 66 (.invoke "Open") [.t 65, .t 55, .t 57, .t 60, .t 62] 1 2,
 od 52 .mv [.t 66] 2 2,
 od 67 (.extract 0) [.t 52] 2 2,
 od 68 (.extract 1) [.t 52] 2 2,
 od 12 .mv [.t 67] 2 2,
 od 13 .mv [.t 68] 2 2])
 (.seq
 (.seq
 (.ops [8, 11, 12, 70] [
 ox 69 .mv [.t 13],
 ox 70 .not [.t 69]])
 (.cond (.t 70)
 (.seq
 (.ops [8, 9] [
 ox 71 (.build [.int .i64 0, .int .i64 0, .int .i64 0, .int .i64 0, .nils] []) [],
 oy (.store 5) [.t 8, .t 71],
 ox 9 .mv [.c (.int .i64 19)]])
 .ret)
 .skip))
 (.seq
 (.ops [8, 11] [
 ox 72 .mv [.t 12],
 ox 73 (.fieldAddr 4) [.t 11],
 oy (.store 1) [.t 73, .t 72]])
 (.seq
 (.ops [8, 9] [
 ox 74 (.load true 5) [.t 11],
 oy (.store 5) [.t 8, .t 74],
 ox 9 .mv [.c (.int .i64 0)]])
 .ret)))))))))
def r34 : List ARes := [.cell 8 true 5, .tmp 9]
theorem ok34 : FnOk Tryz.prog 34 c34 r34 :=
 ⟨Tryz.f34, _, Tryz.func34, by kernel_rfl, rfl, by kernel_rfl, by kernel_rfl⟩
def c35 : ACode :=
 (.seq
 (.ops [0, 2] [
 ox 2 (.alloc [.int .i64 0, .int .i64 0, .int .i64 0]) [],
 ox 3 .mv [.c (.int .i64 0)]])
 (.seq
 (.ops [2, 4] [
 ox 7 .mv [.t 0],
 ox 8 (.call 68) [.t 7],
 ox 4 .mv [.t 8]])
 (.seq
 (.ops [2, 4, 5] [
 ox 9 .mv [.t 4],
 ox 10 (.call 69) [.t 9],
 ox 11 .mv [.t 4],
 ox 12 (.call 69) [.t 11],
 ox 13 .mv [.t 4],
 ox 14 (.call 69) [.t 13],
 ox 15 (.build [.int .i64 0, .int .i64 0, .int .i64 0] [(0, 1), (1, 1), (2, 1)]) [.t 10, .t 12, .t 14],
 ox 5 (.alloc [.int .i64 0, .int .i64 0, .int .i64 0]) [],
 oy (.store 3) [.t 5, .t 15]])
 (.seq
 (.ops [2, 5, 6] [
 ox 16 .mv [.t 4],
 ox 17 (.call 70) [.t 16],
 ox 6 .mv [.t 17]])
 (.seq
 (.seq
 (.ops [2, 5, 6, 19] [
 ox 18 .mv [.t 6],
 ox 19 (.eq false .int) [.t 18, .c (.int .i64 0)]])
 (.cond (.t 19)
 (.ops [2, 5, 6] [
 ox 20 (.load true 3) [.t 5],
 ox 21 (.call 52) [.t 20],
 ox 6 .mv [.t 21]])
 .skip))
 (.seq
 (.seq
 (.ops [2, 5, 6, 23] [
 ox 22 .mv [.t 6],
 ox 23 (.eq true .int) [.t 22, .c (.int .i64 0)]])
 (.cond (.t 23)
 (.seq
 (.ops [2, 3] [
 ox 24 (.build [.int .i64 0, .int .i64 0, .int .i64 0] []) [],
 ox 25 .mv [.t 6],
 oy (.store 3) [.t 2, .t 24],
 ox 3 .mv [.t 25]])
 .ret)
 .skip))
 (.seq
 (.ops [2, 3] [
 ox 26 (.load true 3) [.t 5],
 oy (.store 3) [.t 2, .t 26],
 ox 3 .mv [.c (.int .i64 0)]])
 .ret)))))))
def r35 : List ARes := [.cell 2 true 3, .tmp 3]
theorem ok35 : FnOk Tryz.prog 35 c35 r35 :=
 ⟨Tryz.f35, _, Tryz.func35, by kernel_rfl, rfl, by kernel_rfl, by kernel_rfl⟩
def c36 : ACode :=
 (.seq
 (.ops [0, 1] [
 ox 4 .mv [.c .nils],
 ox 5 .mv [.c (.int .i64 0)]])
 (.seq
 (.seq
 (.ops [0, 1, 15] [
 ox 6 .mv [.t 1],
 ox 7 (.cmp .lss) [.t 6, .c (.int .i64 0)],
 ox 8 .mv [.t 7],
 og 9 .mv [.t 1] 8 false,
 og 10 .mv [.t 0] 8 false,
 og 11 .nilCheck [.t 10] 8 false,
 og 12 (.fieldAddr 0) [.t 11] 8 false,
 og 13 (.load false 1) [.t 12] 8 false,
 og 14 (.cmp .geq) [.t 9, .t 13] 8 false,
 ox 15 .pick [.t 8, .c (.bool true), .t 14]])
 (.cond (.t 15)
 (.seq
 (.ops [4, 5] [
 ox 4 .mv [.c .nils],
 ox 5 .mv [.c (.int .i64 7)]])
 .ret)
 .skip))
 (.seq
 (.drawn [0, 1] [
 ox 16 .mv [.t 0],
 ox 17 .nilCheck [.t 16],
 ox 18 (.fieldAddr 6) [.t 17],
 ox 19 (.load false 1) [.t 18],
 ox 20 .mv [.t 1],
 ox 21 .mv [.t 0],
 ox 22 .nilCheck [.t 21],
 ox 23 (.fieldAddr 6) [.t 22],
 ox 24 (.load false 1) [.t 23],
 ox 25 .mv [.t 1],
 ox 26 (.idxAddr 1) [.t 24, .t 25],
 ox 27 (.load false 1) [.t 26],
 ox 28 (.arith .add) [.t 27, .c (.int .i64 1)],
 ox 29 (.idxAddr 1) [.t 19, .t 20],
 oe (.store 1) [.t 29, .t 28] 0 1])
 (.seq
 (.ops [4, 5] [
 ox 30 .mv [.t 0],
 ox 31 .mv [.t 1],
 ox 32 (.call 19) [.t 30, .t 31],
 ox 4 .mv [.t 32],
 ox 5 .mv [.c (.int .i64 0)]])
 .ret))))
def r36 : List ARes := [.tmp 4, .tmp 5]
theorem ok36 : FnOk Tryz.prog 36 c36 r36 :=
 ⟨Tryz.f36, _, Tryz.func36, by kernel_rfl, rfl, by kernel_rfl, by kernel_rfl⟩
def c37 : ACode :=
 (.seq
 (.ops [0, 1, 2, 3, 8] [
 ox 8 (.alloc [.int .i64 0, .int .i64 0, .int .i64 0, .int .i64 0, .nils]) [],
 ox 9 .mv [.c (.int .i64 0)]])
 (.seq
 (.seq
 (.ops [0, 1, 2, 3, 8, 17] [
 ox 15 .mv [.t 3],
 ox 16 .len [.t 15],
 ox 17 (.cmp .lss) [.t 16, .c (.int .i64 17)]])
 (.cond (.t 17)
 (.seq
 (.ops [8, 9] [
 ox 18 (.build [.int .i64 0, .int .i64 0, .int .i64 0, .int .i64 0, .nils] []) [],
 oy (.store 5) [.t 8, .t 18],
 ox 9 .mv [.c (.int .i64 2)]])
 .ret)
 .skip))
 (.seq
 (.seq
 (.ops [0, 1, 2, 3, 8, 21] [
 ox 19 .mv [.t 3],
 ox 20 .len [.t 19],
 ox 21 (.cmp .gtr) [.t 20, .c (.int .i64 1024)]])
 (.cond (.t 21)
 (.seq
 (.ops [8, 9] [
 ox 22 (.build [.int .i64 0, .int .i64 0, .int .i64 0, .int .i64 0, .nils] []) [],
 oy (.store 5) [.t 8, .t 22],
 ox 9 .mv [.c (.int .i64 3)]])
 .ret)
 .skip))
 (.seq
 (.seq
 (.ops [0, 1, 2, 3, 8, 33] [
 ox 23 .mv [.t 1],
 ox 24 (.call 59) [.t 23],
 ox 25 .not [.t 24],
 ox 26 .mv [.t 25],
 og 27 .mv [.t 3] 26 false,
 og 28 (.idxAddr 1) [.t 27, .c (.int .i64 0)] 26 false,
 og 29 (.load false 1) [.t 28] 26 false,
 og 30 (.conv .i64) [.t 29] 26 false,
 og 31 .mv [.t 1] 26 false,
 og 32 (.eq true .int) [.t 30, .t 31] 26 false,
 ox 33 .pick [.t 26, .c (.bool true), .t 32]])
 (.cond (.t 33)
 (.seq
 (.ops [8, 9] [
 ox 34 (.build [.int .i64 0, .int .i64 0, .int .i64 0, .int .i64 0, .nils] []) [],
 oy (.store 5) [.t 8, .t 34],
 ox 9 .mv [.c (.int .i64 5)]])
 .ret)
 .skip))
 (.seq
 (.ops [0, 1, 2, 3, 8, 10] [
 ox 35 .mv [.t 3],
 ox 36 (.slice 1 true true false) [.t 35, .c (.int .i64 1), .c (.int .i64 17)],
 ox 37 (.call 71) [.t 36],
 ox 10 .mv [.t 37]])
 (.seq
 (.ops [0, 1, 2, 3, 8, 10, 11] [
 ox 38 .mv [.t 10],
 ox 39 (.call 72) [.t 38],
 ox 11 .mv [.t 39]])
 (.seq
 (.ops [0, 1, 2, 3, 8, 11, 12] [
 ox 40 .mv [.t 10],
 ox 41 (.call 72) [.t 40],
 ox 12 .mv [.t 41]])
 (.seq
 (.seq
 (.ops [0, 1, 2, 3, 8, 11, 12, 54] [
 ox 42 .mv [.t 11],
 ox 43 (.call 60) [.t 42],
 ox 44 .not [.t 43],
 ox 45 .mv [.t 44],
 og 46 .mv [.t 12] 45 false,
 og 47 (.call 60) [.t 46] 45 false,
 og 48 .not [.t 47] 45 false,
 ox 49 .pick [.t 45, .c (.bool true), .t 48],
 ox 50 .mv [.t 49],
 og 51 .mv [.t 2] 50 false,
 og 52 (.call 61) [.t 51] 50 false,
 og 53 .not [.t 52] 50 false,
 ox 54 .pick [.t 50, .c (.bool true), .t 53]])
 (.cond (.t 54)
 (.seq
 (.ops [8, 9] [
 ox 55 (.build [.int .i64 0, .int .i64 0, .int .i64 0, .int .i64 0, .nils] []) [],
 oy (.store 5) [.t 8, .t 55],
 ox 9 .mv [.c (.int .i64 7)]])
 .ret)
 .skip))
 (.seq
 (.drawn [1, 2, 8, 11, 12, 13, 14] [
 od 57 .mv [.t 0] 0 1,
 od 58 .mv [.t 11] 0 1,
 od 59 .mv [.t 12] 0 1,
 ox 60 .mv [.t 1],
 ox 61 .mv [.t 2],
 od 62 (.call 63) [.t 60, .t 61] 0 1,
 od 63 .mv [.t 3] 0 1,
 od 64 (.slice 1 true false false) [.t 63, .c (.int .i64 17)] 0 1,
 od 65 (.call 73) [.t 57, .t 58, .t 59, .t 62, .t 64] 1 2,
 od 56 .mv [.t 65] 2 2,
 od 66 (.extract 0) [.t 56] 2 2,
 od 67 (.extract 1) [.t 56] 2 2,
 od 13 .mv [.t 66] 2 2,
 od 14 .mv [.t 67] 2 2])
 (.seq
 (.seq
 (.ops [1, 2, 8, 11, 12, 13, 69] [
 ox 68 .mv [.t 14],
 ox 69 .not [.t 68]])
 (.cond (.t 69)
 (.seq
 (.ops [8, 9] [
 ox 70 (.build [.int .i64 0, .int .i64 0, .int .i64 0, .int .i64 0, .nils] []) [],
 oy (.store 5) [.t 8, .t 70],
 ox 9 .mv [.c (.int .i64 19)]])
 .ret)
 .skip))
 (.seq
 (.ops [8, 9] [
 ox 71 .mv [.t 1],
 ox 72 .mv [.t 11],
 ox 73 .mv [.t 12],
 ox 74 .mv [.t 2],
 ox 75 .mv [.t 13],
 ox 76 (.build [.int .i64 0, .int .i64 0, .int .i64 0, .int .i64 0, .nils] [(0, 1), (1, 1), (2, 1), (3, 1), (4, 1)]) [.t 71, .t 72, .t 73, .t 74, .t 75],
 oy (.store 5) [.t 8, .t 76],
 ox 9 .mv [.c (.int .i64 0)]])
 .ret)))))))))))
def r37 : List ARes := [.cell 8 true 5, .tmp 9]
theorem ok37 : FnOk Tryz.prog 37 c37 r37 :=
 ⟨Tryz.f37, _, Tryz.func37, by kernel_rfl, rfl, by kernel_rfl, by kernel_rfl⟩
def c38 : ACode :=
 (.seq
 (.ops [0, 2] [
 ox 2 (.alloc [.int .i64 0, .int .i64 0, .int .i64 0]) [],
 ox 3 .mv [.c (.int .i64 0)]])
 (.seq
 (.ops [2, 4] [
 ox 7 .mv [.t 0],
 ox 8 (.call 71) [.t 7],
 ox 4 .mv [.t 8]])
 (.seq
 (.ops [2, 4, 5] [
 ox 9 .mv [.t 4],
 ox 10 (.call 72) [.t 9],
 ox 11 (.build [.int .i64 0, .int .i64 0, .int .i64 0] [(0, 1)]) [.t 10],
 ox 5 (.alloc [.int .i64 0, .int .i64 0, .int .i64 0]) [],
 oy (.store 3) [.t 5, .t 11]])
 (.seq
 (.ops [2, 4, 5] [
 ox 12 .mv [.t 4],
 ox 13 (.call 72) [.t 12],
 ox 14 (.fieldAddr 1) [.t 5],
 oy (.store 1) [.t 14, .t 13]])
 (.seq
 (.ops [2, 4, 5] [
 ox 15 .mv [.t 4],
 ox 16 (.call 72) [.t 15],
 ox 17 (.fieldAddr 2) [.t 5],
 oy (.store 1) [.t 17, .t 16]])
 (.seq
 (.ops [2, 5, 6] [
 ox 18 .mv [.t 4],
 ox 19 (.call 74) [.t 18],
 ox 6 .mv [.t 19]])
 (.seq
 (.seq
 (.ops [2, 5, 6, 21] [
 ox 20 .mv [.t 6],
 ox 21 (.eq false .int) [.t 20, .c (.int .i64 0)]])
 (.cond (.t 21)
 (.ops [2, 5, 6] [
 ox 22 (.load true 3) [.t 5],
 ox 23 (.call 57) [.t 22],
 ox 6 .mv [.t 23]])
 .skip))
 (.seq
 (.seq
 (.ops [2, 5, 6, 25] [
 ox 24 .mv [.t 6],
 ox 25 (.eq true .int) [.t 24, .c (.int .i64 0)]])
 (.cond (.t 25)
 (.seq
 (.ops [2, 3] [
 ox 26 (.build [.int .i64 0, .int .i64 0, .int .i64 0] []) [],
 ox 27 .mv [.t 6],
 oy (.store 3) [.t 2, .t 26],
 ox 3 .mv [.t 27]])
 .ret)
 .skip))
 (.seq
 (.ops [2, 3] [
 ox 28 (.load true 3) [.t 5],
 oy (.store 3) [.t 2, .t 28],
 ox 3 .mv [.c (.int .i64 0)]])
 .ret)))))))))
def r38 : List ARes := [.cell 2 true 3, .tmp 3]
theorem ok38 : FnOk Tryz.prog 38 c38 r38 :=
 ⟨Tryz.f38, _, Tryz.func38, by kernel_rfl, rfl, by kernel_rfl, by kernel_rfl⟩
def c39 : ACode :=
 (.seq
 (.ops [0, 1] [
 ox 4 .mv [.c (.bool false)]])
 (.seq
 (.ops [4] [
 ox 5 .mv [.t 1],
 ox 6 (.cmp .geq) [.t 5, .c (.int .i64 0)],
 ox 7 .mv [.t 6],
 og 8 .mv [.t 1] 7 true,
 og 9 .mv [.t 0] 7 true,
 og 10 .nilCheck [.t 9] 7 true,
 og 11 (.fieldAddr 0) [.t 10] 7 true,
 og 12 (.load false 1) [.t 11] 7 true,
 og 13 .len [.t 12] 7 true,
 og 14 (.cmp .lss) [.t 8, .t 13] 7 true,
 ox 15 .pick [.t 7, .t 14, .c (.bool false)],
 ox 4 .mv [.t 15]])
 .ret))
def r39 : List ARes := [.tmp 4]
theorem ok39 : FnOk Tryz.prog 39 c39 r39 :=
 ⟨Tryz.f39, _, Tryz.func39, by kernel_rfl, rfl, by kernel_rfl, by kernel_rfl⟩
def c40 : ACode :=
 (.seq
 (.ops [0] [
 ox 2 .mv [.c .nils]])
 (.seq
 (.seq
 (.ops [0, 4] [
 ox 3 .mv [.t 0],
 ox 4 (.eq false .slice) [.t 3, .c .nils]])
 (.cond (.t 4)
 (.seq
 (.ops [2] [
 ox 2 .mv [.c .nils]])
 .ret)
 .skip))
 (.seq
 (.ops [2] [
 ox 5 (.mkSl 0 [] []) [],
 ox 6 .mv [.t 0],
 ox 7 (.append 1 1) [.t 5, .t 6],
 ox 2 .mv [.t 7]])
 .ret)))
def r40 : List ARes := [.tmp 2]
theorem ok40 : FnOk Tryz.prog 40 c40 r40 :=
 ⟨Tryz.f40, _, Tryz.func40, by kernel_rfl, rfl, by kernel_rfl, by kernel_rfl⟩
def c41 : ACode :=
 (.seq
 (.ops [0, 1] [
 ox 4 .mv [.c .nils],
 ox 5 .mv [.c (.bool false)]])
 (.seq
 (.seq
 (.ops [0, 1, 6] [
 ox 6 .mv [.c (.int .i64 0)]])
 (.block 0
 (.loop [0, 1, 6]
 (.seq
 (.seq
 (.ops [0, 1, 6, 10] [
 ox 7 .mv [.t 6],
 ox 8 .mv [.t 0],
 ox 9 .len [.t 8],
 ox 10 (.cmp .lss) [.t 7, .t 9]])
 (.cond (.t 10)
 .skip
 (.exit 0)))
 (.seq
 (.block 1
 (.seq
 (.ops [0, 1, 6, 19] [
 ox 13 .mv [.t 0],
 ox 14 .mv [.t 6],
 ox 15 (.idxAddr 2) [.t 13, .t 14],
 ox 16 (.fieldAddr 0) [.t 15],
 ox 17 (.load false 1) [.t 16],
 ox 18 .mv [.t 1],
 ox 19 (.eq false .int) [.t 17, .t 18]])
 (.cond (.t 19)
 (.seq
 (.ops [4, 5] [
 ox 20 .mv [.t 0],
 ox 21 .mv [.t 6],
 ox 22 (.idxAddr 2) [.t 20, .t 21],
 ox 23 (.fieldAddr 1) [.t 22],
 ox 24 (.load false 1) [.t 23],
 ox 25 (.call 45) [.t 24],
 ox 4 .mv [.t 25],
 ox 5 .mv [.c (.bool true)]])
 .ret)
 .skip)))
 (.ops [0, 1, 6] [
 ox 11 .mv [.t 6],
 ox 12 (.arith .add) [.t 11, .c (.int .i64 1)],
 ox 6 .mv [.t 12]]))))))
 (.seq
 (.ops [4, 5] [
 ox 4 .mv [.c .nils],
 ox 5 .mv [.c (.bool false)]])
 .ret)))
def r41 : List ARes := [.tmp 4, .tmp 5]
theorem ok41 : FnOk Tryz.prog 41 c41 r41 :=
 ⟨Tryz.f41, _, Tryz.func41, by kernel_rfl, rfl, by kernel_rfl, by kernel_rfl⟩
def c42 : ACode :=
 (.seq
 (.ops [0, 1, 2] [
 ox 6 .mv [.c (.int .i64 0)]])
 (.seq
 (.block 0
 (.seq
 (.ops [2, 7] [
 ox 8 .mv [.t 0],
 ox 9 .mv [.t 1],
 ox 10 (.call 39) [.t 8, .t 9],
 ox 11 .not [.t 10],
 ox 7 .mv [.t 11]])
 (.cond (.t 7)
 (.seq
 (.ops [6] [
 ox 6 .mv [.c (.int .i64 7)]])
 .ret)
 (.seq
 (.ops [12] [
 ox 13 .mv [.t 2],
 ox 14 .len [.t 13],
 ox 15 (.cmp .gtr) [.t 14, .c (.int .i64 1024)],
 ox 12 .mv [.t 15]])
 (.cond (.t 12)
 (.seq
 (.ops [6] [
 ox 6 .mv [.c (.int .i64 3)]])
 .ret)
 .skip)))))
 (.seq
 (.ops [6] [
 ox 6 .mv [.c (.int .i64 0)]])
 .ret)))
def r42 : List ARes := [.tmp 6]
theorem ok42 : FnOk Tryz.prog 42 c42 r42 :=
 ⟨Tryz.f42, _, Tryz.func42, by kernel_rfl, rfl, by kernel_rfl, by kernel_rfl⟩
def c43 : ACode :=
 (.seq
 (.ops [0, 1, 2] [
 ox 6 .mv [.c (.int .i64 0)]])
 (.seq
 (.seq
 (.ops [2, 16] [
 ox 7 .mv [.t 1],
 ox 8 (.cmp .lss) [.t 7, .c (.int .i64 0)],
 ox 9 .mv [.t 8],
 og 10 .mv [.t 1] 9 false,
 og 11 .mv [.t 0] 9 false,
 og 12 .nilCheck [.t 11] 9 false,
 og 13 (.fieldAddr 0) [.t 12] 9 false,
 og 14 (.load false 1) [.t 13] 9 false,
 og 15 (.cmp .geq) [.t 10, .t 14] 9 false,
 ox 16 .pick [.t 9, .c (.bool true), .t 15]])
 (.cond (.t 16)
 (.seq
 (.ops [6] [
 ox 6 .mv [.c (.int .i64 7)]])
 .ret)
 .skip))
 (.seq
 (.seq
 (.ops [19] [
 ox 17 .mv [.t 2],
 ox 18 .len [.t 17],
 ox 19 (.cmp .gtr) [.t 18, .c (.int .i64 1024)]])
 (.cond (.t 19)
 (.seq
 (.ops [6] [
 ox 6 .mv [.c (.int .i64 3)]])
 .ret)
 .skip))
 (.seq
 (.ops [6] [
 ox 6 .mv [.c (.int .i64 0)]])
 .ret))))
def r43 : List ARes := [.tmp 6]
theorem ok43 : FnOk Tryz.prog 43 c43 r43 :=
 ⟨Tryz.f43, _, Tryz.func43, by kernel_rfl, rfl, by kernel_rfl, by kernel_rfl⟩
def c44 : ACode :=
 (.seq
 (.ops [0, 3] [
 ox 3 .box [.t 1],
 ox 4 .mv [.c .nils]])
 (.seq
 (.ops [0, 3] [
 ox 8 .mv [.t 0],
 ox 9 (.fieldAddr 0) [.t 3],
 ox 10 (.load false 1) [.t 9],
 ox 11 (.call 46) [.t 8, .t 10],
 ox 0 .mv [.t 11]])
 (.seq
 (.ops [0, 3, 5] [
 ox 5 .mv [.c .nils]])
 (.seq
 (.ops [0, 3, 5, 6] [
 ox 6 .mv [.c (.bool false)]])
 (.seq
 (.seq
 (.ops [0, 3, 5, 6, 7] [
 ox 7 .mv [.c (.int .i64 0)]])
 (.block 0
 (.loop [0, 3, 5, 6, 7]
 (.seq
 (.seq
 (.ops [0, 3, 5, 6, 7, 15] [
 ox 12 .mv [.t 7],
 ox 13 .mv [.t 0],
 ox 14 .len [.t 13],
 ox 15 (.cmp .lss) [.t 12, .t 14]])
 (.cond (.t 15)
 .skip
 (.exit 0)))
 (.seq
 (.block 1
 (.seq
 (.seq
 (.drawn [0, 3, 5, 6, 7, 29] [
 ox 18 .mv [.t 6],
 ox 19 .not [.t 18],
 ox 20 .mv [.t 19],
 og 21 .mv [.t 0] 20 true,
 og 22 .mv [.t 7] 20 true,
 og 23 (.idxAddr 2) [.t 21, .t 22] 20 true,
 og 24 (.fieldAddr 0) [.t 23] 20 true,
 og 25 (.load false 1) [.t 24] 20 true,
 og 26 (.fieldAddr 0) [.t 3] 20 true,
 og 27 (.load false 1) [.t 26] 20 true,
 og 28 (.cmp .gtr) [.t 25, .t 27] 20 true,
 ox 29 .pick [.t 20, .t 28, .c (.bool false)]])
 (.cond (.t 29)
 (.seq
 (.ops [0, 3, 5, 7] [
 ox 30 .mv [.t 5],
 ox 31 (.load true 2) [.t 3],
 ox 32 (.mkSl 1 [.int .i64 0, .nils] [(0, 2)]) [.t 31],
 ox 33 (.append 2 32) [.t 30, .t 32],
 ox 5 .mv [.t 33]])
 (.ops [0, 3, 5, 6, 7] [
 ox 6 .mv [.c (.bool true)]]))
 .skip))
 (.ops [0, 3, 5, 6, 7] [
 ox 34 .mv [.t 5],
 ox 35 .mv [.t 0],
 ox 36 .mv [.t 7],
 ox 37 (.idxAddr 2) [.t 35, .t 36],
 ox 38 (.load true 2) [.t 37],
 ox 39 (.mkSl 1 [.int .i64 0, .nils] [(0, 2)]) [.t 38],
 ox 40 (.append 2 32) [.t 34, .t 39],
 ox 5 .mv [.t 40]])))
 (.ops [0, 3, 5, 6, 7] [
 ox 16 .mv [.t 7],
 ox 17 (.arith .add) [.t 16, .c (.int .i64 1)],
 ox 7 .mv [.t 17]]))))))
 (.seq
 (.seq
 (.ops [3, 5, 42] [
 ox 41 .mv [.t 6],
 ox 42 .not [.t 41]])
 (.cond (.t 42)
 (.ops [5] [
 ox 43 .mv [.t 5],
 ox 44 (.load true 2) [.t 3],
 ox 45 (.mkSl 1 [.int .i64 0, .nils] [(0, 2)]) [.t 44],
 ox 46 (.append 2 32) [.t 43, .t 45],
 ox 5 .mv [.t 46]])
 .skip))
 (.seq
 (.ops [4] [
 ox 47 .mv [.t 5],
 ox 4 .mv [.t 47]])
 .ret)))))))
def r44 : List ARes := [.tmp 4]
theorem ok44 : FnOk Tryz.prog 44 c44 r44 :=
 ⟨Tryz.f44, _, Tryz.func44, by kernel_rfl, rfl, by kernel_rfl, by kernel_rfl⟩
def c45 : ACode :=
 (.seq
 (.ops [0] [
 ox 2 .mv [.c .nils]])
 (.seq
 (.ops [0, 3] [
 ox 3 .mv [.c .nils]])
 (.seq
 (.seq
 (.ops [0, 3, 4] [
 ox 4 .mv [.c (.int .i64 0)]])
 (.block 0
 (.loop [0, 3, 4]
 (.seq
 (.seq
 (.ops [0, 3, 4, 8] [
 ox 5 .mv [.t 4],
 ox 6 .mv [.t 0],
 ox 7 .len [.t 6],
 ox 8 (.cmp .lss) [.t 5, .t 7]])
 (.cond (.t 8)
 .skip
 (.exit 0)))
 (.seq
 (.block 1
 (.ops [0, 3, 4] [
 ox 11 .mv [.t 3],
 ox 12 .mv [.t 0],
 ox 13 .mv [.t 4],
 ox 14 (.idxAddr 1) [.t 12, .t 13],
 ox 15 (.load false 1) [.t 14],
 ox 16 (.mkSl 1 [.int .u8 0] [(0, 1)]) [.t 15],
 ox 17 (.append 1 1) [.t 11, .t 16],
 ox 3 .mv [.t 17]]))
 (.ops [0, 3, 4] [
 ox 9 .mv [.t 4],
 ox 10 (.arith .add) [.t 9, .c (.int .i64 1)],
 ox 4 .mv [.t 10]]))))))
 (.seq
 (.ops [2] [
 ox 18 .mv [.t 3],
 ox 2 .mv [.t 18]])
 .ret))))
def r45 : List ARes := [.tmp 2]
theorem ok45 : FnOk Tryz.prog 45 c45 r45 :=
 ⟨Tryz.f45, _, Tryz.func45, by kernel_rfl, rfl, by kernel_rfl, by kernel_rfl⟩
def c46 : ACode :=
 (.seq
 (.ops [0, 1] [
 ox 4 .mv [.c .nils]])
 (.seq
 (.ops [0, 1, 5] [
 ox 5 .mv [.c .nils]])
 (.seq
 (.seq
 (.ops [0, 1, 5, 6] [
 ox 6 .mv [.c (.int .i64 0)]])
 (.block 0
 (.loop [0, 1, 5, 6]
 (.seq
 (.seq
 (.ops [0, 1, 5, 6, 10] [
 ox 7 .mv [.t 6],
 ox 8 .mv [.t 0],
 ox 9 .len [.t 8],
 ox 10 (.cmp .lss) [.t 7, .t 9]])
 (.cond (.t 10)
 .skip
 (.exit 0)))
 (.seq
 (.block 1
 (.seq
 (.ops [0, 1, 5, 6, 19] [
 ox 13 .mv [.t 0],
 ox 14 .mv [.t 6],
 ox 15 (.idxAddr 2) [.t 13, .t 14],
 ox 16 (.fieldAddr 0) [.t 15],
 ox 17 (.load false 1) [.t 16],
 ox 18 .mv [.t 1],
 ox 19 (.eq true .int) [.t 17, .t 18]])
 (.cond (.t 19)
 (.ops [0, 1, 5, 6] [
 ox 20 .mv [.t 5],
 ox 21 .mv [.t 0],
 ox 22 .mv [.t 6],
 ox 23 (.idxAddr 2) [.t 21, .t 22],
 ox 24 (.load true 2) [.t 23],
 ox 25 (.mkSl 1 [.int .i64 0, .nils] [(0, 2)]) [.t 24],
 ox 26 (.append 2 32) [.t 20, .t 25],
 ox 5 .mv [.t 26]])
 .skip)))
 (.ops [0, 1, 5, 6] [
 ox 11 .mv [.t 6],
 ox 12 (.arith .add) [.t 11, .c (.int .i64 1)],
 ox 6 .mv [.t 12]]))))))
 (.seq
 (.ops [4] [
 ox 27 .mv [.t 5],
 ox 4 .mv [.t 27]])
 .ret))))
def r46 : List ARes := [.tmp 4]
theorem ok46 : FnOk Tryz.prog 46 c46 r46 :=
 ⟨Tryz.f46, _, Tryz.func46, by kernel_rfl, rfl, by kernel_rfl, by kernel_rfl⟩
def c47 : ACode :=
 (.seq
 (.ops [0, 1, 4] [
 ox 4 (.alloc (List.replicate 32 (.int .u8 0))) []])
 (.seq
 (.ops [1, 4, 5, 6] [
 ox 9 .mv [.t 0],
 ox 10 (.call 75) [.t 9, .c (.int .u8 54)],
 ox 11 .mv [.t 0],
 ox 12 (.call 75) [.t 11, .c (.int .u8 92)],
 ox 5 (.alloc (List.replicate 64 (.int .u8 0))) [],
 ox 6 (.alloc (List.replicate 64 (.int .u8 0))) [],
 oy (.store 64) [.t 5, .t 10],
 oy (.store 64) [.t 6, .t 12]])
 (.seq
 (.ops [1, 4, 5, 6, 7] [
 ox 13 (.call 76) [],
 ox 7 .mv [.t 13]])
 (.seq
 (.ops [1, 4, 6, 7] [
 ox 14 .mv [.t 7],
 ox 15 (.sliceArr 64 1 false false false) [.t 5],
 ox 16 (.call 77) [.t 14, .t 15]])
 (.seq
 (.ops [4, 6, 7] [
 ox 17 .mv [.t 7],
 ox 18 .mv [.t 1],
 ox 19 (.call 77) [.t 17, .t 18]])
 (.seq
 (.ops [4, 6, 8] [
 ox 20 .mv [.t 7],
 ox 21 (.call 78) [.t 20],
 ox 8 (.alloc (List.replicate 32 (.int .u8 0))) [],
 oy (.store 32) [.t 8, .t 21]])
 (.seq
 (.ops [4, 6, 7, 8] [
 ox 22 (.call 76) [],
 ox 7 .mv [.t 22]])
 (.seq
 (.ops [4, 7, 8] [
 ox 23 .mv [.t 7],
 ox 24 (.sliceArr 64 1 false false false) [.t 6],
 ox 25 (.call 77) [.t 23, .t 24]])
 (.seq
 (.ops [4, 7] [
 ox 26 .mv [.t 7],
 ox 27 (.sliceArr 32 1 false false false) [.t 8],
 ox 28 (.call 77) [.t 26, .t 27]])
 (.seq
 (.ops [4] [
 ox 29 .mv [.t 7],
 ox 30 (.call 78) [.t 29],
 oy (.store 32) [.t 4, .t 30]])
 .ret))))))))))
def r47 : List ARes := [.cell 4 true 32]
theorem ok47 : FnOk Tryz.prog 47 c47 r47 :=
 ⟨Tryz.f47, _, Tryz.func47, by kernel_rfl, rfl, by kernel_rfl, by kernel_rfl⟩
def c48 : ACode :=
 (.seq
 (.ops [0] [
 ox 0 (.alloc (List.replicate 256 (.int .u8 0))) []])
 (.seq
 (.ops [0, 1] [
 ox 1 (.alloc (List.replicate 256 (.int .u8 0))) []])
 (.seq
 (.ops [0, 1, 2, 3] [
 ox 2 .mv [.c (.int .u8 1)],
 ox 3 .mv [.c (.int .u8 1)]])
 (.seq
 (.block 0
 (.loop [0, 1, 2, 3]
 (.block 1
 (.seq
 (.ops [0, 1, 2, 3] [
 ox 4 .mv [.t 2],
 ox 5 .mv [.t 2],
 ox 6 (.call 49) [.t 5],
 ox 7 (.arith .xor) [.t 4, .t 6],
 ox 2 .mv [.t 7]])
 (.seq
 (.ops [0, 1, 2, 3] [
 ox 8 .mv [.t 3],
 ox 9 .mv [.t 3],
 ox 10 (.shift .shl) [.t 9, .c (.int .u64 1)],
 ox 11 (.arith .xor) [.t 8, .t 10],
 ox 3 .mv [.t 11]])
 (.seq
 (.ops [0, 1, 2, 3] [
 ox 12 .mv [.t 3],
 ox 13 .mv [.t 3],
 ox 14 (.shift .shl) [.t 13, .c (.int .u64 2)],
 ox 15 (.arith .xor) [.t 12, .t 14],
 ox 3 .mv [.t 15]])
 (.seq
 (.ops [0, 1, 2, 3] [
 ox 16 .mv [.t 3],
 ox 17 .mv [.t 3],
 ox 18 (.shift .shl) [.t 17, .c (.int .u64 4)],
 ox 19 (.arith .xor) [.t 16, .t 18],
 ox 3 .mv [.t 19]])
 (.seq
 (.seq
 (.ops [0, 1, 2, 3, 22] [
 ox 20 .mv [.t 3],
 ox 21 (.arith .and) [.t 20, .c (.int .u8 128)],
 ox 22 (.eq true .int) [.t 21, .c (.int .u8 0)]])
 (.cond (.t 22)
 (.ops [0, 1, 2, 3] [
 ox 23 .mv [.t 3],
 ox 24 (.arith .xor) [.t 23, .c (.int .u8 9)],
 ox 3 .mv [.t 24]])
 .skip))
 (.seq
 (.ops [0, 1, 2, 3] [
 ox 25 .mv [.t 2],
 ox 26 .mv [.t 3],
 ox 27 .mv [.t 3],
 ox 28 (.shift .shl) [.t 27, .c (.int .u64 1)],
 ox 29 .mv [.t 3],
 ox 30 (.shift .shr) [.t 29, .c (.int .u64 7)],
 ox 31 (.arith .or) [.t 28, .t 30],
 ox 32 (.arith .xor) [.t 26, .t 31],
 ox 33 .mv [.t 3],
 ox 34 (.shift .shl) [.t 33, .c (.int .u64 2)],
 ox 35 .mv [.t 3],
 ox 36 (.shift .shr) [.t 35, .c (.int .u64 6)],
 ox 37 (.arith .or) [.t 34, .t 36],
 ox 38 (.arith .xor) [.t 32, .t 37],
 ox 39 .mv [.t 3],
 ox 40 (.shift .shl) [.t 39, .c (.int .u64 3)],
 ox 41 .mv [.t 3],
 ox 42 (.shift .shr) [.t 41, .c (.int .u64 5)],
 ox 43 (.arith .or) [.t 40, .t 42],
 ox 44 (.arith .xor) [.t 38, .t 43],
 ox 45 .mv [.t 3],
 ox 46 (.shift .shl) [.t 45, .c (.int .u64 4)],
 ox 47 .mv [.t 3],
 ox 48 (.shift .shr) [.t 47, .c (.int .u64 4)],
 ox 49 (.arith .or) [.t 46, .t 48],
 ox 50 (.arith .xor) [.t 44, .t 49],
 ox 51 (.arith .xor) [.t 50, .c (.int .u8 99)],
 ox 52 (.idxAddrArr 256 1) [.t 1, .t 25],
 oy (.store 1) [.t 52, .t 51]])
 (.seq
 (.ops [0, 1, 2, 3, 54] [
 ox 53 .mv [.t 2],
 ox 54 (.eq false .int) [.t 53, .c (.int .u8 1)]])
 (.cond (.t 54)
 (.exit 0)
 .skip)))))))))))
 (.seq
 (.ops [0, 1] [
 ox 55 (.idxAddrArr 256 1) [.t 1, .c (.int .i64 0)],
 oy (.store 1) [.t 55, .c (.int .u8 99)]])
 (.seq
 (.ops [0] [
 ox 56 (.load true 256) [.t 1],
 oy (.store 256) [.t 0, .t 56]])
 .ret))))))
def r48 : List ARes := [.cell 0 true 256]
theorem ok48 : FnOk Tryz.prog 48 c48 r48 :=
 ⟨Tryz.f48, _, Tryz.func48, by kernel_rfl, rfl, by kernel_rfl, by kernel_rfl⟩
def c49 : ACode :=
 (.seq
 (.ops [0] [
 ox 2 .mv [.c (.int .u8 0)]])
 (.seq
 (.seq
 (.ops [0, 5] [
 ox 3 .mv [.t 0],
 ox 4 (.arith .and) [.t 3, .c (.int .u8 128)],
 ox 5 (.eq true .int) [.t 4, .c (.int .u8 0)]])
 (.cond (.t 5)
 (.seq
 (.ops [2] [
 ox 6 .mv [.t 0],
 ox 7 (.shift .shl) [.t 6, .c (.int .u64 1)],
 ox 8 (.arith .xor) [.t 7, .c (.int .u8 27)],
 ox 2 .mv [.t 8]])
 .ret)
 .skip))
 (.seq
 (.ops [2] [
 ox 9 .mv [.t 0],
 ox 10 (.shift .shl) [.t 9, .c (.int .u64 1)],
 ox 2 .mv [.t 10]])
 .ret)))
def r49 : List ARes := [.tmp 2]
theorem ok49 : FnOk Tryz.prog 49 c49 r49 :=
 ⟨Tryz.f49, _, Tryz.func49, by kernel_rfl, rfl, by kernel_rfl, by kernel_rfl⟩
def c50 : ACode :=
 (.seq
 (.ops [0, 1, 4] [
 ox 4 (.alloc (List.replicate 32 (.int .u8 0))) []])
 (.seq
 (.ops [4] [
 ox 5 .mv [.t 0],
 ox 6 .mv [.t 1],
 ox 7 .s2b [.t 6],
 ox 8 (.call 79) [.t 5, .t 7],
 oy (.store 32) [.t 4, .t 8]])
 .ret))
def r50 : List ARes := [.cell 4 true 32]
theorem ok50 : FnOk Tryz.prog 50 c50 r50 :=
 ⟨Tryz.f50, _, Tryz.func50, by kernel_rfl, rfl, by kernel_rfl, by kernel_rfl⟩
def c51 : ACode :=
 (.seq
 (.ops [0] [
 ox 2 .mv [.c .nilp],
 ox 3 .mv [.c (.int .i64 0)]])
 (.seq
 (.seq
 (.ops [0, 23] [
 ox 11 .mv [.t 0],
 ox 12 .len [.t 11],
 ox 13 (.eq true .int) [.t 12, .c (.int .i64 16)],
 ox 14 .mv [.t 13],
 og 15 .mv [.t 0] 14 true,
 og 16 .len [.t 15] 14 true,
 og 17 (.eq true .int) [.t 16, .c (.int .i64 24)] 14 true,
 ox 18 .pick [.t 14, .t 17, .c (.bool false)],
 ox 19 .mv [.t 18],
 og 20 .mv [.t 0] 19 true,
 og 21 .len [.t 20] 19 true,
 og 22 (.eq true .int) [.t 21, .c (.int .i64 32)] 19 true,
 ox 23 .pick [.t 19, .t 22, .c (.bool false)]])
 (.cond (.t 23)
 (.seq
 (.ops [2, 3] [
 ox 2 .mv [.c .nilp],
 ox 3 .mv [.c (.int .i64 1)]])
 .ret)
 .skip))
 (.seq
 (.ops [0, 4] [
 ox 24 (.call 80) [],
 ox 25 (.build [.nils, .nils] [(1, 1)]) [.t 24],
 ox 26 .box [.t 25],
 ox 4 .mv [.t 26]])
 (.seq
 (.ops [0, 4, 5] [
 ox 27 .mv [.t 0],
 ox 28 .len [.t 27],
 ox 29 (.arith .quo) [.t 28, .c (.int .i64 4)],
 ox 5 .mv [.t 29]])
 (.seq
 (.seq
 (.ops [0, 4, 5, 6] [
 ox 6 .mv [.c (.int .i64 0)]])
 (.block 0
 (.loop [0, 4, 5, 6]
 (.seq
 (.seq
 (.ops [0, 4, 5, 6, 32] [
 ox 30 .mv [.t 6],
 ox 31 .mv [.t 5],
 ox 32 (.cmp .lss) [.t 30, .t 31]])
 (.cond (.t 32)
 .skip
 (.exit 0)))
 (.seq
 (.block 1
 (.drawn [0, 4, 5, 6] [
 od 35 .mv [.t 4] 0 2,
 od 36 .mv [.t 4] 0 1,
 od 37 .nilCheck [.t 36] 0 1,
 od 38 (.fieldAddr 0) [.t 37] 0 1,
 od 39 (.load false 1) [.t 38] 0 1,
 ox 40 (.mkSl 0 [] []) [],
 ox 41 .mv [.t 0],
 ox 42 .mv [.t 6],
 ox 43 (.arith .mul) [.c (.int .i64 4), .t 42],
 ox 44 .mv [.t 6],
 ox 45 (.arith .mul) [.c (.int .i64 4), .t 44],
 ox 46 (.arith .add) [.t 45, .c (.int .i64 4)],
 ox 47 (.slice 1 true true false) [.t 41, .t 43, .t 46],
 od 48 (.append 1 1) [.t 40, .t 47] 0 1,
 od 49 (.mkSl 1 [.nils] [(0, 1)]) [.t 48] 1 1,
 od 50 (.append 1 24) [.t 39, .t 49] 1 2,
 od 51 .nilCheck [.t 35] 2 2,
 od 52 (.fieldAddr 0) [.t 51] 2 2,
 oe (.store 1) [.t 52, .t 50] 2 3]))
 (.ops [0, 4, 5, 6] [
 ox 33 .mv [.t 6],
 ox 34 (.arith .add) [.t 33, .c (.int .i64 1)],
 ox 6 .mv [.t 34]]))))))
 (.seq
 (.ops [4, 5, 7] [
 ox 7 .mv [.c (.int .u8 1)]])
 (.seq
 (.seq
 (.ops [4, 5, 7, 8] [
 ox 53 .mv [.t 5],
 ox 8 .mv [.t 53]])
 (.block 2
 (.loop [4, 5, 7, 8]
 (.seq
 (.seq
 (.ops [4, 5, 7, 8, 58] [
 ox 54 .mv [.t 8],
 ox 55 .mv [.t 5],
 ox 56 (.arith .add) [.t 55, .c (.int .i64 7)],
 ox 57 (.arith .mul) [.c (.int .i64 4), .t 56],
 ox 58 (.cmp .lss) [.t 54, .t 57]])
 (.cond (.t 58)
 .skip
 (.exit 2)))
 (.seq
 (.block 3
 (.seq
 (.ops [4, 5, 7, 8, 9] [
 ox 61 (.mkSl 0 [] []) [],
 ox 62 .mv [.t 4],
 ox 63 .nilCheck [.t 62],
 ox 64 (.fieldAddr 0) [.t 63],
 ox 65 (.load false 1) [.t 64],
 ox 66 .mv [.t 8],
 ox 67 (.arith .sub) [.t 66, .c (.int .i64 1)],
 ox 68 (.idxAddr 1) [.t 65, .t 67],
 ox 69 (.load false 1) [.t 68],
 ox 70 (.append 1 1) [.t 61, .t 69],
 ox 9 .mv [.t 70]])
 (.seq
 (.seq
 (.ops [4, 5, 7, 8, 9, 74] [
 ox 71 .mv [.t 8],
 ox 72 .mv [.t 5],
 ox 73 (.arith .rem) [.t 71, .t 72],
 ox 74 (.eq false .int) [.t 73, .c (.int .i64 0)]])
 (.cond (.t 74)
 (.seq
 (.drawn [4, 5, 7, 8, 9] [
 ox 75 .mv [.t 4],
 ox 76 .nilCheck [.t 75],
 ox 77 (.fieldAddr 1) [.t 76],
 ox 78 (.load false 1) [.t 77],
 ox 79 .mv [.t 9],
 ox 80 (.idxAddr 1) [.t 79, .c (.int .i64 1)],
 ox 81 (.load false 1) [.t 80],
 ox 82 (.idxAddr 1) [.t 78, .t 81],
 ox 83 (.load false 1) [.t 82],
 ox 84 .mv [.t 7],
 ox 85 (.arith .xor) [.t 83, .t 84],
 ox 86 .mv [.t 4],
 ox 87 .nilCheck [.t 86],
 ox 88 (.fieldAddr 1) [.t 87],
 ox 89 (.load false 1) [.t 88],
 ox 90 .mv [.t 9],
 ox 91 (.idxAddr 1) [.t 90, .c (.int .i64 2)],
 ox 92 (.load false 1) [.t 91],
 ox 93 (.idxAddr 1) [.t 89, .t 92],
 ox 94 (.load false 1) [.t 93],
 ox 95 .mv [.t 4],
 ox 96 .nilCheck [.t 95],
 ox 97 (.fieldAddr 1) [.t 96],
 ox 98 (.load false 1) [.t 97],
 ox 99 .mv [.t 9],
 ox 100 (.idxAddr 1) [.t 99, .c (.int .i64 3)],
 ox 101 (.load false 1) [.t 100],
 ox 102 (.idxAddr 1) [.t 98, .t 101],
 ox 103 (.load false 1) [.t 102],
 ox 104 .mv [.t 4],
 ox 105 .nilCheck [.t 104],
 ox 106 (.fieldAddr 1) [.t 105],
 ox 107 (.load false 1) [.t 106],
 ox 108 .mv [.t 9],
 ox 109 (.idxAddr 1) [.t 108, .c (.int .i64 0)],
 ox 110 (.load false 1) [.t 109],
 ox 111 (.idxAddr 1) [.t 107, .t 110],
 ox 112 (.load false 1) [.t 111],
 ox 113 (.mkSl 4 [.int .u8 0, .int .u8 0, .int .u8 0, .int .u8 0] [(0, 1), (1, 1), (2, 1), (3, 1)]) [.t 85, .t 94, .t 103, .t 112],
 ox 9 .mv [.t 113]])
 (.ops [4, 5, 7, 8, 9] [
 ox 114 .mv [.t 7],
 ox 115 (.call 81) [.t 114],
 ox 7 .mv [.t 115]]))
 (.seq
 (.ops [4, 5, 7, 8, 9, 122] [
 ox 116 .mv [.t 5],
 ox 117 (.eq false .int) [.t 116, .c (.int .i64 8)],
 ox 118 .mv [.t 117],
 og 119 .mv [.t 8] 118 true,
 og 120 (.arith .rem) [.t 119, .c (.int .i64 8)] 118 true,
 og 121 (.eq false .int) [.t 120, .c (.int .i64 4)] 118 true,
 ox 122 .pick [.t 118, .t 121, .c (.bool false)]])
 (.cond (.t 122)
 (.drawn [4, 5, 7, 8, 9] [
 ox 123 .mv [.t 4],
 ox 124 .nilCheck [.t 123],
 ox 125 (.fieldAddr 1) [.t 124],
 ox 126 (.load false 1) [.t 125],
 ox 127 .mv [.t 9],
 ox 128 (.idxAddr 1) [.t 127, .c (.int .i64 0)],
 ox 129 (.load false 1) [.t 128],
 ox 130 (.idxAddr 1) [.t 126, .t 129],
 ox 131 (.load false 1) [.t 130],
 ox 132 .mv [.t 4],
 ox 133 .nilCheck [.t 132],
 ox 134 (.fieldAddr 1) [.t 133],
 ox 135 (.load false 1) [.t 134],
 ox 136 .mv [.t 9],
 ox 137 (.idxAddr 1) [.t 136, .c (.int .i64 1)],
 ox 138 (.load false 1) [.t 137],
 ox 139 (.idxAddr 1) [.t 135, .t 138],
 ox 140 (.load false 1) [.t 139],
 ox 141 .mv [.t 4],
 ox 142 .nilCheck [.t 141],
 ox 143 (.fieldAddr 1) [.t 142],
 ox 144 (.load false 1) [.t 143],
 ox 145 .mv [.t 9],
 ox 146 (.idxAddr 1) [.t 145, .c (.int .i64 2)],
 ox 147 (.load false 1) [.t 146],
 ox 148 (.idxAddr 1) [.t 144, .t 147],
 ox 149 (.load false 1) [.t 148],
 ox 150 .mv [.t 4],
 ox 151 .nilCheck [.t 150],
 ox 152 (.fieldAddr 1) [.t 151],
 ox 153 (.load false 1) [.t 152],
 ox 154 .mv [.t 9],
 ox 155 (.idxAddr 1) [.t 154, .c (.int .i64 3)],
 ox 156 (.load false 1) [.t 155],
 ox 157 (.idxAddr 1) [.t 153, .t 156],
 ox 158 (.load false 1) [.t 157],
 ox 159 (.mkSl 4 [.int .u8 0, .int .u8 0, .int .u8 0, .int .u8 0] [(0, 1), (1, 1), (2, 1), (3, 1)]) [.t 131, .t 140, .t 149, .t 158],
 ox 9 .mv [.t 159]])
 .skip))))
 (.seq
 (.ops [4, 5, 7, 8, 9, 10] [
 ox 160 .mv [.t 4],
 ox 161 .nilCheck [.t 160],
 ox 162 (.fieldAddr 0) [.t 161],
 ox 163 (.load false 1) [.t 162],
 ox 164 .mv [.t 8],
 ox 165 .mv [.t 5],
 ox 166 (.arith .sub) [.t 164, .t 165],
 ox 167 (.idxAddr 1) [.t 163, .t 166],
 ox 168 (.load false 1) [.t 167],
 ox 10 .mv [.t 168]])
 (.drawn [4, 5, 7, 8] [
 od 169 .mv [.t 4] 0 1,
 ox 170 .mv [.t 4],
 ox 171 .nilCheck [.t 170],
 ox 172 (.fieldAddr 0) [.t 171],
 ox 173 (.load false 1) [.t 172],
 ox 174 .mv [.t 10],
 ox 175 (.idxAddr 1) [.t 174, .c (.int .i64 0)],
 ox 176 (.load false 1) [.t 175],
 ox 177 .mv [.t 9],
 ox 178 (.idxAddr 1) [.t 177, .c (.int .i64 0)],
 ox 179 (.load false 1) [.t 178],
 ox 180 (.arith .xor) [.t 176, .t 179],
 ox 181 .mv [.t 10],
 ox 182 (.idxAddr 1) [.t 181, .c (.int .i64 1)],
 ox 183 (.load false 1) [.t 182],
 ox 184 .mv [.t 9],
 ox 185 (.idxAddr 1) [.t 184, .c (.int .i64 1)],
 ox 186 (.load false 1) [.t 185],
 ox 187 (.arith .xor) [.t 183, .t 186],
 ox 188 .mv [.t 10],
 ox 189 (.idxAddr 1) [.t 188, .c (.int .i64 2)],
 ox 190 (.load false 1) [.t 189],
 ox 191 .mv [.t 9],
 ox 192 (.idxAddr 1) [.t 191, .c (.int .i64 2)],
 ox 193 (.load false 1) [.t 192],
 ox 194 (.arith .xor) [.t 190, .t 193],
 ox 195 .mv [.t 10],
 ox 196 (.idxAddr 1) [.t 195, .c (.int .i64 3)],
 ox 197 (.load false 1) [.t 196],
 ox 198 .mv [.t 9],
 ox 199 (.idxAddr 1) [.t 198, .c (.int .i64 3)],
 ox 200 (.load false 1) [.t 199],
 ox 201 (.arith .xor) [.t 197, .t 200],
 ox 202 (.mkSl 4 [.int .u8 0, .int .u8 0, .int .u8 0, .int .u8 0] [(0, 1), (1, 1), (2, 1), (3, 1)]) [.t 180, .t 187, .t 194, .t 201],
 ox 203 (.mkSl 1 [.nils] [(0, 1)]) [.t 202],
 od 204 (.append 1 24) [.t 173, .t 203] 0 1,
 od 205 .nilCheck [.t 169] 1 1,
 od 206 (.fieldAddr 0) [.t 205] 1 1,
 oe (.store 1) [.t 206, .t 204] 1 2])))))
 (.ops [4, 5, 7, 8] [
 ox 59 .mv [.t 8],
 ox 60 (.arith .add) [.t 59, .c (.int .i64 1)],
 ox 8 .mv [.t 60]]))))))
 (.seq
 (.ops [2, 3] [
 ox 207 .mv [.t 4],
 ox 2 .mv [.t 207],
 ox 3 .mv [.c (.int .i64 0)]])
 .ret))))))))
def r51 : List ARes := [.tmp 2, .tmp 3]
theorem ok51 : FnOk Tryz.prog 51 c51 r51 :=
 ⟨Tryz.f51, _, Tryz.func51, by kernel_rfl, rfl, by kernel_rfl, by kernel_rfl⟩
def c52 : ACode :=
 (.seq
 (.ops [1] [
 ox 1 .box [.t 0],
 ox 2 .mv [.c (.int .i64 0)]])
 (.seq
 (.seq
 (.ops [5] [
 ox 3 (.load true 3) [.t 1],
 ox 4 (.call 82) [.t 3],
 ox 5 .not [.t 4]])
 (.cond (.t 5)
 (.seq
 (.ops [2] [
 ox 2 .mv [.c (.int .i64 15)]])
 .ret)
 .skip))
 (.seq
 (.ops [2] [
 ox 2 .mv [.c (.int .i64 0)]])
 .ret)))
def r52 : List ARes := [.tmp 2]
theorem ok52 : FnOk Tryz.prog 52 c52 r52 :=
 ⟨Tryz.f52, _, Tryz.func52, by kernel_rfl, rfl, by kernel_rfl, by kernel_rfl⟩
def c53 : ACode :=
 (.seq
 (.ops [0, 1] [
 ox 4 .mv [.c .nils]])
 (.seq
 (.ops [4] [
 ox 5 .mv [.t 0],
 ox 6 .mv [.t 1],
 ox 7 (.call 84) [.t 6],
 ox 8 (.call 83) [.t 5, .t 7],
 ox 4 .mv [.t 8]])
 .ret))
def r53 : List ARes := [.tmp 4]
theorem ok53 : FnOk Tryz.prog 53 c53 r53 :=
 ⟨Tryz.f53, _, Tryz.func53, by kernel_rfl, rfl, by kernel_rfl, by kernel_rfl⟩
def c54 : ACode :=
 (.seq
 (.ops [0, 1, 2] [
 ox 6 .mv [.c (.bool false)]])
 (.seq
 (.ops [6] [
 ox 7 .mv [.t 0],
 ox 8 .mv [.t 1],
 ox 9 .mv [.t 2],
 ox 10 .min [.t 7, .t 8, .t 9],
 ox 11 (.cmp .geq) [.t 10, .c (.int .i64 0)],
 ox 12 .mv [.t 11],
 og 13 .mv [.t 0] 12 true,
 og 14 .mv [.t 1] 12 true,
 og 15 .max [.t 13, .t 14] 12 true,
 og 16 (.cmp .leq) [.t 15, .c (.int .i64 1099511627776)] 12 true,
 ox 17 .pick [.t 12, .t 16, .c (.bool false)],
 ox 18 .mv [.t 17],
 og 19 .mv [.t 2] 18 true,
 og 20 (.cmp .lss) [.t 19, .c (.int .i64 4096)] 18 true,
 ox 21 .pick [.t 18, .t 20, .c (.bool false)],
 ox 6 .mv [.t 21]])
 .ret))
def r54 : List ARes := [.tmp 6]
theorem ok54 : FnOk Tryz.prog 54 c54 r54 :=
 ⟨Tryz.f54, _, Tryz.func54, by kernel_rfl, rfl, by kernel_rfl, by kernel_rfl⟩
def c55 : ACode :=
 (.seq
 (.ops [0, 1] [
 ox 4 .mv [.c .nils]])
 (.seq
 (.ops [4] [
 ox 5 .mv [.t 0],
 ox 6 (.conv .u8) [.t 5],
 ox 7 (.mkSl 1 [.int .u8 0] [(0, 1)]) [.t 6],
 ox 8 .mv [.t 1],
 ox 9 (.call 53) [.t 7, .t 8],
 ox 4 .mv [.t 9]])
 .ret))
def r55 : List ARes := [.tmp 4]
theorem ok55 : FnOk Tryz.prog 55 c55 r55 :=
 ⟨Tryz.f55, _, Tryz.func55, by kernel_rfl, rfl, by kernel_rfl, by kernel_rfl⟩
def c56 : ACode :=
 (.seq
 (.ops [0] [
 ox 2 .mv [.c (.int .i64 0)]])
 (.seq
 (.block 0
 (.seq
 (.ops [0, 3] [
 ox 4 .mv [.t 0],
 ox 5 .nilCheck [.t 4],
 ox 6 (.fieldAddr 4) [.t 5],
 ox 7 (.load false 1) [.t 6],
 ox 3 .mv [.t 7]])
 (.cond (.t 3)
 (.seq
 (.ops [2] [
 ox 2 .mv [.c (.int .i64 12)]])
 .ret)
 (.seq
 (.ops [0, 8] [
 ox 9 .mv [.t 0],
 ox 10 .nilCheck [.t 9],
 ox 11 (.fieldAddr 2) [.t 10],
 ox 12 (.load false 1) [.t 11],
 ox 13 .mv [.t 12],
 og 14 .mv [.t 0] 13 true,
 og 15 .nilCheck [.t 14] 13 true,
 og 16 (.fieldAddr 3) [.t 15] 13 true,
 og 17 (.load false 1) [.t 16] 13 true,
 og 18 (.eq false .int) [.t 17, .c (.int .i64 0)] 13 true,
 ox 19 .pick [.t 13, .t 18, .c (.bool false)],
 ox 8 .mv [.t 19]])
 (.cond (.t 8)
 (.seq
 (.ops [] [
 ox 20 .mv [.t 0],
 ox 21 .nilCheck [.t 20],
 ox 22 (.fieldAddr 4) [.t 21],
 oy (.store 1) [.t 22, .c (.bool true)]])
 (.seq
 (.ops [2] [
 ox 2 .mv [.c (.int .i64 12)]])
 .ret))
 .skip)))))
 (.seq
 (.ops [] [
 ox 23 .mv [.t 0],
 ox 24 .nilCheck [.t 23],
 ox 25 (.fieldAddr 3) [.t 24],
 ox 26 (.load false 1) [.t 25],
 ox 27 (.arith .sub) [.t 26, .c (.int .i64 1)],
 ox 28 .nilCheck [.t 23],
 ox 29 (.fieldAddr 3) [.t 28],
 oy (.store 1) [.t 29, .t 27]])
 (.seq
 (.ops [2] [
 ox 2 .mv [.c (.int .i64 0)]])
 .ret))))
def r56 : List ARes := [.tmp 2]
theorem ok56 : FnOk Tryz.prog 56 c56 r56 :=
 ⟨Tryz.f56, _, Tryz.func56, by kernel_rfl, rfl, by kernel_rfl, by kernel_rfl⟩
def c57 : ACode :=
 (.seq
 (.ops [1] [
 ox 1 .box [.t 0],
 ox 2 .mv [.c (.int .i64 0)]])
 (.seq
 (.seq
 (.ops [4] [
 ox 3 (.load true 3) [.t 1],
 ox 4 (.call 85) [.t 3]])
 (.cond (.t 4)
 (.seq
 (.ops [2] [
 ox 2 .mv [.c (.int .i64 0)]])
 .ret)
 .skip))
 (.seq
 (.ops [2] [
 ox 2 .mv [.c (.int .i64 15)]])
 .ret)))
def r57 : List ARes := [.tmp 2]
theorem ok57 : FnOk Tryz.prog 57 c57 r57 :=
 ⟨Tryz.f57, _, Tryz.func57, by kernel_rfl, rfl, by kernel_rfl, by kernel_rfl⟩
def c58 : ACode :=
 (.seq
 (.ops [0, 1] [
 ox 4 .mv [.c .nils]])
 (.seq
 (.ops [1, 5] [
 ox 8 (.mkSl 0 [] []) [],
 ox 9 .mv [.t 0],
 ox 10 (.append 1 1) [.t 8, .t 9],
 ox 5 .mv [.t 10]])
 (.seq
 (.ops [5, 6] [
 ox 11 .mv [.t 1],
 ox 12 (.conv .u64) [.t 11],
 ox 6 .mv [.t 12]])
 (.seq
 (.seq
 (.ops [5, 6, 7] [
 ox 7 .mv [.c (.int .i64 7)]])
 (.block 0
 (.loop [5, 6, 7]
 (.seq
 (.seq
 (.ops [5, 6, 7, 14] [
 ox 13 .mv [.t 7],
 ox 14 (.cmp .geq) [.t 13, .c (.int .i64 0)]])
 (.cond (.t 14)
 .skip
 (.exit 0)))
 (.seq
 (.block 1
 (.ops [5, 6, 7] [
 ox 17 .mv [.t 5],
 ox 18 .mv [.t 6],
 ox 19 .mv [.t 7],
 ox 20 (.arith .mul) [.c (.int .i64 8), .t 19],
 ox 21 (.conv .u64) [.t 20],
 ox 22 (.shift .shr) [.t 18, .t 21],
 ox 23 (.conv .u8) [.t 22],
 ox 24 (.mkSl 1 [.int .u8 0] [(0, 1)]) [.t 23],
 ox 25 (.append 1 1) [.t 17, .t 24],
 ox 5 .mv [.t 25]]))
 (.ops [5, 6, 7] [
 ox 15 .mv [.t 7],
 ox 16 (.arith .sub) [.t 15, .c (.int .i64 1)],
 ox 7 .mv [.t 16]]))))))
 (.seq
 (.ops [4] [
 ox 26 .mv [.t 5],
 ox 4 .mv [.t 26]])
 .ret)))))
def r58 : List ARes := [.tmp 4]
theorem ok58 : FnOk Tryz.prog 58 c58 r58 :=
 ⟨Tryz.f58, _, Tryz.func58, by kernel_rfl, rfl, by kernel_rfl, by kernel_rfl⟩
def c59 : ACode :=
 (.seq
 (.ops [0] [
 ox 2 .mv [.c (.bool false)]])
 (.seq
 (.ops [2] [
 ox 3 .mv [.t 0],
 ox 4 (.cmp .geq) [.t 3, .c (.int .i64 1)],
 ox 5 .mv [.t 4],
 og 6 .mv [.t 0] 5 true,
 og 7 (.cmp .leq) [.t 6, .c (.int .i64 5)] 5 true,
 ox 8 .pick [.t 5, .t 7, .c (.bool false)],
 ox 2 .mv [.t 8]])
 .ret))
def r59 : List ARes := [.tmp 2]
theorem ok59 : FnOk Tryz.prog 59 c59 r59 :=
 ⟨Tryz.f59, _, Tryz.func59, by kernel_rfl, rfl, by kernel_rfl, by kernel_rfl⟩
def c60 : ACode :=
 (.seq
 (.ops [0] [
 ox 2 .mv [.c (.bool false)]])
 (.seq
 (.ops [2] [
 ox 3 .mv [.t 0],
 ox 4 (.cmp .geq) [.t 3, .c (.int .i64 0)],
 ox 5 .mv [.t 4],
 og 6 .mv [.t 0] 5 true,
 og 7 (.cmp .leq) [.t 6, .c (.int .i64 1099511627776)] 5 true,
 ox 8 .pick [.t 5, .t 7, .c (.bool false)],
 ox 2 .mv [.t 8]])
 .ret))
def r60 : List ARes := [.tmp 2]
theorem ok60 : FnOk Tryz.prog 60 c60 r60 :=
 ⟨Tryz.f60, _, Tryz.func60, by kernel_rfl, rfl, by kernel_rfl, by kernel_rfl⟩
def c61 : ACode :=
 (.seq
 (.ops [0] [
 ox 2 .mv [.c (.bool false)]])
 (.seq
 (.ops [2] [
 ox 3 .mv [.t 0],
 ox 4 (.cmp .geq) [.t 3, .c (.int .i64 0)],
 ox 5 .mv [.t 4],
 og 6 .mv [.t 0] 5 true,
 og 7 (.cmp .lss) [.t 6, .c (.int .i64 4096)] 5 true,
 ox 8 .pick [.t 5, .t 7, .c (.bool false)],
 ox 2 .mv [.t 8]])
 .ret))
def r61 : List ARes := [.tmp 2]
theorem ok61 : FnOk Tryz.prog 61 c61 r61 :=
 ⟨Tryz.f61, _, Tryz.func61, by kernel_rfl, rfl, by kernel_rfl, by kernel_rfl⟩
def c62 : ACode :=
 (.seq
 (.ops [0, 1, 2, 3, 4] [
 ox 10 .mv [.c .nils]])
 (.seq
 (.seq
 (.ops [0, 1, 2, 3, 4, 15] [
 ox 11 .mv [.t 0],
 ox 12 .nilCheck [.t 11],
 ox 13 (.fieldAddr 0) [.t 12],
 ox 14 (.load false 1) [.t 13],
 ox 15 (.eq true .ptr) [.t 14, .c .nilp]])
 (.cond (.t 15)
 (.seq
 (.ops [10] [
 ox 16 .mv [.t 0],
 ox 17 .nilCheck [.t 16],
 ox 18 (.fieldAddr 0) [.t 17],
 ox 19 (.load false 1) [.t 18],
 ox 20 .mv [.t 1],
 ox 21 .mv [.t 2],
 ox 22 .mv [.t 3],
 ox 23 .mv [.t 4],
 ox 24 (.call 86) [.t 19, .t 20, .t 21, .t 22, .t 23],
 ox 10 .mv [.t 24]])
 .ret)
 .skip))
 (.seq
 (.ops [10] [
 ox 25 .mv [.t 0],
 ox 26 .nilCheck [.t 25],
 ox 27 (.fieldAddr 1) [.t 26],
 ox 28 (.load false 1) [.t 27],
 ox 29 .mv [.t 1],
 ox 30 .mv [.t 2],
 ox 31 .mv [.t 3],
 ox 32 .mv [.t 4],
 ox 33 (.call 87) [.t 28, .t 29, .t 30, .t 31, .t 32],
 ox 10 .mv [.t 33]])
 .ret)))
def r62 : List ARes := [.tmp 10]
theorem ok62 : FnOk Tryz.prog 62 c62 r62 :=
 ⟨Tryz.f62, _, Tryz.func62, by kernel_rfl, rfl, by kernel_rfl, by kernel_rfl⟩
def c63 : ACode :=
 (.seq
 (.ops [0, 1] [
 ox 4 .mv [.c .nils]])
 (.seq
 (.ops [4] [
 ox 5 .mv [.t 0],
 ox 6 (.conv .u8) [.t 5],
 ox 7 (.mkSl 1 [.int .u8 0] [(0, 1)]) [.t 6],
 ox 8 .mv [.t 1],
 ox 9 (.call 58) [.t 7, .t 8],
 ox 4 .mv [.t 9]])
 .ret))
def r63 : List ARes := [.tmp 4]
theorem ok63 : FnOk Tryz.prog 63 c63 r63 :=
 ⟨Tryz.f63, _, Tryz.func63, by kernel_rfl, rfl, by kernel_rfl, by kernel_rfl⟩
def c64 : ACode :=
 (.seq
 (.ops [0] [
 ox 2 .mv [.c (.int .i64 0)]])
 (.seq
 (.seq
 (.ops [0, 6] [
 ox 3 .mv [.t 0],
 ox 4 .nilCheck [.t 3],
 ox 5 (.fieldAddr 3) [.t 4],
 ox 6 (.load false 1) [.t 5]])
 (.cond (.t 6)
 (.seq
 (.ops [2] [
 ox 2 .mv [.c (.int .i64 12)]])
 .ret)
 .skip))
 (.seq
 (.seq
 (.ops [0, 11] [
 ox 7 .mv [.t 0],
 ox 8 .nilCheck [.t 7],
 ox 9 (.fieldAddr 1) [.t 8],
 ox 10 (.load false 1) [.t 9],
 ox 11 (.eq false .int) [.t 10, .c (.int .i64 0)]])
 (.cond (.t 11)
 (.seq
 (.ops [] [
 ox 12 .mv [.t 0],
 ox 13 .nilCheck [.t 12],
 ox 14 (.fieldAddr 3) [.t 13],
 oy (.store 1) [.t 14, .c (.bool true)]])
 (.seq
 (.ops [2] [
 ox 2 .mv [.c (.int .i64 12)]])
 .ret))
 .skip))
 (.seq
 (.seq
 (.ops [0, 19] [
 ox 15 .mv [.t 0],
 ox 16 .nilCheck [.t 15],
 ox 17 (.fieldAddr 1) [.t 16],
 ox 18 (.load false 1) [.t 17],
 ox 19 (.cmp .gtr) [.t 18, .c (.int .i64 0)]])
 (.cond (.t 19)
 (.ops [] [
 ox 20 .mv [.t 0],
 ox 21 .mv [.t 0],
 ox 22 .nilCheck [.t 21],
 ox 23 (.fieldAddr 1) [.t 22],
 ox 24 (.load false 1) [.t 23],
 ox 25 (.arith .sub) [.t 24, .c (.int .i64 1)],
 ox 26 .nilCheck [.t 20],
 ox 27 (.fieldAddr 1) [.t 26],
 oy (.store 1) [.t 27, .t 25]])
 .skip))
 (.seq
 (.ops [2] [
 ox 2 .mv [.c (.int .i64 0)]])
 .ret)))))
def r64 : List ARes := [.tmp 2]
theorem ok64 : FnOk Tryz.prog 64 c64 r64 :=
 ⟨Tryz.f64, _, Tryz.func64, by kernel_rfl, rfl, by kernel_rfl, by kernel_rfl⟩
def c65 : ACode :=
 (.seq
 (.ops [1, 4] [
 ox 4 (.alloc (List.replicate 32 (.int .u8 0))) []])
 (.seq
 (.ops [4] [
 ox 5 .mv [.t 1],
 ox 6 (.call 88) [.t 5],
 oy (.store 32) [.t 4, .t 6]])
 .ret))
def r65 : List ARes := [.cell 4 true 32]
theorem ok65 : FnOk Tryz.prog 65 c65 r65 :=
 ⟨Tryz.f65, _, Tryz.func65, by kernel_rfl, rfl, by kernel_rfl, by kernel_rfl⟩
def c67 : ACode :=
 (.seq
 (.ops [0] [
 ox 2 .mv [.c (.int .i64 0)]])
 (.seq
 (.seq
 (.ops [0, 17] [
 ox 3 .mv [.t 0],
 ox 4 .len [.t 3],
 ox 5 (.cmp .lss) [.t 4, .c (.int .i64 17)],
 ox 6 .mv [.t 5],
 og 7 .mv [.t 0] 6 false,
 og 8 (.idxAddr 1) [.t 7, .c (.int .i64 0)] 6 false,
 og 9 (.load false 1) [.t 8] 6 false,
 og 10 (.cmp .lss) [.t 9, .c (.int .u8 1)] 6 false,
 ox 11 .pick [.t 6, .c (.bool true), .t 10],
 ox 12 .mv [.t 11],
 og 13 .mv [.t 0] 12 false,
 og 14 (.idxAddr 1) [.t 13, .c (.int .i64 0)] 12 false,
 og 15 (.load false 1) [.t 14] 12 false,
 og 16 (.cmp .gtr) [.t 15, .c (.int .u8 5)] 12 false,
 ox 17 .pick [.t 12, .c (.bool true), .t 16]])
 (.cond (.t 17)
 (.seq
 (.ops [2] [
 ox 2 .mv [.c (.int .i64 0)]])
 .ret)
 .skip))
 (.seq
 (.ops [2] [
 ox 18 .mv [.t 0],
 ox 19 (.idxAddr 1) [.t 18, .c (.int .i64 0)],
 ox 20 (.load false 1) [.t 19],
 ox 21 (.conv .i64) [.t 20],
 ox 2 .mv [.t 21]])
 .ret)))
def r67 : List ARes := [.tmp 2]
theorem ok67 : FnOk Tryz.prog 67 c67 r67 :=
 ⟨Tryz.f67, _, Tryz.func67, by kernel_rfl, rfl, by kernel_rfl, by kernel_rfl⟩
def c68 : ACode :=
 (.seq
 (.ops [0] [
 ox 2 .mv [.c .nilp]])
 (.seq
 (.ops [2] [
 ox 3 .mv [.t 0],
 ox 4 (.call 83) [.t 3, .c .nils],
 ox 5 (.build [.nils, .bool false] [(0, 1)]) [.t 4],
 ox 6 .box [.t 5],
 ox 2 .mv [.t 6]])
 .ret))
def r68 : List ARes := [.tmp 2]
theorem ok68 : FnOk Tryz.prog 68 c68 r68 :=
 ⟨Tryz.f68, _, Tryz.func68, by kernel_rfl, rfl, by kernel_rfl, by kernel_rfl⟩
def c69 : ACode :=
 (.seq
 (.ops [0] [
 ox 2 .mv [.c (.int .i64 0)]])
 (.seq
 (.ops [2] [
 ox 3 .mv [.t 0],
 ox 4 (.call 90) [.t 3, .c (.int .i64 8), .c (.fn (.func 91) [] [])],
 ox 2 .mv [.t 4]])
 .ret))
def r69 : List ARes := [.tmp 2]
theorem ok69 : FnOk Tryz.prog 69 c69 r69 :=
 ⟨Tryz.f69, _, Tryz.func69, by kernel_rfl, rfl, by kernel_rfl, by kernel_rfl⟩
def c70 : ACode :=
 (.seq
 (.ops [0] [
 ox 2 .mv [.c (.int .i64 0)]])
 (.seq
 (.block 0
 (.seq
 (.ops [0, 3] [
 ox 4 .mv [.t 0],
 ox 5 .nilCheck [.t 4],
 ox 6 (.fieldAddr 1) [.t 5],
 ox 7 (.load false 1) [.t 6],
 ox 3 .mv [.t 7]])
 (.cond (.t 3)
 (.seq
 (.ops [2] [
 ox 2 .mv [.c (.int .i64 4)]])
 .ret)
 (.seq
 (.ops [8] [
 ox 9 .mv [.t 0],
 ox 10 .nilCheck [.t 9],
 ox 11 (.fieldAddr 0) [.t 10],
 ox 12 (.load false 1) [.t 11],
 ox 13 .len [.t 12],
 ox 14 (.cmp .gtr) [.t 13, .c (.int .i64 0)],
 ox 8 .mv [.t 14]])
 (.cond (.t 8)
 (.seq
 (.ops [2] [
 ox 2 .mv [.c (.int .i64 3)]])
 .ret)
 .skip)))))
 (.seq
 (.ops [2] [
 ox 2 .mv [.c (.int .i64 0)]])
 .ret)))
def r70 : List ARes := [.tmp 2]
theorem ok70 : FnOk Tryz.prog 70 c70 r70 :=
 ⟨Tryz.f70, _, Tryz.func70, by kernel_rfl, rfl, by kernel_rfl, by kernel_rfl⟩
def c71 : ACode :=
 (.seq
 (.ops [0] [
 ox 2 .mv [.c .nilp]])
 (.seq
 (.ops [2] [
 ox 3 (.mkSl 0 [] []) [],
 ox 4 .mv [.t 0],
 ox 5 (.append 1 1) [.t 3, .t 4],
 ox 6 (.build [.nils, .int .i64 0, .bool false] [(0, 1)]) [.t 5],
 ox 7 .box [.t 6],
 ox 2 .mv [.t 7]])
 .ret))
def r71 : List ARes := [.tmp 2]
theorem ok71 : FnOk Tryz.prog 71 c71 r71 :=
 ⟨Tryz.f71, _, Tryz.func71, by kernel_rfl, rfl, by kernel_rfl, by kernel_rfl⟩
def c72 : ACode :=
 (.seq
 (.ops [0] [
 ox 2 .mv [.c (.int .i64 0)]])
 (.seq
 (.ops [3, 4] [
 ox 8 .mv [.t 0],
 ox 9 (.call 92) [.t 8, .c (.int .i64 8)],
 ox 7 .mv [.t 9],
 ox 10 (.extract 0) [.t 7],
 ox 11 (.extract 1) [.t 7],
 ox 3 .mv [.t 10],
 ox 4 .mv [.t 11]])
 (.seq
 (.seq
 (.ops [3, 13] [
 ox 12 .mv [.t 4],
 ox 13 .not [.t 12]])
 (.cond (.t 13)
 (.seq
 (.ops [2] [
 ox 2 .mv [.c (.int .i64 0)]])
 .ret)
 .skip))
 (.seq
 (.ops [3, 5] [
 ox 5 .mv [.c (.int .u64 0)]])
 (.seq
 (.seq
 (.ops [3, 5, 6] [
 ox 6 .mv [.c (.int .i64 0)]])
 (.block 0
 (.loop [3, 5, 6]
 (.seq
 (.seq
 (.ops [3, 5, 6, 15] [
 ox 14 .mv [.t 6],
 ox 15 (.cmp .lss) [.t 14, .c (.int .i64 8)]])
 (.cond (.t 15)
 .skip
 (.exit 0)))
 (.seq
 (.block 1
 (.ops [3, 5, 6] [
 ox 18 .mv [.t 5],
 ox 19 (.arith .mul) [.t 18, .c (.int .u64 256)],
 ox 20 .mv [.t 3],
 ox 21 .mv [.t 6],
 ox 22 (.idxAddr 1) [.t 20, .t 21],
 ox 23 (.load false 1) [.t 22],
 ox 24 (.conv .u64) [.t 23],
 ox 25 (.arith .add) [.t 19, .t 24],
 ox 5 .mv [.t 25]]))
 (.ops [3, 5, 6] [
 ox 16 .mv [.t 6],
 ox 17 (.arith .add) [.t 16, .c (.int .i64 1)],
 ox 6 .mv [.t 17]]))))))
 (.seq
 (.ops [2] [
 ox 26 .mv [.t 5],
 ox 27 (.conv .i64) [.t 26],
 ox 2 .mv [.t 27]])
 .ret))))))
def r72 : List ARes := [.tmp 2]
theorem ok72 : FnOk Tryz.prog 72 c72 r72 :=
 ⟨Tryz.f72, _, Tryz.func72, by kernel_rfl, rfl, by kernel_rfl, by kernel_rfl⟩
def c73 : ACode :=
 (.seq
 (.ops [0, 1, 2, 3, 4] [
 ox 10 .mv [.c .nils],
 ox 11 .mv [.c (.bool false)]])
 (.seq
 (.seq
 (.ops [0, 1, 2, 3, 4, 16] [
 ox 12 .mv [.t 0],
 ox 13 .nilCheck [.t 12],
 ox 14 (.fieldAddr 0) [.t 13],
 ox 15 (.load false 1) [.t 14],
 ox 16 (.eq true .ptr) [.t 15, .c .nilp]])
 (.cond (.t 16)
 (.seq
 (.ops [10, 11] [
 ox 17 .mv [.t 0],
 ox 18 .nilCheck [.t 17],
 ox 19 (.fieldAddr 0) [.t 18],
 ox 20 (.load false 1) [.t 19],
 ox 21 .mv [.t 1],
 ox 22 .mv [.t 2],
 ox 23 .mv [.t 3],
 ox 24 .mv [.t 4],
 ox 25 (.call 93) [.t 20, .t 21, .t 22, .t 23, .t 24],
 ox 26 (.extract 0) [.t 25],
 ox 27 (.extract 1) [.t 25],
 ox 10 .mv [.t 26],
 ox 11 .mv [.t 27]])
 .ret)
 .skip))
 (.seq
 (.ops [10, 11] [
 ox 28 .mv [.t 0],
 ox 29 .nilCheck [.t 28],
 ox 30 (.fieldAddr 1) [.t 29],
 ox 31 (.load false 1) [.t 30],
 ox 32 .mv [.t 1],
 ox 33 .mv [.t 2],
 ox 34 .mv [.t 3],
 ox 35 .mv [.t 4],
 ox 36 (.call 94) [.t 31, .t 32, .t 33, .t 34, .t 35],
 ox 37 (.extract 0) [.t 36],
 ox 38 (.extract 1) [.t 36],
 ox 10 .mv [.t 37],
 ox 11 .mv [.t 38]])
 .ret)))
def r73 : List ARes := [.tmp 10, .tmp 11]
theorem ok73 : FnOk Tryz.prog 73 c73 r73 :=
 ⟨Tryz.f73, _, Tryz.func73, by kernel_rfl, rfl, by kernel_rfl, by kernel_rfl⟩
def c74 : ACode :=
 (.seq
 (.ops [0] [
 ox 2 .mv [.c (.int .i64 0)]])
 (.seq
 (.seq
 (.ops [0, 6] [
 ox 3 .mv [.t 0],
 ox 4 .nilCheck [.t 3],
 ox 5 (.fieldAddr 2) [.t 4],
 ox 6 (.load false 1) [.t 5]])
 (.cond (.t 6)
 (.seq
 (.ops [2] [
 ox 2 .mv [.c (.int .i64 4)]])
 .ret)
 .skip))
 (.seq
 (.seq
 (.ops [9] [
 ox 7 .mv [.t 0],
 ox 8 (.call 95) [.t 7],
 ox 9 (.cmp .gtr) [.t 8, .c (.int .i64 0)]])
 (.cond (.t 9)
 (.seq
 (.ops [2] [
 ox 2 .mv [.c (.int .i64 3)]])
 .ret)
 .skip))
 (.seq
 (.ops [2] [
 ox 2 .mv [.c (.int .i64 0)]])
 .ret))))
def r74 : List ARes := [.tmp 2]
theorem ok74 : FnOk Tryz.prog 74 c74 r74 :=
 ⟨Tryz.f74, _, Tryz.func74, by kernel_rfl, rfl, by kernel_rfl, by kernel_rfl⟩
def c75 : ACode :=
 (.seq
 (.ops [0, 1, 4] [
 ox 4 (.alloc (List.replicate 64 (.int .u8 0))) []])
 (.seq
 (.ops [0, 1, 4, 5] [
 ox 5 (.alloc (List.replicate 64 (.int .u8 0))) []])
 (.seq
 (.seq
 (.ops [0, 1, 4, 5, 10] [
 ox 8 .mv [.t 0],
 ox 9 .len [.t 8],
 ox 10 (.cmp .gtr) [.t 9, .c (.int .i64 64)]])
 (.cond (.t 10)
 (.seq
 (.ops [1, 4, 5, 6] [
 ox 11 .mv [.t 0],
 ox 12 (.call 96) [.t 11],
 ox 6 (.alloc (List.replicate 32 (.int .u8 0))) [],
 oy (.store 32) [.t 6, .t 12]])
 (.drawn [1, 4, 5] [
 ox 13 (.sliceArr 64 1 false false false) [.t 5],
 ox 14 (.sliceArr 32 1 false false false) [.t 6],
 od 15 (.copy 1) [.t 13, .t 14] 0 1]))
 (.ops [1, 4, 5] [
 ox 16 (.sliceArr 64 1 false false false) [.t 5],
 ox 17 .mv [.t 0],
 ox 18 (.copy 1) [.t 16, .t 17]])))
 (.seq
 (.seq
 (.ops [1, 4, 5, 19] [
 ox 19 .mv [.c (.int .i64 0)]])
 (.block 0
 (.loop [1, 4, 5, 19]
 (.seq
 (.ops [1, 4, 5, 19, 20] [
 ox 20 (.cmp .lss) [.t 19, .c (.int .i64 64)]])
 (.seq
 (.cond (.t 20)
 .skip
 (.exit 0))
 (.seq
 (.block 1
 (.seq
 (.ops [1, 4, 5, 7, 19] [
 ox 21 .mv [.t 19],
 ox 7 .mv [.t 21]])
 (.ops [1, 4, 5, 19] [
 ox 22 .mv [.t 7],
 ox 23 (.idxAddrArr 64 1) [.t 5, .t 22],
 ox 24 (.load false 1) [.t 23],
 ox 25 .mv [.t 1],
 ox 26 (.arith .xor) [.t 24, .t 25],
 ox 27 (.idxAddrArr 64 1) [.t 5, .t 22],
 oy (.store 1) [.t 27, .t 26]])))
 (.ops [1, 4, 5, 19] [
 ox 28 (.arith .add) [.t 19, .c (.int .i64 1)],
 ox 19 .mv [.t 28]])))))))
 (.seq
 (.ops [4] [
 ox 29 (.load true 64) [.t 5],
 oy (.store 64) [.t 4, .t 29]])
 .ret)))))
def r75 : List ARes := [.cell 4 true 64]
theorem ok75 : FnOk Tryz.prog 75 c75 r75 :=
 ⟨Tryz.f75, _, Tryz.func75, by kernel_rfl, rfl, by kernel_rfl, by kernel_rfl⟩
def c76 : ACode :=
 (.seq
 (.ops [] [
 ox 0 .mv [.c .nilp]])
 (.seq
 (.ops [0] [
 ox 1 (.build [.int .u32 0, .int .u32 0, .int .u32 0, .int .u32 0, .int .u32 0, .int .u32 0, .int .u32 0, .int .u32 0] [(0, 1), (1, 1), (2, 1), (3, 1), (4, 1), (5, 1), (6, 1), (7, 1)]) [.c (.int .u32 1779033703), .c (.int .u32 3144134277), .c (.int .u32 1013904242), .c (.int .u32 2773480762), .c (.int .u32 1359893119), .c (.int .u32 2600822924), .c (.int .u32 528734635), .c (.int .u32 1541459225)],
 ox 2 (.build [.int .u32 0, .int .u32 0, .int .u32 0, .int .u32 0, .int .u32 0, .int .u32 0, .int .u32 0, .int .u32 0, .nils, .int .i64 0] [(0, 8)]) [.t 1],
 ox 3 .box [.t 2],
 ox 0 .mv [.t 3]])
 .ret))
def r76 : List ARes := [.tmp 0]
theorem ok76 : FnOk Tryz.prog 76 c76 r76 :=
 ⟨Tryz.f76, _, Tryz.func76, by kernel_rfl, rfl, by kernel_rfl, by kernel_rfl⟩
def c77 : ACode :=
 (.seq
 (.ops [0, 1] [
 ox 5 .mv [.t 0],
 ox 6 .nilCheck [.t 5],
 ox 7 (.fieldAddr 9) [.t 6],
 ox 8 (.load false 1) [.t 7],
 ox 9 .mv [.t 1],
 ox 10 .len [.t 9],
 ox 11 (.arith .add) [.t 8, .t 10],
 ox 12 .nilCheck [.t 5],
 ox 13 (.fieldAddr 9) [.t 12],
 oy (.store 1) [.t 13, .t 11]])
 (.seq
 (.ops [0] [
 ox 14 .mv [.t 0],
 ox 15 .mv [.t 0],
 ox 16 .nilCheck [.t 15],
 ox 17 (.fieldAddr 8) [.t 16],
 ox 18 (.load false 1) [.t 17],
 ox 19 .mv [.t 1],
 ox 20 (.append 1 1) [.t 18, .t 19],
 ox 21 .nilCheck [.t 14],
 ox 22 (.fieldAddr 8) [.t 21],
 oy (.store 1) [.t 22, .t 20]])
 (.seq
 (.ops [0, 4] [
 ox 4 .mv [.c (.int .i64 0)]])
 (.seq
 (.block 0
 (.loop [0, 4]
 (.seq
 (.seq
 (.ops [0, 4, 30] [
 ox 23 .mv [.t 0],
 ox 24 .nilCheck [.t 23],
 ox 25 (.fieldAddr 8) [.t 24],
 ox 26 (.load false 1) [.t 25],
 ox 27 .len [.t 26],
 ox 28 .mv [.t 4],
 ox 29 (.arith .sub) [.t 27, .t 28],
 ox 30 (.cmp .geq) [.t 29, .c (.int .i64 64)]])
 (.cond (.t 30)
 .skip
 (.exit 0)))
 (.seq
 (.block 1
 (.drawn [0, 4] [
 od 33 .mv [.t 0] 0 1,
 ox 34 .mv [.t 0],
 ox 35 .nilCheck [.t 34],
 ox 36 (.fieldAddr 0) [.t 35],
 ox 37 (.load true 8) [.t 36],
 ox 38 .mv [.t 0],
 ox 39 .nilCheck [.t 38],
 ox 40 (.fieldAddr 8) [.t 39],
 ox 41 (.load false 1) [.t 40],
 ox 42 .mv [.t 4],
 ox 43 .mv [.t 4],
 ox 44 (.arith .add) [.t 43, .c (.int .i64 64)],
 ox 45 (.slice 1 true true false) [.t 41, .t 42, .t 44],
 od 46 (.call 97) [.t 37, .t 45] 0 1,
 od 47 .nilCheck [.t 33] 1 1,
 od 48 (.fieldAddr 0) [.t 47] 1 1,
 oe (.store 8) [.t 48, .t 46] 1 2]))
 (.ops [0, 4] [
 ox 31 .mv [.t 4],
 ox 32 (.arith .add) [.t 31, .c (.int .i64 64)],
 ox 4 .mv [.t 32]])))))
 (.ops [] [
 ox 49 .mv [.t 0],
 ox 50 (.mkSl 0 [] []) [],
 ox 51 .mv [.t 0],
 ox 52 .nilCheck [.t 51],
 ox 53 (.fieldAddr 8) [.t 52],
 ox 54 (.load false 1) [.t 53],
 ox 55 .mv [.t 4],
 ox 56 (.slice 1 true false false) [.t 54, .t 55],
 ox 57 (.append 1 1) [.t 50, .t 56],
 ox 58 .nilCheck [.t 49],
 ox 59 (.fieldAddr 8) [.t 58],
 oy (.store 1) [.t 59, .t 57]])))))
def r77 : List ARes := []
theorem ok77 : FnOk Tryz.prog 77 c77 r77 :=
 ⟨Tryz.f77, _, Tryz.func77, by kernel_rfl, rfl, by kernel_rfl, by kernel_rfl⟩
def c78 : ACode :=
 (.seq
 (.ops [0, 2] [
 ox 2 (.alloc (List.replicate 32 (.int .u8 0))) []])
 (.seq
 (.ops [0, 2, 3] [
 ox 9 (.mkSl 0 [] []) [],
 ox 10 .mv [.t 0],
 ox 11 .nilCheck [.t 10],
 ox 12 (.fieldAddr 8) [.t 11],
 ox 13 (.load false 1) [.t 12],
 ox 14 (.append 1 1) [.t 9, .t 13],
 ox 15 (.mkSl 1 [.int .u8 0] [(0, 1)]) [.c (.int .u8 128)],
 ox 16 (.append 1 1) [.t 14, .t 15],
 ox 3 .mv [.t 16]])
 (.seq
 (.block 0
 (.loop [0, 2, 3]
 (.seq
 (.seq
 (.ops [0, 2, 3, 20] [
 ox 17 .mv [.t 3],
 ox 18 .len [.t 17],
 ox 19 (.arith .rem) [.t 18, .c (.int .i64 64)],
 ox 20 (.eq true .int) [.t 19, .c (.int .i64 56)]])
 (.cond (.t 20)
 .skip
 (.exit 0)))
 (.block 1
 (.ops [0, 2, 3] [
 ox 21 .mv [.t 3],
 ox 22 (.mkSl 1 [.int .u8 0] [(0, 1)]) [.c (.int .u8 0)],
 ox 23 (.append 1 1) [.t 21, .t 22],
 ox 3 .mv [.t 23]])))))
 (.seq
 (.ops [0, 2, 3, 4] [
 ox 24 .mv [.t 0],
 ox 25 .nilCheck [.t 24],
 ox 26 (.fieldAddr 9) [.t 25],
 ox 27 (.load false 1) [.t 26],
 ox 28 (.conv .u64) [.t 27],
 ox 29 (.arith .mul) [.t 28, .c (.int .u64 8)],
 ox 4 .mv [.t 29]])
 (.seq
 (.seq
 (.ops [0, 2, 3, 4, 5] [
 ox 5 .mv [.c (.int .i64 56)]])
 (.block 2
 (.loop [0, 2, 3, 4, 5]
 (.seq
 (.seq
 (.ops [0, 2, 3, 4, 5, 31] [
 ox 30 .mv [.t 5],
 ox 31 (.cmp .geq) [.t 30, .c (.int .i64 0)]])
 (.cond (.t 31)
 .skip
 (.exit 2)))
 (.seq
 (.block 3
 (.ops [0, 2, 3, 4, 5] [
 ox 34 .mv [.t 3],
 ox 35 .mv [.t 4],
 ox 36 .mv [.t 5],
 ox 37 (.shift .shr) [.t 35, .t 36],
 ox 38 (.conv .u8) [.t 37],
 ox 39 (.mkSl 1 [.int .u8 0] [(0, 1)]) [.t 38],
 ox 40 (.append 1 1) [.t 34, .t 39],
 ox 3 .mv [.t 40]]))
 (.ops [0, 2, 3, 4, 5] [
 ox 32 .mv [.t 5],
 ox 33 (.arith .sub) [.t 32, .c (.int .i64 8)],
 ox 5 .mv [.t 33]]))))))
 (.seq
 (.ops [2, 3, 6] [
 ox 41 .mv [.t 0],
 ox 42 .nilCheck [.t 41],
 ox 43 (.fieldAddr 0) [.t 42],
 ox 44 (.load true 8) [.t 43],
 ox 6 (.alloc [.int .u32 0, .int .u32 0, .int .u32 0, .int .u32 0, .int .u32 0, .int .u32 0, .int .u32 0, .int .u32 0]) [],
 oy (.store 8) [.t 6, .t 44]])
 (.seq
 (.block 4
 (.loop [2, 3, 6]
 (.seq
 (.seq
 (.ops [2, 3, 6, 47] [
 ox 45 .mv [.t 3],
 ox 46 .len [.t 45],
 ox 47 (.cmp .gtr) [.t 46, .c (.int .i64 0)]])
 (.cond (.t 47)
 .skip
 (.exit 4)))
 (.seq
 (.block 5
 (.drawn [2, 3, 6] [
 ox 50 (.load true 8) [.t 6],
 ox 51 .mv [.t 3],
 ox 52 (.slice 1 false true false) [.t 51, .c (.int .i64 64)],
 od 53 (.call 97) [.t 50, .t 52] 0 1,
 oe (.store 8) [.t 6, .t 53] 1 2]))
 (.ops [2, 3, 6] [
 ox 48 .mv [.t 3],
 ox 49 (.slice 1 true false false) [.t 48, .c (.int .i64 64)],
 ox 3 .mv [.t 49]])))))
 (.seq
 (.ops [2, 6, 7] [
 ox 7 (.alloc (List.replicate 32 (.int .u8 0))) []])
 (.seq
 (.seq
 (.ops [2, 6, 7, 54] [
 ox 54 .mv [.c (.int .i64 0)]])
 (.block 6
 (.loop [2, 6, 7, 54]
 (.seq
 (.ops [2, 6, 7, 54, 55] [
 ox 55 (.cmp .lss) [.t 54, .c (.int .i64 32)]])
 (.seq
 (.cond (.t 55)
 .skip
 (.exit 6))
 (.seq
 (.block 7
 (.seq
 (.ops [2, 6, 7, 8, 54] [
 ox 56 .mv [.t 54],
 ox 8 .mv [.t 56]])
 (.ops [2, 6, 7, 54] [
 ox 57 .mv [.t 8],
 ox 58 .mv [.t 8],
 ox 59 (.arith .quo) [.t 58, .c (.int .i64 4)],
 ox 60 (.idxAddrArr 8 1) [.t 6, .t 59],
 ox 61 (.load false 1) [.t 60],
 ox 62 .mv [.t 8],
 ox 63 (.arith .rem) [.t 62, .c (.int .i64 4)],
 ox 64 (.arith .mul) [.c (.int .i64 8), .t 63],
 ox 65 (.arith .sub) [.c (.int .i64 24), .t 64],
 ox 66 (.shift .shr) [.t 61, .t 65],
 ox 67 (.conv .u8) [.t 66],
 ox 68 (.idxAddrArr 32 1) [.t 7, .t 57],
 oy (.store 1) [.t 68, .t 67]])))
 (.ops [2, 6, 7, 54] [
 ox 69 (.arith .add) [.t 54, .c (.int .i64 1)],
 ox 54 .mv [.t 69]])))))))
 (.seq
 (.ops [2] [
 ox 70 (.load true 32) [.t 7],
 oy (.store 32) [.t 2, .t 70]])
 .ret))))))))))
def r78 : List ARes := [.cell 2 true 32]
theorem ok78 : FnOk Tryz.prog 78 c78 r78 :=
 ⟨Tryz.f78, _, Tryz.func78, by kernel_rfl, rfl, by kernel_rfl, by kernel_rfl⟩
def c79 : ACode :=
 (.seq
 (.ops [0, 1, 4] [
 ox 4 (.alloc (List.replicate 32 (.int .u8 0))) []])
 (.seq
 (.ops [0, 1, 4, 5] [
 ox 9 .mv [.t 0],
 ox 10 (.call 98) [.t 9, .c (.int .u8 54)],
 ox 5 .mv [.t 10]])
 (.seq
 (.seq
 (.ops [0, 1, 4, 5, 6] [
 ox 6 .mv [.c (.int .i64 0)]])
 (.block 0
 (.loop [0, 1, 4, 5, 6]
 (.seq
 (.seq
 (.ops [0, 1, 4, 5, 6, 14] [
 ox 11 .mv [.t 6],
 ox 12 .mv [.t 1],
 ox 13 .len [.t 12],
 ox 14 (.cmp .lss) [.t 11, .t 13]])
 (.cond (.t 14)
 .skip
 (.exit 0)))
 (.seq
 (.block 1
 (.ops [0, 1, 4, 5, 6] [
 ox 17 .mv [.t 5],
 ox 18 .mv [.t 1],
 ox 19 .mv [.t 6],
 ox 20 (.idxAddr 1) [.t 18, .t 19],
 ox 21 (.load false 1) [.t 20],
 ox 22 (.mkSl 1 [.int .u8 0] [(0, 1)]) [.t 21],
 ox 23 (.append 1 1) [.t 17, .t 22],
 ox 5 .mv [.t 23]]))
 (.ops [0, 1, 4, 5, 6] [
 ox 15 .mv [.t 6],
 ox 16 (.arith .add) [.t 15, .c (.int .i64 1)],
 ox 6 .mv [.t 16]]))))))
 (.seq
 (.ops [0, 4, 7] [
 ox 24 .mv [.t 5],
 ox 25 (.call 88) [.t 24],
 ox 7 (.alloc (List.replicate 32 (.int .u8 0))) [],
 oy (.store 32) [.t 7, .t 25]])
 (.seq
 (.ops [4, 5, 7] [
 ox 26 .mv [.t 0],
 ox 27 (.call 98) [.t 26, .c (.int .u8 92)],
 ox 5 .mv [.t 27]])
 (.seq
 (.seq
 (.ops [4, 5, 7, 8] [
 ox 8 .mv [.c (.int .i64 0)]])
 (.block 2
 (.loop [4, 5, 7, 8]
 (.seq
 (.seq
 (.ops [4, 5, 7, 8, 29] [
 ox 28 .mv [.t 8],
 ox 29 (.cmp .lss) [.t 28, .c (.int .i64 32)]])
 (.cond (.t 29)
 .skip
 (.exit 2)))
 (.seq
 (.block 3
 (.ops [4, 5, 7, 8] [
 ox 32 .mv [.t 5],
 ox 33 .mv [.t 8],
 ox 34 (.idxAddrArr 32 1) [.t 7, .t 33],
 ox 35 (.load false 1) [.t 34],
 ox 36 (.mkSl 1 [.int .u8 0] [(0, 1)]) [.t 35],
 ox 37 (.append 1 1) [.t 32, .t 36],
 ox 5 .mv [.t 37]]))
 (.ops [4, 5, 7, 8] [
 ox 30 .mv [.t 8],
 ox 31 (.arith .add) [.t 30, .c (.int .i64 1)],
 ox 8 .mv [.t 31]]))))))
 (.seq
 (.ops [4] [
 ox 38 .mv [.t 5],
 ox 39 (.call 88) [.t 38],
 oy (.store 32) [.t 4, .t 39]])
 .ret)))))))
def r79 : List ARes := [.cell 4 true 32]
theorem ok79 : FnOk Tryz.prog 79 c79 r79 :=
 ⟨Tryz.f79, _, Tryz.func79, by kernel_rfl, rfl, by kernel_rfl, by kernel_rfl⟩
def c80 : ACode :=
 (.seq
 (.ops [] [
 ox 0 .mv [.c .nils]])
 (.seq
 (.ops [1] [
 ox 1 .mv [.c .nils]])
 (.seq
 (.seq
 (.ops [1, 2] [
 ox 2 .mv [.c (.int .i64 0)]])
 (.block 0
 (.loop [1, 2]
 (.seq
 (.seq
 (.ops [1, 2, 4] [
 ox 3 .mv [.t 2],
 ox 4 (.cmp .lss) [.t 3, .c (.int .i64 256)]])
 (.cond (.t 4)
 .skip
 (.exit 0)))
 (.seq
 (.block 1
 (.ops [1, 2] [
 ox 7 .mv [.t 1],
 ox 8 .mv [.t 2],
 ox 9 (.conv .u8) [.t 8],
 ox 10 (.call 99) [.t 9],
 ox 11 (.mkSl 1 [.int .u8 0] [(0, 1)]) [.t 10],
 ox 12 (.append 1 1) [.t 7, .t 11],
 ox 1 .mv [.t 12]]))
 (.ops [1, 2] [
 ox 5 .mv [.t 2],
 ox 6 (.arith .add) [.t 5, .c (.int .i64 1)],
 ox 2 .mv [.t 6]]))))))
 (.seq
 (.ops [0] [
 ox 13 .mv [.t 1],
 ox 0 .mv [.t 13]])
 .ret))))
def r80 : List ARes := [.tmp 0]
theorem ok80 : FnOk Tryz.prog 80 c80 r80 :=
 ⟨Tryz.f80, _, Tryz.func80, by kernel_rfl, rfl, by kernel_rfl, by kernel_rfl⟩
def c81 : ACode :=
 (.seq
 (.ops [0] [
 ox 2 .mv [.c (.int .u8 0)]])
 (.seq
 (.ops [0, 3] [
 ox 4 .mv [.t 0],
 ox 5 (.shift .shl) [.t 4, .c (.int .u64 1)],
 ox 3 .mv [.t 5]])
 (.seq
 (.seq
 (.ops [3, 7] [
 ox 6 .mv [.t 0],
 ox 7 (.cmp .geq) [.t 6, .c (.int .u8 128)]])
 (.cond (.t 7)
 (.ops [3] [
 ox 8 .mv [.t 3],
 ox 9 (.arith .xor) [.t 8, .c (.int .u8 27)],
 ox 3 .mv [.t 9]])
 .skip))
 (.seq
 (.ops [2] [
 ox 10 .mv [.t 3],
 ox 2 .mv [.t 10]])
 .ret))))
def r81 : List ARes := [.tmp 2]
theorem ok81 : FnOk Tryz.prog 81 c81 r81 :=
 ⟨Tryz.f81, _, Tryz.func81, by kernel_rfl, rfl, by kernel_rfl, by kernel_rfl⟩
def c82 : ACode :=
 (.seq
 (.ops [1] [
 ox 1 .box [.t 0],
 ox 2 .mv [.c (.bool false)]])
 (.seq
 (.drawn [2] [
 ox 3 (.fieldAddr 0) [.t 1],
 ox 4 (.load false 1) [.t 3],
 ox 5 (.build [.int .i64 0, .int .i64 0, .int .i64 0] [(0, 1), (1, 1), (2, 1)]) [.t 4, .c (.int .i64 16), .c (.int .i64 32)],
 ox 6 (.fieldAddr 1) [.t 1],
 ox 7 (.load false 1) [.t 6],
 ox 8 (.build [.int .i64 0, .int .i64 0, .int .i64 0] [(0, 1), (1, 1), (2, 1)]) [.t 7, .c (.int .i64 32), .c (.int .i64 64)],
 ox 9 (.fieldAddr 2) [.t 1],
 ox 10 (.load false 1) [.t 9],
 ox 11 (.build [.int .i64 0, .int .i64 0, .int .i64 0] [(0, 1), (1, 1), (2, 1)]) [.t 10, .c (.int .i64 1), .c (.int .i64 64)],
 ox 12 (.mkSl 3 (List.replicate 9 (.int .i64 0)) [(0, 3), (3, 3), (6, 3)]) [.t 5, .t 8, .t 11],
 od 13 (.call 100) [.t 12] 0 1,
 od 14 .mv [.t 13] 1 1,
 oh 15 (.fieldAddr 2) [.t 1] 14 true 1 3,
 oh 16 (.load false 1) [.t 15] 14 true 1 3,
 oh 17 (.arith .add) [.t 16, .c (.int .i64 9)] 14 true 1 3,
 oh 18 (.fieldAddr 0) [.t 1] 14 true 1 3,
 oh 19 (.load false 1) [.t 18] 14 true 1 3,
 oh 20 (.load true 3) [.t 1] 14 true 1 1,
 oh 21 (.fieldAddr 2) [.t 1] 14 true 1 1,
 oh 22 (.load false 1) [.t 21] 14 true 1 1,
 oh 23 (.call 101) [.t 20, .t 22] 14 true 1 2,
 oh 24 (.arith .sub) [.t 19, .t 23] 14 true 2 3,
 oh 25 (.arith .sub) [.t 24, .c (.int .i64 14)] 14 true 2 3,
 oh 26 (.load true 3) [.t 1] 14 true 1 2,
 oh 27 (.call 102) [.t 26] 14 true 2 3,
 oh 28 (.arith .add) [.t 27, .c (.int .i64 1)] 14 true 3 3,
 oh 29 (.arith .mul) [.t 25, .t 28] 14 true 3 3,
 oh 30 (.cmp .lss) [.t 17, .t 29] 14 true 3 3,
 od 31 .pick [.t 14, .t 30, .c (.bool false)] 3 3,
 od 2 .mv [.t 31] 3 3])
 .ret))
def r82 : List ARes := [.tmp 2]
theorem ok82 : FnOk Tryz.prog 82 c82 r82 :=
 ⟨Tryz.f82, _, Tryz.func82, by kernel_rfl, rfl, by kernel_rfl, by kernel_rfl⟩
def c83 : ACode :=
 (.seq
 (.ops [0, 1] [
 ox 4 .mv [.c .nils]])
 (.seq
 (.ops [4] [
 ox 5 .mv [.t 0],
 ox 6 .len [.t 5],
 ox 7 .mv [.t 1],
 ox 8 .len [.t 7],
 ox 9 (.arith .add) [.t 6, .t 8],
 ox 10 (.mkSlice [.int .u8 0] 1) [.c (.int .i64 0), .t 9],
 ox 11 .mv [.t 0],
 ox 12 (.append 1 1) [.t 10, .t 11],
 ox 13 .mv [.t 1],
 ox 14 (.append 1 1) [.t 12, .t 13],
 ox 4 .mv [.t 14]])
 .ret))
def r83 : List ARes := [.tmp 4]
theorem ok83 : FnOk Tryz.prog 83 c83 r83 :=
 ⟨Tryz.f83, _, Tryz.func83, by kernel_rfl, rfl, by kernel_rfl, by kernel_rfl⟩
def c84 : ACode :=
 (.seq
 (.ops [0] [
 ox 2 .mv [.c .nils]])
 (.seq
 (.ops [3] [
 ox 4 .mv [.t 0],
 ox 5 (.conv .u64) [.t 4],
 ox 3 .mv [.t 5]])
 (.seq
 (.ops [2] [
 ox 6 .mv [.t 3],
 ox 7 (.shift .shr) [.t 6, .c (.int .u64 56)],
 ox 8 (.conv .u8) [.t 7],
 ox 9 .mv [.t 3],
 ox 10 (.shift .shr) [.t 9, .c (.int .u64 48)],
 ox 11 (.conv .u8) [.t 10],
 ox 12 .mv [.t 3],
 ox 13 (.shift .shr) [.t 12, .c (.int .u64 40)],
 ox 14 (.conv .u8) [.t 13],
 ox 15 .mv [.t 3],
 ox 16 (.shift .shr) [.t 15, .c (.int .u64 32)],
 ox 17 (.conv .u8) [.t 16],
 ox 18 .mv [.t 3],
 ox 19 (.shift .shr) [.t 18, .c (.int .u64 24)],
 ox 20 (.conv .u8) [.t 19],
 ox 21 .mv [.t 3],
 ox 22 (.shift .shr) [.t 21, .c (.int .u64 16)],
 ox 23 (.conv .u8) [.t 22],
 ox 24 .mv [.t 3],
 ox 25 (.shift .shr) [.t 24, .c (.int .u64 8)],
 ox 26 (.conv .u8) [.t 25],
 ox 27 .mv [.t 3],
 ox 28 (.conv .u8) [.t 27],
 ox 29 (.mkSl 8 [.int .u8 0, .int .u8 0, .int .u8 0, .int .u8 0, .int .u8 0, .int .u8 0, .int .u8 0, .int .u8 0] [(0, 1), (1, 1), (2, 1), (3, 1), (4, 1), (5, 1), (6, 1), (7, 1)]) [.t 8, .t 11, .t 14, .t 17, .t 20, .t 23, .t 26, .t 28],
 ox 2 .mv [.t 29]])
 .ret)))
def r84 : List ARes := [.tmp 2]
theorem ok84 : FnOk Tryz.prog 84 c84 r84 :=
 ⟨Tryz.f84, _, Tryz.func84, by kernel_rfl, rfl, by kernel_rfl, by kernel_rfl⟩
def c85 : ACode :=
 (.seq
 (.ops [1] [
 ox 1 .box [.t 0],
 ox 2 .mv [.c (.bool false)]])
 (.seq
 (.seq
 (.ops [1, 11] [
 ox 4 (.fieldAddr 0) [.t 1],
 ox 5 (.load false 1) [.t 4],
 ox 6 (.cmp .lss) [.t 5, .c (.int .i64 16)],
 ox 7 .mv [.t 6],
 og 8 (.fieldAddr 0) [.t 1] 7 false,
 og 9 (.load false 1) [.t 8] 7 false,
 og 10 (.cmp .gtr) [.t 9, .c (.int .i64 32)] 7 false,
 ox 11 .pick [.t 7, .c (.bool true), .t 10]])
 (.cond (.t 11)
 (.seq
 (.ops [2] [
 ox 2 .mv [.c (.bool false)]])
 .ret)
 .skip))
 (.seq
 (.seq
 (.ops [1, 19] [
 ox 12 (.fieldAddr 1) [.t 1],
 ox 13 (.load false 1) [.t 12],
 ox 14 (.cmp .lss) [.t 13, .c (.int .i64 32)],
 ox 15 .mv [.t 14],
 og 16 (.fieldAddr 1) [.t 1] 15 false,
 og 17 (.load false 1) [.t 16] 15 false,
 og 18 (.cmp .gtr) [.t 17, .c (.int .i64 64)] 15 false,
 ox 19 .pick [.t 15, .c (.bool true), .t 18]])
 (.cond (.t 19)
 (.seq
 (.ops [2] [
 ox 2 .mv [.c (.bool false)]])
 .ret)
 .skip))
 (.seq
 (.seq
 (.ops [1, 27] [
 ox 20 (.fieldAddr 2) [.t 1],
 ox 21 (.load false 1) [.t 20],
 ox 22 (.cmp .lss) [.t 21, .c (.int .i64 1)],
 ox 23 .mv [.t 22],
 og 24 (.fieldAddr 2) [.t 1] 23 false,
 og 25 (.load false 1) [.t 24] 23 false,
 og 26 (.cmp .gtr) [.t 25, .c (.int .i64 64)] 23 false,
 ox 27 .pick [.t 23, .c (.bool true), .t 26]])
 (.cond (.t 27)
 (.seq
 (.ops [2] [
 ox 2 .mv [.c (.bool false)]])
 .ret)
 .skip))
 (.seq
 (.drawn [1, 3] [
 od 28 (.fieldAddr 0) [.t 1] 0 1,
 od 29 (.load false 1) [.t 28] 0 1,
 ox 30 (.load true 3) [.t 1],
 ox 31 (.fieldAddr 2) [.t 1],
 ox 32 (.load false 1) [.t 31],
 od 33 (.call 103) [.t 30, .t 32] 0 1,
 od 34 (.arith .sub) [.t 29, .t 33] 1 1,
 od 35 (.arith .sub) [.t 34, .c (.int .i64 14)] 1 1,
 od 3 .mv [.t 35] 1 1])
 (.seq
 (.ops [2] [
 ox 36 .mv [.t 3],
 ox 37 (.fieldAddr 1) [.t 1],
 ox 38 (.load false 1) [.t 37],
 ox 39 (.arith .sub) [.t 38, .c (.int .i64 1)],
 ox 40 (.arith .quo) [.t 39, .c (.int .i64 5)],
 ox 41 (.arith .add) [.t 40, .c (.int .i64 1)],
 ox 42 (.arith .mul) [.t 36, .t 41],
 ox 43 (.fieldAddr 2) [.t 1],
 ox 44 (.load false 1) [.t 43],
 ox 45 (.arith .add) [.t 44, .c (.int .i64 9)],
 ox 46 (.cmp .gtr) [.t 42, .t 45],
 ox 2 .mv [.t 46]])
 .ret))))))
def r85 : List ARes := [.tmp 2]
theorem ok85 : FnOk Tryz.prog 85 c85 r85 :=
 ⟨Tryz.f85, _, Tryz.func85, by kernel_rfl, rfl, by kernel_rfl, by kernel_rfl⟩
def c86 : ACode :=
 (.seq
 (.ops [0, 1, 2, 3, 4] [
 ox 10 .mv [.c .nils]])
 (.seq
 (.seq
 (.ops [0, 1, 2, 3, 4, 16] [
 ox 13 .mv [.t 1],
 ox 14 .mv [.t 2],
 ox 15 (.call 104) [.t 13, .t 14],
 ox 16 .not [.t 15]])
 (.cond (.t 16)
 (.seq
 (.ops [10] [
 ox 10 .mv [.c .nils]])
 .ret)
 .skip))
 (.seq
 (.ops [0, 1, 2, 3, 11] [
 ox 17 .mv [.t 0],
 ox 18 .nilCheck [.t 17],
 ox 19 (.fieldAddr 0) [.t 18],
 ox 20 (.load false 1) [.t 19],
 ox 21 .mv [.t 1],
 ox 22 .mv [.t 2],
 ox 23 .mv [.t 4],
 ox 24 (.call 105) [.t 20, .t 21, .t 22, .t 23],
 ox 11 .mv [.t 24]])
 (.seq
 (.ops [11, 12] [
 ox 25 .mv [.t 0],
 ox 26 .mv [.t 1],
 ox 27 .mv [.t 2],
 ox 28 .mv [.t 3],
 ox 29 .mv [.t 11],
 ox 30 (.call 106) [.t 25, .t 26, .t 27, .t 28, .t 29],
 ox 12 (.alloc (List.replicate 32 (.int .u8 0))) [],
 oy (.store 32) [.t 12, .t 30]])
 (.seq
 (.drawn [10] [
 ox 31 (.mkSl 0 [] []) [],
 ox 32 .mv [.t 11],
 od 33 (.append 1 1) [.t 31, .t 32] 0 1,
 od 34 (.sliceArr 32 1 false false false) [.t 12] 0 1,
 od 35 (.append 1 1) [.t 33, .t 34] 1 2,
 od 10 .mv [.t 35] 2 2])
 .ret)))))
def r86 : List ARes := [.tmp 10]
theorem ok86 : FnOk Tryz.prog 86 c86 r86 :=
 ⟨Tryz.f86, _, Tryz.func86, by kernel_rfl, rfl, by kernel_rfl, by kernel_rfl⟩
def c88 : ACode :=
 (.seq
 (.ops [0, 2] [
 ox 2 (.alloc (List.replicate 32 (.int .u8 0))) []])
 (.seq
 (.ops [2, 3] [
 ox 8 .mv [.t 0],
 ox 9 (.call 109) [.t 8],
 ox 3 .mv [.t 9]])
 (.seq
 (.ops [2, 3, 4] [
 ox 10 (.call 110) [],
 ox 4 .mv [.t 10]])
 (.seq
 (.seq
 (.ops [2, 3, 4, 5] [
 ox 5 .mv [.c (.int .i64 0)]])
 (.block 0
 (.loop [2, 3, 4, 5]
 (.seq
 (.seq
 (.ops [2, 3, 4, 5, 14] [
 ox 11 .mv [.t 5],
 ox 12 .mv [.t 3],
 ox 13 .len [.t 12],
 ox 14 (.cmp .lss) [.t 11, .t 13]])
 (.cond (.t 14)
 .skip
 (.exit 0)))
 (.seq
 (.block 1
 (.ops [2, 3, 4, 5] [
 ox 17 .mv [.t 4],
 ox 18 .mv [.t 3],
 ox 19 .mv [.t 5],
 ox 20 .mv [.t 5],
 ox 21 (.arith .add) [.t 20, .c (.int .i64 64)],
 ox 22 (.slice 1 true true false) [.t 18, .t 19, .t 21],
 ox 23 (.call 111) [.t 17, .t 22],
 ox 4 .mv [.t 23]]))
 (.ops [2, 3, 4, 5] [
 ox 15 .mv [.t 5],
 ox 16 (.arith .add) [.t 15, .c (.int .i64 64)],
 ox 5 .mv [.t 16]]))))))
 (.seq
 (.ops [2, 4, 6] [
 ox 6 (.alloc (List.replicate 32 (.int .u8 0))) []])
 (.seq
 (.seq
 (.ops [2, 4, 6, 7] [
 ox 7 .mv [.c (.int .i64 0)]])
 (.block 2
 (.loop [2, 4, 6, 7]
 (.seq
 (.seq
 (.ops [2, 4, 6, 7, 25] [
 ox 24 .mv [.t 7],
 ox 25 (.cmp .lss) [.t 24, .c (.int .i64 32)]])
 (.cond (.t 25)
 .skip
 (.exit 2)))
 (.seq
 (.block 3
 (.ops [2, 4, 6, 7] [
 ox 28 .mv [.t 7],
 ox 29 .mv [.t 4],
 ox 30 .mv [.t 7],
 ox 31 (.arith .quo) [.t 30, .c (.int .i64 4)],
 ox 32 (.idxAddr 1) [.t 29, .t 31],
 ox 33 (.load false 1) [.t 32],
 ox 34 .mv [.t 7],
 ox 35 (.arith .rem) [.t 34, .c (.int .i64 4)],
 ox 36 (.arith .mul) [.c (.int .i64 8), .t 35],
 ox 37 (.arith .sub) [.c (.int .i64 24), .t 36],
 ox 38 (.conv .u64) [.t 37],
 ox 39 (.shift .shr) [.t 33, .t 38],
 ox 40 (.conv .u8) [.t 39],
 ox 41 (.idxAddrArr 32 1) [.t 6, .t 28],
 oy (.store 1) [.t 41, .t 40]]))
 (.ops [2, 4, 6, 7] [
 ox 26 .mv [.t 7],
 ox 27 (.arith .add) [.t 26, .c (.int .i64 1)],
 ox 7 .mv [.t 27]]))))))
 (.seq
 (.ops [2] [
 ox 42 (.load true 32) [.t 6],
 oy (.store 32) [.t 2, .t 42]])
 .ret)))))))
def r88 : List ARes := [.cell 2 true 32]
theorem ok88 : FnOk Tryz.prog 88 c88 r88 :=
 ⟨Tryz.f88, _, Tryz.func88, by kernel_rfl, rfl, by kernel_rfl, by kernel_rfl⟩
def c90 : ACode :=
 (.seq
 (.ops [0, 1, 2] [
 ox 6 .mv [.c (.int .i64 0)]])
 (.seq
 (.seq
 (.ops [0, 1, 2, 21] [
 ox 9 .mv [.t 0],
 ox 10 .nilCheck [.t 9],
 ox 11 (.fieldAddr 1) [.t 10],
 ox 12 (.load false 1) [.t 11],
 ox 13 .mv [.t 12],
 og 14 .mv [.t 0] 13 false,
 og 15 .nilCheck [.t 14] 13 false,
 og 16 (.fieldAddr 0) [.t 15] 13 false,
 og 17 (.load false 1) [.t 16] 13 false,
 og 18 .len [.t 17] 13 false,
 og 19 .mv [.t 1] 13 false,
 og 20 (.cmp .lss) [.t 18, .t 19] 13 false,
 ox 21 .pick [.t 13, .c (.bool true), .t 20]])
 (.cond (.t 21)
 (.seq
 (.ops [] [
 ox 22 .mv [.t 0],
 ox 23 .nilCheck [.t 22],
 ox 24 (.fieldAddr 1) [.t 23],
 oy (.store 1) [.t 24, .c (.bool true)]])
 (.seq
 (.ops [7] [
 ox 7 .mv [.c (.int .i64 0)]])
 (.seq
 (.ops [6] [
 ox 25 .mv [.t 7],
 ox 6 .mv [.t 25]])
 .ret)))
 .skip))
 (.seq
 (.ops [0, 1, 2, 8] [
 ox 26 .mv [.t 0],
 ox 27 .nilCheck [.t 26],
 ox 28 (.fieldAddr 0) [.t 27],
 ox 29 (.load false 1) [.t 28],
 ox 30 .mv [.t 1],
 ox 31 (.slice 1 false true false) [.t 29, .t 30],
 ox 8 .mv [.t 31]])
 (.seq
 (.ops [2, 8] [
 ox 32 .mv [.t 0],
 ox 33 .mv [.t 0],
 ox 34 .nilCheck [.t 33],
 ox 35 (.fieldAddr 0) [.t 34],
 ox 36 (.load false 1) [.t 35],
 ox 37 .mv [.t 1],
 ox 38 (.slice 1 true false false) [.t 36, .t 37],
 ox 39 .nilCheck [.t 32],
 ox 40 (.fieldAddr 0) [.t 39],
 oy (.store 1) [.t 40, .t 38]])
 (.seq
 (.ops [6] [
 ox 41 .mv [.t 2],
 ox 42 .mv [.t 8],
 ox 43 .callv [.t 41, .t 42],
 ox 6 .mv [.t 43]])
 .ret)))))
def r90 : List ARes := [.tmp 6]
theorem ok90 : FnOk Tryz.prog 90 c90 r90 :=
 ⟨Tryz.f90, _, Tryz.func90, by kernel_rfl, rfl, by kernel_rfl, by kernel_rfl⟩
def c91 : ACode :=
 (.seq
 (.ops [0] [
 ox 2 .mv [.c (.int .i64 0)]])
 (.seq
 (.ops [0, 3] [
 ox 3 .mv [.c (.int .u64 0)]])
 (.seq
 (.seq
 (.ops [3, 6, 7, 8] [
 ox 6 .mv [.t 0],
 ox 7 .len [.t 6],
 ox 8 .mv [.c (.int .i64 0)]])
 (.block 0
 (.loop [3, 6, 7, 8]
 (.seq
 (.ops [3, 6, 7, 8, 9] [
 ox 9 (.cmp .lss) [.t 8, .t 7]])
 (.seq
 (.cond (.t 9)
 .skip
 (.exit 0))
 (.seq
 (.block 1
 (.seq
 (.ops [3, 5, 6, 7, 8] [
 ox 10 (.idxAddr 1) [.t 6, .t 8],
 ox 11 (.load false 1) [.t 10],
 ox 5 .mv [.t 11]])
 (.ops [3, 6, 7, 8] [
 ox 12 .mv [.t 3],
 ox 13 (.shift .shl) [.t 12, .c (.int .u64 8)],
 ox 14 .mv [.t 5],
 ox 15 (.conv .u64) [.t 14],
 ox 16 (.arith .or) [.t 13, .t 15],
 ox 3 .mv [.t 16]])))
 (.ops [3, 6, 7, 8] [
 ox 17 (.arith .add) [.t 8, .c (.int .i64 1)],
 ox 8 .mv [.t 17]])))))))
 (.seq
 (.ops [2] [
 ox 18 .mv [.t 3],
 ox 19 (.conv .i64) [.t 18],
 ox 2 .mv [.t 19]])
 .ret))))
def r91 : List ARes := [.tmp 2]
theorem ok91 : FnOk Tryz.prog 91 c91 r91 :=
 ⟨Tryz.f91, _, Tryz.func91, by kernel_rfl, rfl, by kernel_rfl, by kernel_rfl⟩
def c92 : ACode :=
 (.seq
 (.ops [0, 1] [
 ox 4 .mv [.c .nils],
 ox 5 .mv [.c (.bool false)]])
 (.seq
 (.seq
 (.ops [0, 1, 9] [
 ox 6 .mv [.t 0],
 ox 7 (.call 95) [.t 6],
 ox 8 .mv [.t 1],
 ox 9 (.cmp .lss) [.t 7, .t 8]])
 (.cond (.t 9)
 (.seq
 (.ops [] [
 ox 10 .mv [.t 0],
 ox 11 .nilCheck [.t 10],
 ox 12 (.fieldAddr 2) [.t 11],
 oy (.store 1) [.t 12, .c (.bool true)]])
 (.seq
 (.ops [4, 5] [
 ox 4 .mv [.c .nils],
 ox 5 .mv [.c (.bool false)]])
 .ret))
 .skip))
 (.seq
 (.ops [0, 1] [
 ox 13 .mv [.t 0],
 ox 14 .mv [.t 0],
 ox 15 .nilCheck [.t 14],
 ox 16 (.fieldAddr 1) [.t 15],
 ox 17 (.load false 1) [.t 16],
 ox 18 .mv [.t 1],
 ox 19 (.arith .add) [.t 17, .t 18],
 ox 20 .nilCheck [.t 13],
 ox 21 (.fieldAddr 1) [.t 20],
 oy (.store 1) [.t 21, .t 19]])
 (.seq
 (.drawn [4, 5] [
 ox 22 .mv [.t 0],
 ox 23 .nilCheck [.t 22],
 ox 24 (.fieldAddr 0) [.t 23],
 ox 25 (.load false 1) [.t 24],
 ox 26 .mv [.t 0],
 ox 27 .nilCheck [.t 26],
 ox 28 (.fieldAddr 1) [.t 27],
 ox 29 (.load false 1) [.t 28],
 ox 30 .mv [.t 1],
 ox 31 (.arith .sub) [.t 29, .t 30],
 ox 32 .mv [.t 0],
 ox 33 .nilCheck [.t 32],
 ox 34 (.fieldAddr 1) [.t 33],
 ox 35 (.load false 1) [.t 34],
 ox 36 (.slice 1 true true false) [.t 25, .t 31, .t 35],
 ox 4 .mv [.t 36],
 ox 5 .mv [.c (.bool true)]])
 .ret))))
def r92 : List ARes := [.tmp 4, .tmp 5]
theorem ok92 : FnOk Tryz.prog 92 c92 r92 :=
 ⟨Tryz.f92, _, Tryz.func92, by kernel_rfl, rfl, by kernel_rfl, by kernel_rfl⟩
def c93 : ACode :=
 (.seq
 (.ops [0, 1, 2, 3, 4] [
 ox 10 .mv [.c .nils],
 ox 11 .mv [.c (.bool false)]])
 (.seq
 (.ops [0, 1, 2, 3, 4, 12] [
 ox 14 .mv [.t 4],
 ox 15 .len [.t 14],
 ox 16 (.arith .sub) [.t 15, .c (.int .i64 32)],
 ox 12 .mv [.t 16]])
 (.seq
 (.seq
 (.ops [0, 1, 2, 3, 4, 12, 24] [
 ox 17 .mv [.t 1],
 ox 18 .mv [.t 2],
 ox 19 (.call 104) [.t 17, .t 18],
 ox 20 .not [.t 19],
 ox 21 .mv [.t 20],
 og 22 .mv [.t 12] 21 false,
 og 23 (.cmp .lss) [.t 22, .c (.int .i64 0)] 21 false,
 ox 24 .pick [.t 21, .c (.bool true), .t 23]])
 (.cond (.t 24)
 (.seq
 (.ops [10, 11] [
 ox 10 .mv [.c .nils],
 ox 11 .mv [.c (.bool false)]])
 .ret)
 .skip))
 (.seq
 (.ops [0, 1, 2, 4, 12, 13] [
 ox 25 .mv [.t 0],
 ox 26 .mv [.t 1],
 ox 27 .mv [.t 2],
 ox 28 .mv [.t 3],
 ox 29 .mv [.t 4],
 ox 30 .mv [.t 12],
 ox 31 (.slice 1 false true false) [.t 29, .t 30],
 ox 32 (.call 106) [.t 25, .t 26, .t 27, .t 28, .t 31],
 ox 13 (.alloc (List.replicate 32 (.int .u8 0))) [],
 oy (.store 32) [.t 13, .t 32]])
 (.seq
 (.seq
 (.drawn [0, 1, 2, 4, 12, 38] [
 ox 33 (.sliceArr 32 1 false false false) [.t 13],
 ox 34 .mv [.t 4],
 ox 35 .mv [.t 12],
 ox 36 (.slice 1 true false false) [.t 34, .t 35],
 od 37 (.call 18) [.t 33, .t 36] 0 1,
 od 38 .not [.t 37] 1 1])
 (.cond (.t 38)
 (.seq
 (.ops [10, 11] [
 ox 10 .mv [.c .nils],
 ox 11 .mv [.c (.bool false)]])
 .ret)
 .skip))
 (.seq
 (.drawn [10, 11] [
 ox 39 .mv [.t 0],
 ox 40 .nilCheck [.t 39],
 ox 41 (.fieldAddr 0) [.t 40],
 ox 42 (.load false 1) [.t 41],
 ox 43 .mv [.t 1],
 ox 44 .mv [.t 2],
 ox 45 .mv [.t 4],
 ox 46 .mv [.t 12],
 ox 47 (.slice 1 false true false) [.t 45, .t 46],
 od 48 (.call 105) [.t 42, .t 43, .t 44, .t 47] 0 1,
 od 10 .mv [.t 48] 1 1,
 od 11 .mv [.c (.bool true)] 1 1])
 .ret))))))
def r93 : List ARes := [.tmp 10, .tmp 11]
theorem ok93 : FnOk Tryz.prog 93 c93 r93 :=
 ⟨Tryz.f93, _, Tryz.func93, by kernel_rfl, rfl, by kernel_rfl, by kernel_rfl⟩
def c95 : ACode :=
 (.seq
 (.ops [0] [
 ox 2 .mv [.c (.int .i64 0)]])
 (.seq
 (.seq
 (.ops [0, 6] [
 ox 3 .mv [.t 0],
 ox 4 .nilCheck [.t 3],
 ox 5 (.fieldAddr 2) [.t 4],
 ox 6 (.load false 1) [.t 5]])
 (.cond (.t 6)
 (.seq
 (.ops [2] [
 ox 2 .mv [.c (.int .i64 0)]])
 .ret)
 .skip))
 (.seq
 (.drawn [2] [
 ox 7 .mv [.t 0],
 ox 8 .nilCheck [.t 7],
 ox 9 (.fieldAddr 0) [.t 8],
 ox 10 (.load false 1) [.t 9],
 ox 11 .len [.t 10],
 ox 12 .mv [.t 0],
 ox 13 .nilCheck [.t 12],
 ox 14 (.fieldAddr 1) [.t 13],
 ox 15 (.load false 1) [.t 14],
 ox 16 (.arith .sub) [.t 11, .t 15],
 ox 2 .mv [.t 16]])
 .ret)))
def r95 : List ARes := [.tmp 2]
theorem ok95 : FnOk Tryz.prog 95 c95 r95 :=
 ⟨Tryz.f95, _, Tryz.func95, by kernel_rfl, rfl, by kernel_rfl, by kernel_rfl⟩
def c96 : ACode :=
 (.seq
 (.ops [0, 2] [
 ox 2 (.alloc (List.replicate 32 (.int .u8 0))) []])
 (.seq
 (.ops [0, 2, 3] [
 ox 4 (.call 76) [],
 ox 3 .mv [.t 4]])
 (.seq
 (.ops [2, 3] [
 ox 5 .mv [.t 3],
 ox 6 .mv [.t 0],
 ox 7 (.call 77) [.t 5, .t 6]])
 (.seq
 (.ops [2] [
 ox 8 .mv [.t 3],
 ox 9 (.call 78) [.t 8],
 oy (.store 32) [.t 2, .t 9]])
 .ret))))
def r96 : List ARes := [.cell 2 true 32]
theorem ok96 : FnOk Tryz.prog 96 c96 r96 :=
 ⟨Tryz.f96, _, Tryz.func96, by kernel_rfl, rfl, by kernel_rfl, by kernel_rfl⟩
def c97 : ACode :=
 (.seq
 (.ops [1, 2, 4] [
 ox 2 .box [.t 0],
 ox 4 (.alloc [.int .u32 0, .int .u32 0, .int .u32 0, .int .u32 0, .int .u32 0, .int .u32 0, .int .u32 0, .int .u32 0]) []])
 (.seq
 (.ops [1, 2, 4, 5] [
 ox 5 (.alloc (List.replicate 64 (.int .u32 0))) []])
 (.seq
 (.seq
 (.ops [1, 2, 4, 5, 21] [
 ox 21 .mv [.c (.int .i64 0)]])
 (.block 0
 (.loop [1, 2, 4, 5, 21]
 (.seq
 (.ops [1, 2, 4, 5, 21, 22] [
 ox 22 (.cmp .lss) [.t 21, .c (.int .i64 16)]])
 (.seq
 (.cond (.t 22)
 .skip
 (.exit 0))
 (.seq
 (.block 1
 (.seq
 (.ops [1, 2, 4, 5, 6, 21] [
 ox 23 .mv [.t 21],
 ox 6 .mv [.t 23]])
 (.drawn [1, 2, 4, 5, 21] [
 ox 24 .mv [.t 6],
 ox 25 .mv [.t 1],
 ox 26 .mv [.t 6],
 ox 27 (.arith .mul) [.c (.int .i64 4), .t 26],
 ox 28 (.idxAddr 1) [.t 25, .t 27],
 ox 29 (.load false 1) [.t 28],
 ox 30 (.conv .u32) [.t 29],
 ox 31 (.shift .shl) [.t 30, .c (.int .u64 24)],
 ox 32 .mv [.t 1],
 ox 33 .mv [.t 6],
 ox 34 (.arith .mul) [.c (.int .i64 4), .t 33],
 ox 35 (.arith .add) [.t 34, .c (.int .i64 1)],
 ox 36 (.idxAddr 1) [.t 32, .t 35],
 ox 37 (.load false 1) [.t 36],
 ox 38 (.conv .u32) [.t 37],
 ox 39 (.shift .shl) [.t 38, .c (.int .u64 16)],
 ox 40 (.arith .or) [.t 31, .t 39],
 ox 41 .mv [.t 1],
 ox 42 .mv [.t 6],
 ox 43 (.arith .mul) [.c (.int .i64 4), .t 42],
 ox 44 (.arith .add) [.t 43, .c (.int .i64 2)],
 ox 45 (.idxAddr 1) [.t 41, .t 44],
 ox 46 (.load false 1) [.t 45],
 ox 47 (.conv .u32) [.t 46],
 ox 48 (.shift .shl) [.t 47, .c (.int .u64 8)],
 ox 49 (.arith .or) [.t 40, .t 48],
 ox 50 .mv [.t 1],
 ox 51 .mv [.t 6],
 ox 52 (.arith .mul) [.c (.int .i64 4), .t 51],
 ox 53 (.arith .add) [.t 52, .c (.int .i64 3)],
 ox 54 (.idxAddr 1) [.t 50, .t 53],
 ox 55 (.load false 1) [.t 54],
 ox 56 (.conv .u32) [.t 55],
 ox 57 (.arith .or) [.t 49, .t 56],
 ox 58 (.idxAddrArr 64 1) [.t 5, .t 24],
 oe (.store 1) [.t 58, .t 57] 0 1])))
 (.ops [1, 2, 4, 5, 21] [
 ox 59 (.arith .add) [.t 21, .c (.int .i64 1)],
 ox 21 .mv [.t 59]])))))))
 (.seq
 (.seq
 (.ops [2, 4, 5, 7] [
 ox 7 .mv [.c (.int .i64 16)]])
 (.block 2
 (.loop [2, 4, 5, 7]
 (.seq
 (.seq
 (.ops [2, 4, 5, 7, 61] [
 ox 60 .mv [.t 7],
 ox 61 (.cmp .lss) [.t 60, .c (.int .i64 64)]])
 (.cond (.t 61)
 .skip
 (.exit 2)))
 (.seq
 (.block 3
 (.seq
 (.drawn [2, 4, 5, 7, 8, 9] [
 ox 64 .mv [.t 7],
 ox 65 (.arith .sub) [.t 64, .c (.int .i64 2)],
 ox 66 (.idxAddrArr 64 1) [.t 5, .t 65],
 ox 67 (.load false 1) [.t 66],
 ox 68 .mv [.t 7],
 ox 69 (.arith .sub) [.t 68, .c (.int .i64 15)],
 ox 70 (.idxAddrArr 64 1) [.t 5, .t 69],
 ox 71 (.load false 1) [.t 70],
 ox 8 .mv [.t 67],
 ox 9 .mv [.t 71]])
 (.drawn [2, 4, 5, 7] [
 od 72 .mv [.t 7] 0 4,
 ox 73 .mv [.t 8],
 od 74 (.call 112) [.t 73, .c (.int .u64 17)] 0 1,
 od 75 .mv [.t 8] 0 1,
 od 76 (.call 112) [.t 75, .c (.int .u64 19)] 1 2,
 od 77 (.arith .xor) [.t 74, .t 76] 2 4,
 od 78 .mv [.t 8] 0 4,
 od 79 (.shift .shr) [.t 78, .c (.int .u64 10)] 0 4,
 od 80 (.arith .xor) [.t 77, .t 79] 2 4,
 od 81 .mv [.t 7] 0 4,
 od 82 (.arith .sub) [.t 81, .c (.int .i64 7)] 0 4,
 od 83 (.idxAddrArr 64 1) [.t 5, .t 82] 0 4,
 od 84 (.load false 1) [.t 83] 0 4,
 od 85 (.arith .add) [.t 80, .t 84] 2 4,
 od 86 .mv [.t 9] 0 2,
 od 87 (.call 112) [.t 86, .c (.int .u64 7)] 2 3,
 od 88 .mv [.t 9] 0 3,
 od 89 (.call 112) [.t 88, .c (.int .u64 18)] 3 4,
 od 90 (.arith .xor) [.t 87, .t 89] 4 4,
 od 91 .mv [.t 9] 0 4,
 od 92 (.shift .shr) [.t 91, .c (.int .u64 3)] 0 4,
 od 93 (.arith .xor) [.t 90, .t 92] 4 4,
 od 94 (.arith .add) [.t 85, .t 93] 4 4,
 od 95 .mv [.t 7] 0 4,
 od 96 (.arith .sub) [.t 95, .c (.int .i64 16)] 0 4,
 od 97 (.idxAddrArr 64 1) [.t 5, .t 96] 0 4,
 od 98 (.load false 1) [.t 97] 0 4,
 od 99 (.arith .add) [.t 94, .t 98] 4 4,
 od 100 (.idxAddrArr 64 1) [.t 5, .t 72] 4 4,
 oe (.store 1) [.t 100, .t 99] 4 5])))
 (.ops [2, 4, 5, 7] [
 ox 62 .mv [.t 7],
 ox 63 (.arith .add) [.t 62, .c (.int .i64 1)],
 ox 7 .mv [.t 63]]))))))
 (.seq
 (.drawn [2, 4, 5, 10, 11, 12, 13, 14, 15, 16, 17] [
 ox 101 (.idxAddrArr 8 1) [.t 2, .c (.int .i64 0)],
 ox 102 (.load false 1) [.t 101],
 ox 103 (.idxAddrArr 8 1) [.t 2, .c (.int .i64 1)],
 ox 104 (.load false 1) [.t 103],
 ox 105 (.idxAddrArr 8 1) [.t 2, .c (.int .i64 2)],
 ox 106 (.load false 1) [.t 105],
 ox 107 (.idxAddrArr 8 1) [.t 2, .c (.int .i64 3)],
 ox 108 (.load false 1) [.t 107],
 ox 109 (.idxAddrArr 8 1) [.t 2, .c (.int .i64 4)],
 ox 110 (.load false 1) [.t 109],
 ox 111 (.idxAddrArr 8 1) [.t 2, .c (.int .i64 5)],
 ox 112 (.load false 1) [.t 111],
 ox 113 (.idxAddrArr 8 1) [.t 2, .c (.int .i64 6)],
 ox 114 (.load false 1) [.t 113],
 ox 115 (.idxAddrArr 8 1) [.t 2, .c (.int .i64 7)],
 ox 116 (.load false 1) [.t 115],
 ox 10 .mv [.t 102],
 ox 11 .mv [.t 104],
 ox 12 .mv [.t 106],
 ox 13 .mv [.t 108],
 ox 14 .mv [.t 110],
 ox 15 .mv [.t 112],
 ox 16 .mv [.t 114],
 ox 17 .mv [.t 116]])
 (.seq
 (.seq
 (.ops [2, 4, 5, 10, 11, 12, 13, 14, 15, 16, 17, 117] [
 ox 117 .mv [.c (.int .i64 0)]])
 (.block 4
 (.loop [2, 4, 5, 10, 11, 12, 13, 14, 15, 16, 17, 117]
 (.seq
 (.ops [2, 4, 5, 10, 11, 12, 13, 14, 15, 16, 17, 117, 118] [
 ox 118 (.cmp .lss) [.t 117, .c (.int .i64 64)]])
 (.seq
 (.cond (.t 118)
 .skip
 (.exit 4))
 (.seq
 (.block 5
 (.seq
 (.ops [2, 4, 5, 10, 11, 12, 13, 14, 15, 16, 17, 18, 117] [
 ox 119 .mv [.t 117],
 ox 18 .mv [.t 119]])
 (.seq
 (.drawn [2, 4, 5, 10, 11, 12, 13, 14, 15, 16, 19, 117] [
 od 120 .mv [.t 17] 0 3,
 ox 121 .mv [.t 14],
 od 122 (.call 112) [.t 121, .c (.int .u64 6)] 0 1,
 od 123 .mv [.t 14] 0 1,
 od 124 (.call 112) [.t 123, .c (.int .u64 11)] 1 2,
 od 125 (.arith .xor) [.t 122, .t 124] 2 3,
 od 126 .mv [.t 14] 0 2,
 od 127 (.call 112) [.t 126, .c (.int .u64 25)] 2 3,
 od 128 (.arith .xor) [.t 125, .t 127] 3 3,
 od 129 (.arith .add) [.t 120, .t 128] 3 3,
 od 130 .mv [.t 14] 0 3,
 od 131 .mv [.t 15] 0 3,
 od 132 (.arith .and) [.t 130, .t 131] 0 3,
 od 133 .mv [.t 14] 0 3,
 od 134 .bnot [.t 133] 0 3,
 od 135 .mv [.t 16] 0 3,
 od 136 (.arith .and) [.t 134, .t 135] 0 3,
 od 137 (.arith .xor) [.t 132, .t 136] 0 3,
 od 138 (.arith .add) [.t 129, .t 137] 3 3,
 od 139 .mv [.t 18] 0 3,
 od 140 (.idxAddrArr 64 1) [.c (.ptr 0 0), .t 139] 0 3,
 od 141 (.load false 1) [.t 140] 0 3,
 od 142 (.arith .add) [.t 138, .t 141] 3 3,
 od 143 .mv [.t 18] 0 3,
 od 144 (.idxAddrArr 64 1) [.t 5, .t 143] 0 3,
 od 145 (.load false 1) [.t 144] 0 3,
 od 146 (.arith .add) [.t 142, .t 145] 3 3,
 od 19 .mv [.t 146] 3 3])
 (.seq
 (.ops [2, 4, 5, 10, 11, 12, 13, 14, 15, 16, 19, 20, 117] [
 ox 147 .mv [.t 10],
 ox 148 (.call 112) [.t 147, .c (.int .u64 2)],
 ox 149 .mv [.t 10],
 ox 150 (.call 112) [.t 149, .c (.int .u64 13)],
 ox 151 (.arith .xor) [.t 148, .t 150],
 ox 152 .mv [.t 10],
 ox 153 (.call 112) [.t 152, .c (.int .u64 22)],
 ox 154 (.arith .xor) [.t 151, .t 153],
 ox 155 .mv [.t 10],
 ox 156 .mv [.t 11],
 ox 157 (.arith .and) [.t 155, .t 156],
 ox 158 .mv [.t 10],
 ox 159 .mv [.t 12],
 ox 160 (.arith .and) [.t 158, .t 159],
 ox 161 (.arith .xor) [.t 157, .t 160],
 ox 162 .mv [.t 11],
 ox 163 .mv [.t 12],
 ox 164 (.arith .and) [.t 162, .t 163],
 ox 165 (.arith .xor) [.t 161, .t 164],
 ox 166 (.arith .add) [.t 154, .t 165],
 ox 20 .mv [.t 166]])
 (.ops [2, 4, 5, 10, 11, 12, 13, 14, 15, 16, 17, 117] [
 ox 167 .mv [.t 16],
 ox 168 .mv [.t 15],
 ox 169 .mv [.t 14],
 ox 170 .mv [.t 13],
 ox 171 .mv [.t 19],
 ox 172 (.arith .add) [.t 170, .t 171],
 ox 173 .mv [.t 12],
 ox 174 .mv [.t 11],
 ox 175 .mv [.t 10],
 ox 176 .mv [.t 19],
 ox 177 .mv [.t 20],
 ox 178 (.arith .add) [.t 176, .t 177],
 ox 17 .mv [.t 167],
 ox 16 .mv [.t 168],
 ox 15 .mv [.t 169],
 ox 14 .mv [.t 172],
 ox 13 .mv [.t 173],
 ox 12 .mv [.t 174],
 ox 11 .mv [.t 175],
 ox 10 .mv [.t 178]])))))
 (.ops [2, 4, 5, 10, 11, 12, 13, 14, 15, 16, 17, 117] [
 ox 179 (.arith .add) [.t 117, .c (.int .i64 1)],
 ox 117 .mv [.t 179]])))))))
 (.seq
 (.ops [4] [
 ox 180 (.idxAddrArr 8 1) [.t 2, .c (.int .i64 0)],
 ox 181 (.load false 1) [.t 180],
 ox 182 .mv [.t 10],
 ox 183 (.arith .add) [.t 181, .t 182],
 ox 184 (.idxAddrArr 8 1) [.t 2, .c (.int .i64 1)],
 ox 185 (.load false 1) [.t 184],
 ox 186 .mv [.t 11],
 ox 187 (.arith .add) [.t 185, .t 186],
 ox 188 (.idxAddrArr 8 1) [.t 2, .c (.int .i64 2)],
 ox 189 (.load false 1) [.t 188],
 ox 190 .mv [.t 12],
 ox 191 (.arith .add) [.t 189, .t 190],
 ox 192 (.idxAddrArr 8 1) [.t 2, .c (.int .i64 3)],
 ox 193 (.load false 1) [.t 192],
 ox 194 .mv [.t 13],
 ox 195 (.arith .add) [.t 193, .t 194],
 ox 196 (.idxAddrArr 8 1) [.t 2, .c (.int .i64 4)],
 ox 197 (.load false 1) [.t 196],
 ox 198 .mv [.t 14],
 ox 199 (.arith .add) [.t 197, .t 198],
 ox 200 (.idxAddrArr 8 1) [.t 2, .c (.int .i64 5)],
 ox 201 (.load false 1) [.t 200],
 ox 202 .mv [.t 15],
 ox 203 (.arith .add) [.t 201, .t 202],
 ox 204 (.idxAddrArr 8 1) [.t 2, .c (.int .i64 6)],
 ox 205 (.load false 1) [.t 204],
 ox 206 .mv [.t 16],
 ox 207 (.arith .add) [.t 205, .t 206],
 ox 208 (.idxAddrArr 8 1) [.t 2, .c (.int .i64 7)],
 ox 209 (.load false 1) [.t 208],
 ox 210 .mv [.t 17],
 ox 211 (.arith .add) [.t 209, .t 210],
 ox 212 (.build [.int .u32 0, .int .u32 0, .int .u32 0, .int .u32 0, .int .u32 0, .int .u32 0, .int .u32 0, .int .u32 0] [(0, 1), (1, 1), (2, 1), (3, 1), (4, 1), (5, 1), (6, 1), (7, 1)]) [.t 183, .t 187, .t 191, .t 195, .t 199, .t 203, .t 207, .t 211],
 oy (.store 8) [.t 4, .t 212]])
 .ret)))))))
def r97 : List ARes := [.cell 4 true 8]
theorem ok97 : FnOk Tryz.prog 97 c97 r97 :=
 ⟨Tryz.f97, _, Tryz.func97, by kernel_rfl, rfl, by kernel_rfl, by kernel_rfl⟩
def c98 : ACode :=
 (.seq
 (.ops [0, 1] [
 ox 4 .mv [.c .nils]])
 (.seq
 (.ops [0, 1, 5] [
 ox 5 .mv [.c .nils]])
 (.seq
 (.seq
 (.ops [0, 1, 5, 6] [
 ox 6 .mv [.c (.int .i64 0)]])
 (.block 0
 (.loop [0, 1, 5, 6]
 (.seq
 (.seq
 (.ops [0, 1, 5, 6, 18] [
 ox 10 .mv [.t 6],
 ox 11 .mv [.t 0],
 ox 12 .len [.t 11],
 ox 13 (.cmp .lss) [.t 10, .t 12],
 ox 14 .mv [.t 13],
 og 15 .mv [.t 0] 14 true,
 og 16 .len [.t 15] 14 true,
 og 17 (.cmp .leq) [.t 16, .c (.int .i64 64)] 14 true,
 ox 18 .pick [.t 14, .t 17, .c (.bool false)]])
 (.cond (.t 18)
 .skip
 (.exit 0)))
 (.seq
 (.block 1
 (.ops [0, 1, 5, 6] [
 ox 21 .mv [.t 5],
 ox 22 .mv [.t 0],
 ox 23 .mv [.t 6],
 ox 24 (.idxAddr 1) [.t 22, .t 23],
 ox 25 (.load false 1) [.t 24],
 ox 26 (.mkSl 1 [.int .u8 0] [(0, 1)]) [.t 25],
 ox 27 (.append 1 1) [.t 21, .t 26],
 ox 5 .mv [.t 27]]))
 (.ops [0, 1, 5, 6] [
 ox 19 .mv [.t 6],
 ox 20 (.arith .add) [.t 19, .c (.int .i64 1)],
 ox 6 .mv [.t 20]]))))))
 (.seq
 (.seq
 (.ops [0, 1, 5, 30] [
 ox 28 .mv [.t 0],
 ox 29 .len [.t 28],
 ox 30 (.cmp .gtr) [.t 29, .c (.int .i64 64)]])
 (.cond (.t 30)
 (.seq
 (.ops [1, 5, 7] [
 ox 31 .mv [.t 0],
 ox 32 (.call 88) [.t 31],
 ox 7 (.alloc (List.replicate 32 (.int .u8 0))) [],
 oy (.store 32) [.t 7, .t 32]])
 (.seq
 (.ops [1, 5, 7, 8] [
 ox 8 .mv [.c (.int .i64 0)]])
 (.block 2
 (.loop [1, 5, 7, 8]
 (.seq
 (.seq
 (.ops [1, 5, 7, 8, 34] [
 ox 33 .mv [.t 8],
 ox 34 (.cmp .lss) [.t 33, .c (.int .i64 32)]])
 (.cond (.t 34)
 .skip
 (.exit 2)))
 (.seq
 (.block 3
 (.ops [1, 5, 7, 8] [
 ox 37 .mv [.t 5],
 ox 38 .mv [.t 8],
 ox 39 (.idxAddrArr 32 1) [.t 7, .t 38],
 ox 40 (.load false 1) [.t 39],
 ox 41 (.mkSl 1 [.int .u8 0] [(0, 1)]) [.t 40],
 ox 42 (.append 1 1) [.t 37, .t 41],
 ox 5 .mv [.t 42]]))
 (.ops [1, 5, 7, 8] [
 ox 35 .mv [.t 8],
 ox 36 (.arith .add) [.t 35, .c (.int .i64 1)],
 ox 8 .mv [.t 36]])))))))
 .skip))
 (.seq
 (.block 4
 (.loop [1, 5]
 (.seq
 (.seq
 (.ops [1, 5, 45] [
 ox 43 .mv [.t 5],
 ox 44 .len [.t 43],
 ox 45 (.cmp .lss) [.t 44, .c (.int .i64 64)]])
 (.cond (.t 45)
 .skip
 (.exit 4)))
 (.block 5
 (.ops [1, 5] [
 ox 46 .mv [.t 5],
 ox 47 (.mkSl 1 [.int .u8 0] [(0, 1)]) [.c (.int .u8 0)],
 ox 48 (.append 1 1) [.t 46, .t 47],
 ox 5 .mv [.t 48]])))))
 (.seq
 (.seq
 (.ops [1, 5, 9] [
 ox 9 .mv [.c (.int .i64 0)]])
 (.block 6
 (.loop [1, 5, 9]
 (.seq
 (.seq
 (.ops [1, 5, 9, 52] [
 ox 49 .mv [.t 9],
 ox 50 .mv [.t 5],
 ox 51 .len [.t 50],
 ox 52 (.cmp .lss) [.t 49, .t 51]])
 (.cond (.t 52)
 .skip
 (.exit 6)))
 (.seq
 (.block 7
 (.ops [1, 5, 9] [
 ox 55 .mv [.t 5],
 ox 56 .mv [.t 9],
 ox 57 .mv [.t 5],
 ox 58 .mv [.t 9],
 ox 59 (.idxAddr 1) [.t 57, .t 58],
 ox 60 (.load false 1) [.t 59],
 ox 61 .mv [.t 1],
 ox 62 (.arith .xor) [.t 60, .t 61],
 ox 63 (.idxAddr 1) [.t 55, .t 56],
 oy (.store 1) [.t 63, .t 62]]))
 (.ops [1, 5, 9] [
 ox 53 .mv [.t 9],
 ox 54 (.arith .add) [.t 53, .c (.int .i64 1)],
 ox 9 .mv [.t 54]]))))))
 (.seq
 (.ops [4] [
 ox 64 .mv [.t 5],
 ox 4 .mv [.t 64]])
 .ret)))))))
def r98 : List ARes := [.tmp 4]
theorem ok98 : FnOk Tryz.prog 98 c98 r98 :=
 ⟨Tryz.f98, _, Tryz.func98, by kernel_rfl, rfl, by kernel_rfl, by kernel_rfl⟩
def c99 : ACode :=
 (.seq
 (.ops [0] [
 ox 2 .mv [.c (.int .u8 0)]])
 (.seq
 (.ops [3] [
 ox 6 .mv [.t 0],
 ox 7 (.call 113) [.t 6],
 ox 3 .mv [.t 7]])
 (.seq
 (.ops [3, 4] [
 ox 8 .mv [.t 3],
 ox 9 (.arith .xor) [.t 8, .c (.int .u8 99)],
 ox 4 .mv [.t 9]])
 (.seq
 (.seq
 (.ops [3, 4, 5] [
 ox 5 .mv [.c (.int .u64 1)]])
 (.block 0
 (.loop [3, 4, 5]
 (.seq
 (.seq
 (.ops [3, 4, 5, 11] [
 ox 10 .mv [.t 5],
 ox 11 (.cmp .leq) [.t 10, .c (.int .u64 4)]])
 (.cond (.t 11)
 .skip
 (.exit 0)))
 (.seq
 (.block 1
 (.ops [3, 4, 5] [
 ox 14 .mv [.t 4],
 ox 15 .mv [.t 3],
 ox 16 .mv [.t 5],
 ox 17 (.shift .shl) [.t 15, .t 16],
 ox 18 .mv [.t 3],
 ox 19 .mv [.t 5],
 ox 20 (.arith .sub) [.c (.int .u64 8), .t 19],
 ox 21 (.shift .shr) [.t 18, .t 20],
 ox 22 (.arith .or) [.t 17, .t 21],
 ox 23 (.arith .xor) [.t 14, .t 22],
 ox 4 .mv [.t 23]]))
 (.ops [3, 4, 5] [
 ox 12 .mv [.t 5],
 ox 13 (.arith .add) [.t 12, .c (.int .u64 1)],
 ox 5 .mv [.t 13]]))))))
 (.seq
 (.ops [2] [
 ox 24 .mv [.t 4],
 ox 2 .mv [.t 24]])
 .ret)))))
def r99 : List ARes := [.tmp 2]
theorem ok99 : FnOk Tryz.prog 99 c99 r99 :=
 ⟨Tryz.f99, _, Tryz.func99, by kernel_rfl, rfl, by kernel_rfl, by kernel_rfl⟩
def c100 : ACode :=
 (.seq
 (.ops [0] [
 ox 2 .mv [.c (.bool false)]])
 (.seq
 (.seq
 (.ops [5, 6, 7] [
 ox 5 .mv [.t 0],
 ox 6 .len [.t 5],
 ox 7 .mv [.c (.int .i64 0)]])
 (.block 0
 (.loop [5, 6, 7]
 (.seq
 (.ops [5, 6, 7, 8] [
 ox 8 (.cmp .lss) [.t 7, .t 6]])
 (.seq
 (.cond (.t 8)
 .skip
 (.exit 0))
 (.seq
 (.block 1
 (.seq
 (.ops [4, 5, 6, 7] [
 ox 9 (.idxAddr 3) [.t 5, .t 7],
 ox 10 (.load true 3) [.t 9],
 ox 4 (.alloc [.int .i64 0, .int .i64 0, .int .i64 0]) [],
 oy (.store 3) [.t 4, .t 10]])
 (.seq
 (.ops [5, 6, 7, 22] [
 ox 11 (.fieldAddr 0) [.t 4],
 ox 12 (.load false 1) [.t 11],
 ox 13 (.fieldAddr 1) [.t 4],
 ox 14 (.load false 1) [.t 13],
 ox 15 (.cmp .lss) [.t 12, .t 14],
 ox 16 .mv [.t 15],
 og 17 (.fieldAddr 0) [.t 4] 16 false,
 og 18 (.load false 1) [.t 17] 16 false,
 og 19 (.fieldAddr 2) [.t 4] 16 false,
 og 20 (.load false 1) [.t 19] 16 false,
 og 21 (.cmp .gtr) [.t 18, .t 20] 16 false,
 ox 22 .pick [.t 16, .c (.bool true), .t 21]])
 (.cond (.t 22)
 (.seq
 (.ops [2] [
 ox 2 .mv [.c (.bool false)]])
 .ret)
 .skip))))
 (.ops [5, 6, 7] [
 ox 23 (.arith .add) [.t 7, .c (.int .i64 1)],
 ox 7 .mv [.t 23]])))))))
 (.seq
 (.ops [2] [
 ox 2 .mv [.c (.bool true)]])
 .ret)))
def r100 : List ARes := [.tmp 2]
theorem ok100 : FnOk Tryz.prog 100 c100 r100 :=
 ⟨Tryz.f100, _, Tryz.func100, by kernel_rfl, rfl, by kernel_rfl, by kernel_rfl⟩
def c101 : ACode :=
 (.seq
 (.ops [1, 2] [
 ox 2 .box [.t 0],
 ox 4 .mv [.c (.int .i64 0)]])
 (.seq
 (.ops [4] [
 ox 5 .mv [.t 1],
 ox 6 (.arith .mul) [.t 5, .c (.int .i64 4)],
 ox 7 (.fieldAddr 1) [.t 2],
 ox 8 (.load false 1) [.t 7],
 ox 9 (.arith .add) [.t 6, .t 8],
 ox 10 (.arith .sub) [.t 9, .c (.int .i64 2)],
 ox 11 (.fieldAddr 1) [.t 2],
 ox 12 (.load false 1) [.t 11],
 ox 13 (.arith .sub) [.t 12, .c (.int .i64 1)],
 ox 14 (.arith .quo) [.t 10, .t 13],
 ox 4 .mv [.t 14]])
 .ret))
def r101 : List ARes := [.tmp 4]
theorem ok101 : FnOk Tryz.prog 101 c101 r101 :=
 ⟨Tryz.f101, _, Tryz.func101, by kernel_rfl, rfl, by kernel_rfl, by kernel_rfl⟩
def c102 : ACode :=
 (.seq
 (.ops [1] [
 ox 1 .box [.t 0],
 ox 2 .mv [.c (.int .i64 0)]])
 (.seq
 (.ops [2] [
 ox 3 (.fieldAddr 1) [.t 1],
 ox 4 (.load false 1) [.t 3],
 ox 5 (.arith .sub) [.t 4, .c (.int .i64 1)],
 ox 6 (.arith .quo) [.t 5, .c (.int .i64 5)],
 ox 2 .mv [.t 6]])
 .ret))
def r102 : List ARes := [.tmp 2]
theorem ok102 : FnOk Tryz.prog 102 c102 r102 :=
 ⟨Tryz.f102, _, Tryz.func102, by kernel_rfl, rfl, by kernel_rfl, by kernel_rfl⟩
def c103 : ACode :=
 (.seq
 (.ops [1, 2] [
 ox 2 .box [.t 0],
 ox 4 .mv [.c (.int .i64 0)]])
 (.seq
 (.ops [1, 2, 5] [
 ox 5 .mv [.c (.int .i64 0)]])
 (.seq
 (.block 0
 (.loop [1, 2, 5]
 (.seq
 (.seq
 (.ops [1, 2, 5, 13] [
 ox 6 .mv [.t 5],
 ox 7 (.fieldAddr 1) [.t 2],
 ox 8 (.load false 1) [.t 7],
 ox 9 (.arith .sub) [.t 8, .c (.int .i64 1)],
 ox 10 (.arith .mul) [.t 6, .t 9],
 ox 11 .mv [.t 1],
 ox 12 (.arith .mul) [.c (.int .i64 4), .t 11],
 ox 13 (.cmp .lss) [.t 10, .t 12]])
 (.cond (.t 13)
 .skip
 (.exit 0)))
 (.block 1
 (.ops [1, 2, 5] [
 ox 14 .mv [.t 5],
 ox 15 (.arith .add) [.t 14, .c (.int .i64 1)],
 ox 5 .mv [.t 15]])))))
 (.seq
 (.ops [4] [
 ox 16 .mv [.t 5],
 ox 4 .mv [.t 16]])
 .ret))))
def r103 : List ARes := [.tmp 4]
theorem ok103 : FnOk Tryz.prog 103 c103 r103 :=
 ⟨Tryz.f103, _, Tryz.func103, by kernel_rfl, rfl, by kernel_rfl, by kernel_rfl⟩
def c104 : ACode :=
 (.seq
 (.ops [0, 1] [
 ox 4 .mv [.c (.bool false)]])
 (.seq
 (.ops [4] [
 ox 5 .mv [.t 0],
 ox 6 (.cmp .geq) [.t 5, .c (.int .i64 0)],
 ox 7 .mv [.t 6],
 og 8 .mv [.t 0] 7 true,
 og 9 (.cmp .leq) [.t 8, .c (.int .i64 1099511627776)] 7 true,
 ox 10 .pick [.t 7, .t 9, .c (.bool false)],
 ox 11 .mv [.t 10],
 og 12 .mv [.t 1] 11 true,
 og 13 (.cmp .geq) [.t 12, .c (.int .i64 0)] 11 true,
 ox 14 .pick [.t 11, .t 13, .c (.bool false)],
 ox 15 .mv [.t 14],
 og 16 .mv [.t 1] 15 true,
 og 17 (.cmp .leq) [.t 16, .c (.int .i64 1099511627776)] 15 true,
 ox 18 .pick [.t 15, .t 17, .c (.bool false)],
 ox 4 .mv [.t 18]])
 .ret))
def r104 : List ARes := [.tmp 4]
theorem ok104 : FnOk Tryz.prog 104 c104 r104 :=
 ⟨Tryz.f104, _, Tryz.func104, by kernel_rfl, rfl, by kernel_rfl, by kernel_rfl⟩
def c105 : ACode :=
 (.seq
 (.ops [0, 1, 2, 3] [
 ox 8 .mv [.c .nils]])
 (.seq
 (.ops [0, 1, 2, 3, 9] [
 ox 9 .mv [.c .nils]])
 (.seq
 (.seq
 (.ops [0, 1, 2, 3, 9, 10] [
 ox 10 .mv [.c (.int .i64 0)]])
 (.block 0
 (.loop [0, 1, 2, 3, 9, 10]
 (.seq
 (.seq
 (.ops [0, 1, 2, 3, 9, 10, 16] [
 ox 13 .mv [.t 10],
 ox 14 .mv [.t 3],
 ox 15 .len [.t 14],
 ox 16 (.cmp .lss) [.t 13, .t 15]])
 (.cond (.t 16)
 .skip
 (.exit 0)))
 (.seq
 (.block 1
 (.seq
 (.ops [0, 1, 2, 3, 9, 10, 11] [
 ox 19 .mv [.t 0],
 ox 20 .mv [.t 1],
 ox 21 .mv [.t 2],
 ox 22 .mv [.t 10],
 ox 23 (.arith .quo) [.t 22, .c (.int .i64 16)],
 ox 24 (.call 114) [.t 19, .t 20, .t 21, .t 23],
 ox 11 (.alloc (List.replicate 16 (.int .u8 0))) [],
 oy (.store 16) [.t 11, .t 24]])
 (.seq
 (.ops [0, 1, 2, 3, 9, 10, 11, 12] [
 ox 12 .mv [.c (.int .i64 0)]])
 (.block 2
 (.loop [0, 1, 2, 3, 9, 10, 11, 12]
 (.seq
 (.seq
 (.ops [0, 1, 2, 3, 9, 10, 11, 12, 34] [
 ox 25 .mv [.t 12],
 ox 26 (.cmp .lss) [.t 25, .c (.int .i64 16)],
 ox 27 .mv [.t 26],
 og 28 .mv [.t 10] 27 true,
 og 29 .mv [.t 12] 27 true,
 og 30 (.arith .add) [.t 28, .t 29] 27 true,
 og 31 .mv [.t 3] 27 true,
 og 32 .len [.t 31] 27 true,
 og 33 (.cmp .lss) [.t 30, .t 32] 27 true,
 ox 34 .pick [.t 27, .t 33, .c (.bool false)]])
 (.cond (.t 34)
 .skip
 (.exit 2)))
 (.seq
 (.block 3
 (.drawn [0, 1, 2, 3, 9, 10, 11, 12] [
 ox 37 .mv [.t 9],
 ox 38 .mv [.t 3],
 ox 39 .mv [.t 10],
 ox 40 .mv [.t 12],
 ox 41 (.arith .add) [.t 39, .t 40],
 ox 42 (.idxAddr 1) [.t 38, .t 41],
 ox 43 (.load false 1) [.t 42],
 ox 44 .mv [.t 12],
 ox 45 (.idxAddrArr 16 1) [.t 11, .t 44],
 ox 46 (.load false 1) [.t 45],
 ox 47 (.arith .xor) [.t 43, .t 46],
 ox 48 (.mkSl 1 [.int .u8 0] [(0, 1)]) [.t 47],
 od 49 (.append 1 1) [.t 37, .t 48] 0 1,
 od 9 .mv [.t 49] 1 1]))
 (.ops [0, 1, 2, 3, 9, 10, 11, 12] [
 ox 35 .mv [.t 12],
 ox 36 (.arith .add) [.t 35, .c (.int .i64 1)],
 ox 12 .mv [.t 36]]))))))))
 (.ops [0, 1, 2, 3, 9, 10] [
 ox 17 .mv [.t 10],
 ox 18 (.arith .add) [.t 17, .c (.int .i64 16)],
 ox 10 .mv [.t 18]]))))))
 (.seq
 (.ops [8] [
 ox 50 .mv [.t 9],
 ox 8 .mv [.t 50]])
 .ret))))
def r105 : List ARes := [.tmp 8]
theorem ok105 : FnOk Tryz.prog 105 c105 r105 :=
 ⟨Tryz.f105, _, Tryz.func105, by kernel_rfl, rfl, by kernel_rfl, by kernel_rfl⟩
def c106 : ACode :=
 (.seq
 (.ops [0, 1, 2, 3, 4, 10] [
 ox 10 (.alloc (List.replicate 32 (.int .u8 0))) []])
 (.seq
 (.ops [0, 1, 2, 4, 10, 11] [
 ox 12 .mv [.t 3],
 ox 13 .len [.t 12],
 ox 14 (.call 115) [.t 13],
 ox 15 .mv [.t 3],
 ox 16 (.append 1 1) [.t 14, .t 15],
 ox 11 .mv [.t 16]])
 (.seq
 (.ops [0, 4, 10, 11] [
 ox 17 .mv [.t 11],
 ox 18 .mv [.t 1],
 ox 19 (.call 115) [.t 18],
 ox 20 (.append 1 1) [.t 17, .t 19],
 ox 21 .mv [.t 2],
 ox 22 (.call 115) [.t 21],
 ox 23 (.append 1 1) [.t 20, .t 22],
 ox 11 .mv [.t 23]])
 (.seq
 (.drawn [10] [
 od 24 .mv [.t 0] 0 1,
 od 25 .nilCheck [.t 24] 0 1,
 od 26 (.fieldAddr 1) [.t 25] 0 1,
 od 27 (.load false 1) [.t 26] 0 1,
 ox 28 .mv [.t 11],
 ox 29 .mv [.t 4],
 od 30 (.append 1 1) [.t 28, .t 29] 0 1,
 od 31 (.call 79) [.t 27, .t 30] 1 2,
 oe (.store 32) [.t 10, .t 31] 2 3])
 .ret))))
def r106 : List ARes := [.cell 10 true 32]
theorem ok106 : FnOk Tryz.prog 106 c106 r106 :=
 ⟨Tryz.f106, _, Tryz.func106, by kernel_rfl, rfl, by kernel_rfl, by kernel_rfl⟩
def c109 : ACode :=
 (.seq
 (.ops [0] [
 ox 2 .mv [.c .nils]])
 (.seq
 (.ops [0, 3] [
 ox 3 .mv [.c .nils]])
 (.seq
 (.seq
 (.ops [0, 3, 4] [
 ox 4 .mv [.c (.int .i64 0)]])
 (.block 0
 (.loop [0, 3, 4]
 (.seq
 (.seq
 (.ops [0, 3, 4, 10] [
 ox 7 .mv [.t 4],
 ox 8 .mv [.t 0],
 ox 9 .len [.t 8],
 ox 10 (.cmp .lss) [.t 7, .t 9]])
 (.cond (.t 10)
 .skip
 (.exit 0)))
 (.seq
 (.block 1
 (.ops [0, 3, 4] [
 ox 13 .mv [.t 3],
 ox 14 .mv [.t 0],
 ox 15 .mv [.t 4],
 ox 16 (.idxAddr 1) [.t 14, .t 15],
 ox 17 (.load false 1) [.t 16],
 ox 18 (.mkSl 1 [.int .u8 0] [(0, 1)]) [.t 17],
 ox 19 (.append 1 1) [.t 13, .t 18],
 ox 3 .mv [.t 19]]))
 (.ops [0, 3, 4] [
 ox 11 .mv [.t 4],
 ox 12 (.arith .add) [.t 11, .c (.int .i64 1)],
 ox 4 .mv [.t 12]]))))))
 (.seq
 (.ops [0, 3] [
 ox 20 .mv [.t 3],
 ox 21 (.mkSl 1 [.int .u8 0] [(0, 1)]) [.c (.int .u8 128)],
 ox 22 (.append 1 1) [.t 20, .t 21],
 ox 3 .mv [.t 22]])
 (.seq
 (.block 2
 (.loop [0, 3]
 (.seq
 (.seq
 (.ops [0, 3, 26] [
 ox 23 .mv [.t 3],
 ox 24 .len [.t 23],
 ox 25 (.arith .rem) [.t 24, .c (.int .i64 64)],
 ox 26 (.eq true .int) [.t 25, .c (.int .i64 56)]])
 (.cond (.t 26)
 .skip
 (.exit 2)))
 (.block 3
 (.ops [0, 3] [
 ox 27 .mv [.t 3],
 ox 28 (.mkSl 1 [.int .u8 0] [(0, 1)]) [.c (.int .u8 0)],
 ox 29 (.append 1 1) [.t 27, .t 28],
 ox 3 .mv [.t 29]])))))
 (.seq
 (.ops [3, 5] [
 ox 30 .mv [.t 0],
 ox 31 .len [.t 30],
 ox 32 (.conv .u64) [.t 31],
 ox 33 (.arith .mul) [.t 32, .c (.int .u64 8)],
 ox 5 .mv [.t 33]])
 (.seq
 (.seq
 (.ops [3, 5, 6] [
 ox 6 .mv [.c (.int .i64 7)]])
 (.block 4
 (.loop [3, 5, 6]
 (.seq
 (.seq
 (.ops [3, 5, 6, 35] [
 ox 34 .mv [.t 6],
 ox 35 (.cmp .geq) [.t 34, .c (.int .i64 0)]])
 (.cond (.t 35)
 .skip
 (.exit 4)))
 (.seq
 (.block 5
 (.ops [3, 5, 6] [
 ox 38 .mv [.t 3],
 ox 39 .mv [.t 5],
 ox 40 .mv [.t 6],
 ox 41 (.arith .mul) [.c (.int .i64 8), .t 40],
 ox 42 (.conv .u64) [.t 41],
 ox 43 (.shift .shr) [.t 39, .t 42],
 ox 44 (.conv .u8) [.t 43],
 ox 45 (.mkSl 1 [.int .u8 0] [(0, 1)]) [.t 44],
 ox 46 (.append 1 1) [.t 38, .t 45],
 ox 3 .mv [.t 46]]))
 (.ops [3, 5, 6] [
 ox 36 .mv [.t 6],
 ox 37 (.arith .sub) [.t 36, .c (.int .i64 1)],
 ox 6 .mv [.t 37]]))))))
 (.seq
 (.ops [2] [
 ox 47 .mv [.t 3],
 ox 2 .mv [.t 47]])
 .ret))))))))
def r109 : List ARes := [.tmp 2]
theorem ok109 : FnOk Tryz.prog 109 c109 r109 :=
 ⟨Tryz.f109, _, Tryz.func109, by kernel_rfl, rfl, by kernel_rfl, by kernel_rfl⟩
def c110 : ACode :=
 (.seq
 (.ops [] [
 ox 0 .mv [.c .nils]])
 (.seq
 (.ops [0] [
 ox 1 (.mkSl 8 [.int .u32 0, .int .u32 0, .int .u32 0, .int .u32 0, .int .u32 0, .int .u32 0, .int .u32 0, .int .u32 0] [(0, 1), (1, 1), (2, 1), (3, 1), (4, 1), (5, 1), (6, 1), (7, 1)]) [.c (.int .u32 1779033703), .c (.int .u32 3144134277), .c (.int .u32 1013904242), .c (.int .u32 2773480762), .c (.int .u32 1359893119), .c (.int .u32 2600822924), .c (.int .u32 528734635), .c (.int .u32 1541459225)],
 ox 0 .mv [.t 1]])
 .ret))
def r110 : List ARes := [.tmp 0]
theorem ok110 : FnOk Tryz.prog 110 c110 r110 :=
 ⟨Tryz.f110, _, Tryz.func110, by kernel_rfl, rfl, by kernel_rfl, by kernel_rfl⟩
def c111 : ACode :=
 (.seq
 (.ops [0, 1] [
 ox 4 .mv [.c .nils]])
 (.seq
 (.ops [0, 5] [
 ox 15 .mv [.t 1],
 ox 16 (.call 116) [.t 15],
 ox 5 .mv [.t 16]])
 (.seq
 (.ops [0, 5, 6] [
 ox 17 (.mkSl 0 [] []) [],
 ox 18 .mv [.t 0],
 ox 19 (.append 1 4) [.t 17, .t 18],
 ox 6 .mv [.t 19]])
 (.seq
 (.seq
 (.ops [0, 5, 6, 7] [
 ox 7 .mv [.c (.int .i64 0)]])
 (.block 0
 (.loop [0, 5, 6, 7]
 (.seq
 (.seq
 (.ops [0, 5, 6, 7, 21] [
 ox 20 .mv [.t 7],
 ox 21 (.cmp .lss) [.t 20, .c (.int .i64 64)]])
 (.cond (.t 21)
 .skip
 (.exit 0)))
 (.seq
 (.block 1
 (.seq
 (.drawn [0, 5, 6, 7, 8] [
 ox 24 .mv [.t 6],
 ox 25 (.idxAddr 1) [.t 24, .c (.int .i64 4)],
 ox 26 (.load false 1) [.t 25],
 od 27 (.call 117) [.c (.int .u64 6), .t 26] 0 1,
 od 28 .mv [.t 6] 0 1,
 od 29 (.idxAddr 1) [.t 28, .c (.int .i64 4)] 0 1,
 od 30 (.load false 1) [.t 29] 0 1,
 od 31 (.call 117) [.c (.int .u64 11), .t 30] 1 2,
 od 32 (.arith .xor) [.t 27, .t 31] 2 3,
 od 33 .mv [.t 6] 0 2,
 od 34 (.idxAddr 1) [.t 33, .c (.int .i64 4)] 0 2,
 od 35 (.load false 1) [.t 34] 0 2,
 od 36 (.call 117) [.c (.int .u64 25), .t 35] 2 3,
 od 37 (.arith .xor) [.t 32, .t 36] 3 3,
 od 8 .mv [.t 37] 3 3])
 (.seq
 (.drawn [0, 5, 6, 7, 8, 9] [
 ox 38 .mv [.t 6],
 ox 39 (.idxAddr 1) [.t 38, .c (.int .i64 4)],
 ox 40 (.load false 1) [.t 39],
 ox 41 .mv [.t 6],
 ox 42 (.idxAddr 1) [.t 41, .c (.int .i64 5)],
 ox 43 (.load false 1) [.t 42],
 ox 44 (.arith .and) [.t 40, .t 43],
 ox 45 .mv [.t 6],
 ox 46 (.idxAddr 1) [.t 45, .c (.int .i64 4)],
 ox 47 (.load false 1) [.t 46],
 ox 48 .bnot [.t 47],
 ox 49 .mv [.t 6],
 ox 50 (.idxAddr 1) [.t 49, .c (.int .i64 6)],
 ox 51 (.load false 1) [.t 50],
 ox 52 (.arith .and) [.t 48, .t 51],
 ox 53 (.arith .xor) [.t 44, .t 52],
 ox 9 .mv [.t 53]])
 (.seq
 (.drawn [0, 5, 6, 7, 10] [
 ox 54 .mv [.t 6],
 ox 55 (.idxAddr 1) [.t 54, .c (.int .i64 7)],
 ox 56 (.load false 1) [.t 55],
 ox 57 .mv [.t 8],
 ox 58 (.arith .add) [.t 56, .t 57],
 ox 59 .mv [.t 9],
 ox 60 (.arith .add) [.t 58, .t 59],
 ox 61 .mv [.t 7],
 ox 62 (.idxAddrArr 64 1) [.c (.ptr 1 0), .t 61],
 ox 63 (.load false 1) [.t 62],
 ox 64 (.arith .add) [.t 60, .t 63],
 ox 65 .mv [.t 5],
 ox 66 .mv [.t 7],
 ox 67 (.idxAddr 1) [.t 65, .t 66],
 ox 68 (.load false 1) [.t 67],
 ox 69 (.arith .add) [.t 64, .t 68],
 ox 10 .mv [.t 69]])
 (.seq
 (.drawn [0, 5, 6, 7, 10, 11] [
 ox 70 .mv [.t 6],
 ox 71 (.idxAddr 1) [.t 70, .c (.int .i64 0)],
 ox 72 (.load false 1) [.t 71],
 od 73 (.call 117) [.c (.int .u64 2), .t 72] 0 1,
 od 74 .mv [.t 6] 0 1,
 od 75 (.idxAddr 1) [.t 74, .c (.int .i64 0)] 0 1,
 od 76 (.load false 1) [.t 75] 0 1,
 od 77 (.call 117) [.c (.int .u64 13), .t 76] 1 2,
 od 78 (.arith .xor) [.t 73, .t 77] 2 3,
 od 79 .mv [.t 6] 0 2,
 od 80 (.idxAddr 1) [.t 79, .c (.int .i64 0)] 0 2,
 od 81 (.load false 1) [.t 80] 0 2,
 od 82 (.call 117) [.c (.int .u64 22), .t 81] 2 3,
 od 83 (.arith .xor) [.t 78, .t 82] 3 3,
 od 11 .mv [.t 83] 3 3])
 (.seq
 (.drawn [0, 5, 6, 7, 10, 11, 12] [
 ox 84 .mv [.t 6],
 ox 85 (.idxAddr 1) [.t 84, .c (.int .i64 0)],
 ox 86 (.load false 1) [.t 85],
 ox 87 .mv [.t 6],
 ox 88 (.idxAddr 1) [.t 87, .c (.int .i64 1)],
 ox 89 (.load false 1) [.t 88],
 ox 90 (.arith .and) [.t 86, .t 89],
 ox 91 .mv [.t 6],
 ox 92 (.idxAddr 1) [.t 91, .c (.int .i64 0)],
 ox 93 (.load false 1) [.t 92],
 ox 94 .mv [.t 6],
 ox 95 (.idxAddr 1) [.t 94, .c (.int .i64 2)],
 ox 96 (.load false 1) [.t 95],
 ox 97 (.arith .and) [.t 93, .t 96],
 ox 98 (.arith .xor) [.t 90, .t 97],
 ox 99 .mv [.t 6],
 ox 100 (.idxAddr 1) [.t 99, .c (.int .i64 1)],
 ox 101 (.load false 1) [.t 100],
 ox 102 .mv [.t 6],
 ox 103 (.idxAddr 1) [.t 102, .c (.int .i64 2)],
 ox 104 (.load false 1) [.t 103],
 ox 105 (.arith .and) [.t 101, .t 104],
 ox 106 (.arith .xor) [.t 98, .t 105],
 ox 12 .mv [.t 106]])
 (.drawn [0, 5, 6, 7] [
 ox 107 .mv [.t 10],
 ox 108 .mv [.t 11],
 ox 109 (.arith .add) [.t 107, .t 108],
 ox 110 .mv [.t 12],
 ox 111 (.arith .add) [.t 109, .t 110],
 ox 112 .mv [.t 6],
 ox 113 (.idxAddr 1) [.t 112, .c (.int .i64 0)],
 ox 114 (.load false 1) [.t 113],
 ox 115 .mv [.t 6],
 ox 116 (.idxAddr 1) [.t 115, .c (.int .i64 1)],
 ox 117 (.load false 1) [.t 116],
 ox 118 .mv [.t 6],
 ox 119 (.idxAddr 1) [.t 118, .c (.int .i64 2)],
 ox 120 (.load false 1) [.t 119],
 ox 121 .mv [.t 6],
 ox 122 (.idxAddr 1) [.t 121, .c (.int .i64 3)],
 ox 123 (.load false 1) [.t 122],
 ox 124 .mv [.t 10],
 ox 125 (.arith .add) [.t 123, .t 124],
 ox 126 .mv [.t 6],
 ox 127 (.idxAddr 1) [.t 126, .c (.int .i64 4)],
 ox 128 (.load false 1) [.t 127],
 ox 129 .mv [.t 6],
 ox 130 (.idxAddr 1) [.t 129, .c (.int .i64 5)],
 ox 131 (.load false 1) [.t 130],
 ox 132 .mv [.t 6],
 ox 133 (.idxAddr 1) [.t 132, .c (.int .i64 6)],
 ox 134 (.load false 1) [.t 133],
 ox 135 (.mkSl 8 [.int .u32 0, .int .u32 0, .int .u32 0, .int .u32 0, .int .u32 0, .int .u32 0, .int .u32 0, .int .u32 0] [(0, 1), (1, 1), (2, 1), (3, 1), (4, 1), (5, 1), (6, 1), (7, 1)]) [.t 111, .t 114, .t 117, .t 120, .t 125, .t 128, .t 131, .t 134],
 ox 6 .mv [.t 135]])))))))
 (.ops [0, 5, 6, 7] [
 ox 22 .mv [.t 7],
 ox 23 (.arith .add) [.t 22, .c (.int .i64 1)],
 ox 7 .mv [.t 23]]))))))
 (.seq
 (.ops [0, 6, 13] [
 ox 13 .mv [.c .nils]])
 (.seq
 (.seq
 (.ops [0, 6, 13, 14] [
 ox 14 .mv [.c (.int .i64 0)]])
 (.block 2
 (.loop [0, 6, 13, 14]
 (.seq
 (.seq
 (.ops [0, 6, 13, 14, 137] [
 ox 136 .mv [.t 14],
 ox 137 (.cmp .lss) [.t 136, .c (.int .i64 8)]])
 (.cond (.t 137)
 .skip
 (.exit 2)))
 (.seq
 (.block 3
 (.drawn [0, 6, 13, 14] [
 ox 140 .mv [.t 13],
 ox 141 .mv [.t 0],
 ox 142 .mv [.t 14],
 ox 143 (.idxAddr 1) [.t 141, .t 142],
 ox 144 (.load false 1) [.t 143],
 ox 145 .mv [.t 6],
 ox 146 .mv [.t 14],
 ox 147 (.idxAddr 1) [.t 145, .t 146],
 ox 148 (.load false 1) [.t 147],
 ox 149 (.arith .add) [.t 144, .t 148],
 ox 150 (.mkSl 1 [.int .u32 0] [(0, 1)]) [.t 149],
 od 151 (.append 1 4) [.t 140, .t 150] 0 1,
 od 13 .mv [.t 151] 1 1]))
 (.ops [0, 6, 13, 14] [
 ox 138 .mv [.t 14],
 ox 139 (.arith .add) [.t 138, .c (.int .i64 1)],
 ox 14 .mv [.t 139]]))))))
 (.seq
 (.ops [4] [
 ox 152 .mv [.t 13],
 ox 4 .mv [.t 152]])
 .ret)))))))
def r111 : List ARes := [.tmp 4]
theorem ok111 : FnOk Tryz.prog 111 c111 r111 :=
 ⟨Tryz.f111, _, Tryz.func111, by kernel_rfl, rfl, by kernel_rfl, by kernel_rfl⟩
def c112 : ACode :=
 (.seq
 (.ops [0, 1] [
 ox 4 .mv [.c (.int .u32 0)]])
 (.seq
 (.ops [4] [
 ox 5 .mv [.t 0],
 ox 6 .mv [.t 1],
 ox 7 (.shift .shr) [.t 5, .t 6],
 ox 8 .mv [.t 0],
 ox 9 .mv [.t 1],
 ox 10 (.arith .sub) [.c (.int .u64 32), .t 9],
 ox 11 (.shift .shl) [.t 8, .t 10],
 ox 12 (.arith .or) [.t 7, .t 11],
 ox 4 .mv [.t 12]])
 .ret))
def r112 : List ARes := [.tmp 4]
theorem ok112 : FnOk Tryz.prog 112 c112 r112 :=
 ⟨Tryz.f112, _, Tryz.func112, by kernel_rfl, rfl, by kernel_rfl, by kernel_rfl⟩
def c113 : ACode :=
 (.seq
 (.ops [0] [
 ox 2 .mv [.c (.int .u8 0)]])
 (.seq
 (.seq
 (.ops [0, 3] [
 ox 3 .mv [.c (.int .i64 1)]])
 (.block 0
 (.loop [0, 3]
 (.seq
 (.seq
 (.ops [0, 3, 5] [
 ox 4 .mv [.t 3],
 ox 5 (.cmp .lss) [.t 4, .c (.int .i64 256)]])
 (.cond (.t 5)
 .skip
 (.exit 0)))
 (.seq
 (.block 1
 (.seq
 (.ops [0, 3, 12] [
 ox 8 .mv [.t 3],
 ox 9 (.conv .u8) [.t 8],
 ox 10 .mv [.t 0],
 ox 11 (.call 118) [.t 9, .t 10],
 ox 12 (.eq false .int) [.t 11, .c (.int .u8 1)]])
 (.cond (.t 12)
 (.seq
 (.ops [2] [
 ox 13 .mv [.t 3],
 ox 14 (.conv .u8) [.t 13],
 ox 2 .mv [.t 14]])
 .ret)
 .skip)))
 (.ops [0, 3] [
 ox 6 .mv [.t 3],
 ox 7 (.arith .add) [.t 6, .c (.int .i64 1)],
 ox 3 .mv [.t 7]]))))))
 (.seq
 (.ops [2] [
 ox 2 .mv [.c (.int .u8 0)]])
 .ret)))
def r113 : List ARes := [.tmp 2]
theorem ok113 : FnOk Tryz.prog 113 c113 r113 :=
 ⟨Tryz.f113, _, Tryz.func113, by kernel_rfl, rfl, by kernel_rfl, by kernel_rfl⟩
def c114 : ACode :=
 (.seq
 (.ops [0, 1, 2, 3, 8] [
 ox 8 (.alloc (List.replicate 16 (.int .u8 0))) []])
 (.seq
 (.ops [0, 1, 2, 3, 8, 9] [
 ox 9 (.alloc (List.replicate 16 (.int .u8 0))) []])
 (.seq
 (.ops [0, 2, 3, 8, 9, 10] [
 ox 15 .mv [.t 1],
 ox 16 (.call 119) [.t 15, .c (.int .i64 6)],
 ox 10 .mv [.t 16]])
 (.seq
 (.ops [0, 3, 8, 9, 10, 11] [
 ox 17 .mv [.t 2],
 ox 18 (.call 119) [.t 17, .c (.int .i64 6)],
 ox 11 .mv [.t 18]])
 (.seq
 (.ops [0, 8, 9, 10, 11, 12] [
 ox 19 .mv [.t 3],
 ox 20 (.call 119) [.t 19, .c (.int .i64 4)],
 ox 12 .mv [.t 20]])
 (.seq
 (.seq
 (.ops [0, 8, 9, 10, 11, 12, 13] [
 ox 13 .mv [.c (.int .i64 0)]])
 (.block 0
 (.loop [0, 8, 9, 10, 11, 12, 13]
 (.seq
 (.seq
 (.ops [0, 8, 9, 10, 11, 12, 13, 22] [
 ox 21 .mv [.t 13],
 ox 22 (.cmp .lss) [.t 21, .c (.int .i64 6)]])
 (.cond (.t 22)
 .skip
 (.exit 0)))
 (.seq
 (.block 1
 (.seq
 (.ops [0, 8, 9, 10, 11, 12, 13] [
 ox 25 .mv [.t 13],
 ox 26 .mv [.t 10],
 ox 27 .mv [.t 13],
 ox 28 (.idxAddr 1) [.t 26, .t 27],
 ox 29 (.load false 1) [.t 28],
 ox 30 (.idxAddrArr 16 1) [.t 9, .t 25],
 oy (.store 1) [.t 30, .t 29]])
 (.ops [0, 8, 9, 10, 11, 12, 13] [
 ox 31 .mv [.t 13],
 ox 32 (.arith .add) [.c (.int .i64 6), .t 31],
 ox 33 .mv [.t 11],
 ox 34 .mv [.t 13],
 ox 35 (.idxAddr 1) [.t 33, .t 34],
 ox 36 (.load false 1) [.t 35],
 ox 37 (.idxAddrArr 16 1) [.t 9, .t 32],
 oy (.store 1) [.t 37, .t 36]])))
 (.ops [0, 8, 9, 10, 11, 12, 13] [
 ox 23 .mv [.t 13],
 ox 24 (.arith .add) [.t 23, .c (.int .i64 1)],
 ox 13 .mv [.t 24]]))))))
 (.seq
 (.seq
 (.ops [0, 8, 9, 12, 14] [
 ox 14 .mv [.c (.int .i64 0)]])
 (.block 2
 (.loop [0, 8, 9, 12, 14]
 (.seq
 (.seq
 (.ops [0, 8, 9, 12, 14, 39] [
 ox 38 .mv [.t 14],
 ox 39 (.cmp .lss) [.t 38, .c (.int .i64 4)]])
 (.cond (.t 39)
 .skip
 (.exit 2)))
 (.seq
 (.block 3
 (.ops [0, 8, 9, 12, 14] [
 ox 42 .mv [.t 14],
 ox 43 (.arith .add) [.c (.int .i64 12), .t 42],
 ox 44 .mv [.t 12],
 ox 45 .mv [.t 14],
 ox 46 (.idxAddr 1) [.t 44, .t 45],
 ox 47 (.load false 1) [.t 46],
 ox 48 (.idxAddrArr 16 1) [.t 9, .t 43],
 oy (.store 1) [.t 48, .t 47]]))
 (.ops [0, 8, 9, 12, 14] [
 ox 40 .mv [.t 14],
 ox 41 (.arith .add) [.t 40, .c (.int .i64 1)],
 ox 14 .mv [.t 41]]))))))
 (.seq
 (.ops [8] [
 ox 49 .mv [.t 0],
 ox 50 (.load true 16) [.t 9],
 ox 51 (.call 120) [.t 49, .t 50],
 oy (.store 16) [.t 8, .t 51]])
 .ret))))))))
def r114 : List ARes := [.cell 8 true 16]
theorem ok114 : FnOk Tryz.prog 114 c114 r114 :=
 ⟨Tryz.f114, _, Tryz.func114, by kernel_rfl, rfl, by kernel_rfl, by kernel_rfl⟩
def c115 : ACode :=
 (.seq
 (.ops [0] [
 ox 2 .mv [.c .nils]])
 (.seq
 (.ops [0, 3] [
 ox 3 .mv [.c .nils]])
 (.seq
 (.seq
 (.ops [0, 3, 4] [
 ox 4 .mv [.c (.int .i64 7)]])
 (.block 0
 (.loop [0, 3, 4]
 (.seq
 (.seq
 (.ops [0, 3, 4, 6] [
 ox 5 .mv [.t 4],
 ox 6 (.cmp .geq) [.t 5, .c (.int .i64 0)]])
 (.cond (.t 6)
 .skip
 (.exit 0)))
 (.seq
 (.block 1
 (.ops [0, 3, 4] [
 ox 9 .mv [.t 3],
 ox 10 .mv [.t 0],
 ox 11 .mv [.t 4],
 ox 12 (.arith .mul) [.c (.int .i64 8), .t 11],
 ox 13 (.conv .u64) [.t 12],
 ox 14 (.shift .shr) [.t 10, .t 13],
 ox 15 (.conv .u8) [.t 14],
 ox 16 (.mkSl 1 [.int .u8 0] [(0, 1)]) [.t 15],
 ox 17 (.append 1 1) [.t 9, .t 16],
 ox 3 .mv [.t 17]]))
 (.ops [0, 3, 4] [
 ox 7 .mv [.t 4],
 ox 8 (.arith .sub) [.t 7, .c (.int .i64 1)],
 ox 4 .mv [.t 8]]))))))
 (.seq
 (.ops [2] [
 ox 18 .mv [.t 3],
 ox 2 .mv [.t 18]])
 .ret))))
def r115 : List ARes := [.tmp 2]
theorem ok115 : FnOk Tryz.prog 115 c115 r115 :=
 ⟨Tryz.f115, _, Tryz.func115, by kernel_rfl, rfl, by kernel_rfl, by kernel_rfl⟩
def c116 : ACode :=
 (.seq
 (.ops [0] [
 ox 2 .mv [.c .nils]])
 (.seq
 (.ops [0, 3] [
 ox 3 .mv [.c .nils]])
 (.seq
 (.seq
 (.ops [0, 3, 4] [
 ox 4 .mv [.c (.int .i64 0)]])
 (.block 0
 (.loop [0, 3, 4]
 (.seq
 (.seq
 (.ops [0, 3, 4, 11] [
 ox 10 .mv [.t 4],
 ox 11 (.cmp .lss) [.t 10, .c (.int .i64 16)]])
 (.cond (.t 11)
 .skip
 (.exit 0)))
 (.seq
 (.block 1
 (.drawn [0, 3, 4] [
 ox 14 .mv [.t 3],
 ox 15 .mv [.t 0],
 ox 16 .mv [.t 4],
 ox 17 (.arith .mul) [.c (.int .i64 4), .t 16],
 ox 18 (.idxAddr 1) [.t 15, .t 17],
 ox 19 (.load false 1) [.t 18],
 ox 20 (.conv .u32) [.t 19],
 ox 21 (.shift .shl) [.t 20, .c (.int .u64 24)],
 ox 22 .mv [.t 0],
 ox 23 .mv [.t 4],
 ox 24 (.arith .mul) [.c (.int .i64 4), .t 23],
 ox 25 (.arith .add) [.t 24, .c (.int .i64 1)],
 ox 26 (.idxAddr 1) [.t 22, .t 25],
 ox 27 (.load false 1) [.t 26],
 ox 28 (.conv .u32) [.t 27],
 ox 29 (.shift .shl) [.t 28, .c (.int .u64 16)],
 ox 30 (.arith .or) [.t 21, .t 29],
 ox 31 .mv [.t 0],
 ox 32 .mv [.t 4],
 ox 33 (.arith .mul) [.c (.int .i64 4), .t 32],
 ox 34 (.arith .add) [.t 33, .c (.int .i64 2)],
 ox 35 (.idxAddr 1) [.t 31, .t 34],
 ox 36 (.load false 1) [.t 35],
 ox 37 (.conv .u32) [.t 36],
 ox 38 (.shift .shl) [.t 37, .c (.int .u64 8)],
 ox 39 (.arith .or) [.t 30, .t 38],
 ox 40 .mv [.t 0],
 ox 41 .mv [.t 4],
 ox 42 (.arith .mul) [.c (.int .i64 4), .t 41],
 ox 43 (.arith .add) [.t 42, .c (.int .i64 3)],
 ox 44 (.idxAddr 1) [.t 40, .t 43],
 ox 45 (.load false 1) [.t 44],
 ox 46 (.conv .u32) [.t 45],
 ox 47 (.arith .or) [.t 39, .t 46],
 ox 48 (.mkSl 1 [.int .u32 0] [(0, 1)]) [.t 47],
 od 49 (.append 1 4) [.t 14, .t 48] 0 1,
 od 3 .mv [.t 49] 1 1]))
 (.ops [0, 3, 4] [
 ox 12 .mv [.t 4],
 ox 13 (.arith .add) [.t 12, .c (.int .i64 1)],
 ox 4 .mv [.t 13]]))))))
 (.seq
 (.seq
 (.ops [3, 5] [
 ox 5 .mv [.c (.int .i64 16)]])
 (.block 2
 (.loop [3, 5]
 (.seq
 (.seq
 (.ops [3, 5, 51] [
 ox 50 .mv [.t 5],
 ox 51 (.cmp .lss) [.t 50, .c (.int .i64 64)]])
 (.cond (.t 51)
 .skip
 (.exit 2)))
 (.seq
 (.block 3
 (.seq
 (.ops [3, 5, 6] [
 ox 54 .mv [.t 3],
 ox 55 .mv [.t 5],
 ox 56 (.arith .sub) [.t 55, .c (.int .i64 2)],
 ox 57 (.idxAddr 1) [.t 54, .t 56],
 ox 58 (.load false 1) [.t 57],
 ox 6 .mv [.t 58]])
 (.seq
 (.ops [3, 5, 6, 7] [
 ox 59 .mv [.t 3],
 ox 60 .mv [.t 5],
 ox 61 (.arith .sub) [.t 60, .c (.int .i64 15)],
 ox 62 (.idxAddr 1) [.t 59, .t 61],
 ox 63 (.load false 1) [.t 62],
 ox 7 .mv [.t 63]])
 (.seq
 (.ops [3, 5, 7, 8] [
 ox 64 .mv [.t 6],
 ox 65 (.call 117) [.c (.int .u64 17), .t 64],
 ox 66 .mv [.t 6],
 ox 67 (.call 117) [.c (.int .u64 19), .t 66],
 ox 68 (.arith .xor) [.t 65, .t 67],
 ox 69 .mv [.t 6],
 ox 70 (.shift .shr) [.t 69, .c (.int .u64 10)],
 ox 71 (.arith .xor) [.t 68, .t 70],
 ox 8 .mv [.t 71]])
 (.seq
 (.ops [3, 5, 8, 9] [
 ox 72 .mv [.t 7],
 ox 73 (.call 117) [.c (.int .u64 7), .t 72],
 ox 74 .mv [.t 7],
 ox 75 (.call 117) [.c (.int .u64 18), .t 74],
 ox 76 (.arith .xor) [.t 73, .t 75],
 ox 77 .mv [.t 7],
 ox 78 (.shift .shr) [.t 77, .c (.int .u64 3)],
 ox 79 (.arith .xor) [.t 76, .t 78],
 ox 9 .mv [.t 79]])
 (.drawn [3, 5] [
 ox 80 .mv [.t 3],
 ox 81 .mv [.t 8],
 ox 82 .mv [.t 3],
 ox 83 .mv [.t 5],
 ox 84 (.arith .sub) [.t 83, .c (.int .i64 7)],
 ox 85 (.idxAddr 1) [.t 82, .t 84],
 ox 86 (.load false 1) [.t 85],
 ox 87 (.arith .add) [.t 81, .t 86],
 ox 88 .mv [.t 9],
 ox 89 (.arith .add) [.t 87, .t 88],
 ox 90 .mv [.t 3],
 ox 91 .mv [.t 5],
 ox 92 (.arith .sub) [.t 91, .c (.int .i64 16)],
 ox 93 (.idxAddr 1) [.t 90, .t 92],
 ox 94 (.load false 1) [.t 93],
 ox 95 (.arith .add) [.t 89, .t 94],
 ox 96 (.mkSl 1 [.int .u32 0] [(0, 1)]) [.t 95],
 od 97 (.append 1 4) [.t 80, .t 96] 0 1,
 od 3 .mv [.t 97] 1 1]))))))
 (.ops [3, 5] [
 ox 52 .mv [.t 5],
 ox 53 (.arith .add) [.t 52, .c (.int .i64 1)],
 ox 5 .mv [.t 53]]))))))
 (.seq
 (.ops [2] [
 ox 98 .mv [.t 3],
 ox 2 .mv [.t 98]])
 .ret)))))
def r116 : List ARes := [.tmp 2]
theorem ok116 : FnOk Tryz.prog 116 c116 r116 :=
 ⟨Tryz.f116, _, Tryz.func116, by kernel_rfl, rfl, by kernel_rfl, by kernel_rfl⟩
def c117 : ACode :=
 (.seq
 (.ops [0, 1] [
 ox 4 .mv [.c (.int .u32 0)]])
 (.seq
 (.ops [4] [
 ox 5 .mv [.t 1],
 ox 6 .mv [.t 0],
 ox 7 (.shift .shr) [.t 5, .t 6],
 ox 8 .mv [.t 1],
 ox 9 .mv [.t 0],
 ox 10 (.arith .sub) [.c (.int .u64 32), .t 9],
 ox 11 (.shift .shl) [.t 8, .t 10],
 ox 12 (.arith .or) [.t 7, .t 11],
 ox 4 .mv [.t 12]])
 .ret))
def r117 : List ARes := [.tmp 4]
theorem ok117 : FnOk Tryz.prog 117 c117 r117 :=
 ⟨Tryz.f117, _, Tryz.func117, by kernel_rfl, rfl, by kernel_rfl, by kernel_rfl⟩
def c118 : ACode :=
 (.seq
 (.ops [0, 1] [
 ox 4 .mv [.c (.int .u8 0)]])
 (.seq
 (.ops [0, 1, 5] [
 ox 5 .mv [.c (.int .u8 0)]])
 (.seq
 (.seq
 (.ops [0, 1, 5, 6] [
 ox 6 .mv [.c (.int .i64 0)]])
 (.block 0
 (.loop [0, 1, 5, 6]
 (.seq
 (.seq
 (.ops [0, 1, 5, 6, 8] [
 ox 7 .mv [.t 6],
 ox 8 (.cmp .lss) [.t 7, .c (.int .i64 8)]])
 (.cond (.t 8)
 .skip
 (.exit 0)))
 (.seq
 (.block 1
 (.seq
 (.seq
 (.ops [0, 1, 5, 6, 16] [
 ox 11 .mv [.t 0],
 ox 12 .mv [.t 6],
 ox 13 (.conv .u64) [.t 12],
 ox 14 (.shift .shr) [.t 11, .t 13],
 ox 15 (.arith .rem) [.t 14, .c (.int .u8 2)],
 ox 16 (.eq false .int) [.t 15, .c (.int .u8 1)]])
 (.cond (.t 16)
 (.ops [0, 1, 5, 6] [
 ox 17 .mv [.t 5],
 ox 18 .mv [.t 1],
 ox 19 (.arith .xor) [.t 17, .t 18],
 ox 5 .mv [.t 19]])
 .skip))
 (.ops [0, 1, 5, 6] [
 ox 20 .mv [.t 1],
 ox 21 (.call 81) [.t 20],
 ox 1 .mv [.t 21]])))
 (.ops [0, 1, 5, 6] [
 ox 9 .mv [.t 6],
 ox 10 (.arith .add) [.t 9, .c (.int .i64 1)],
 ox 6 .mv [.t 10]]))))))
 (.seq
 (.ops [4] [
 ox 22 .mv [.t 5],
 ox 4 .mv [.t 22]])
 .ret))))
def r118 : List ARes := [.tmp 4]
theorem ok118 : FnOk Tryz.prog 118 c118 r118 :=
 ⟨Tryz.f118, _, Tryz.func118, by kernel_rfl, rfl, by kernel_rfl, by kernel_rfl⟩
def c119 : ACode :=
 (.seq
 (.ops [0, 1] [
 ox 4 .mv [.c .nils]])
 (.seq
 (.ops [0, 1, 5] [
 ox 5 .mv [.c .nils]])
 (.seq
 (.seq
 (.ops [0, 5, 6] [
 ox 7 .mv [.t 1],
 ox 8 (.arith .sub) [.t 7, .c (.int .i64 1)],
 ox 6 .mv [.t 8]])
 (.block 0
 (.loop [0, 5, 6]
 (.seq
 (.seq
 (.ops [0, 5, 6, 10] [
 ox 9 .mv [.t 6],
 ox 10 (.cmp .geq) [.t 9, .c (.int .i64 0)]])
 (.cond (.t 10)
 .skip
 (.exit 0)))
 (.seq
 (.block 1
 (.ops [0, 5, 6] [
 ox 13 .mv [.t 5],
 ox 14 .mv [.t 0],
 ox 15 (.conv .u64) [.t 14],
 ox 16 .mv [.t 6],
 ox 17 (.arith .mul) [.c (.int .i64 8), .t 16],
 ox 18 (.conv .u64) [.t 17],
 ox 19 (.shift .shr) [.t 15, .t 18],
 ox 20 (.conv .u8) [.t 19],
 ox 21 (.mkSl 1 [.int .u8 0] [(0, 1)]) [.t 20],
 ox 22 (.append 1 1) [.t 13, .t 21],
 ox 5 .mv [.t 22]]))
 (.ops [0, 5, 6] [
 ox 11 .mv [.t 6],
 ox 12 (.arith .sub) [.t 11, .c (.int .i64 1)],
 ox 6 .mv [.t 12]]))))))
 (.seq
 (.ops [4] [
 ox 23 .mv [.t 5],
 ox 4 .mv [.t 23]])
 .ret))))
def r119 : List ARes := [.tmp 4]
theorem ok119 : FnOk Tryz.prog 119 c119 r119 :=
 ⟨Tryz.f119, _, Tryz.func119, by kernel_rfl, rfl, by kernel_rfl, by kernel_rfl⟩
def c120 : ACode :=
 (.seq
 (.ops [0, 3, 4] [
 ox 3 .box [.t 1],
 ox 4 (.alloc (List.replicate 16 (.int .u8 0))) []])
 (.seq
 (.ops [0, 4, 5] [
 ox 11 (.mkSl 0 [] []) [],
 ox 12 (.sliceArr 16 1 false false false) [.t 3],
 ox 13 (.append 1 1) [.t 11, .t 12],
 ox 5 .mv [.t 13]])
 (.seq
 (.ops [0, 4, 5] [
 ox 14 .mv [.t 0],
 ox 15 .mv [.t 5],
 ox 16 (.call 121) [.t 14, .t 15, .c (.int .i64 0)],
 ox 5 .mv [.t 16]])
 (.seq
 (.ops [0, 4, 5, 6] [
 ox 17 .mv [.t 0],
 ox 18 .nilCheck [.t 17],
 ox 19 (.fieldAddr 0) [.t 18],
 ox 20 (.load false 1) [.t 19],
 ox 21 .len [.t 20],
 ox 22 (.arith .quo) [.t 21, .c (.int .i64 4)],
 ox 23 (.arith .sub) [.t 22, .c (.int .i64 1)],
 ox 6 .mv [.t 23]])
 (.seq
 (.seq
 (.ops [0, 4, 5, 6, 7] [
 ox 7 .mv [.c (.int .i64 1)]])
 (.block 0
 (.loop [0, 4, 5, 6, 7]
 (.seq
 (.seq
 (.ops [0, 4, 5, 6, 7, 26] [
 ox 24 .mv [.t 7],
 ox 25 .mv [.t 6],
 ox 26 (.cmp .leq) [.t 24, .t 25]])
 (.cond (.t 26)
 .skip
 (.exit 0)))
 (.seq
 (.block 1
 (.seq
 (.ops [0, 4, 5, 6, 7, 8] [
 ox 8 .mv [.c .nils]])
 (.seq
 (.seq
 (.ops [0, 4, 5, 6, 7, 8, 9] [
 ox 9 .mv [.c (.int .i64 0)]])
 (.block 2
 (.loop [0, 4, 5, 6, 7, 8, 9]
 (.seq
 (.seq
 (.ops [0, 4, 5, 6, 7, 8, 9, 30] [
 ox 29 .mv [.t 9],
 ox 30 (.cmp .lss) [.t 29, .c (.int .i64 16)]])
 (.cond (.t 30)
 .skip
 (.exit 2)))
 (.seq
 (.block 3
 (.drawn [0, 4, 5, 6, 7, 8, 9] [
 ox 33 .mv [.t 8],
 ox 34 .mv [.t 0],
 ox 35 .nilCheck [.t 34],
 ox 36 (.fieldAddr 1) [.t 35],
 ox 37 (.load false 1) [.t 36],
 ox 38 .mv [.t 5],
 ox 39 .mv [.t 9],
 ox 40 (.arith .quo) [.t 39, .c (.int .i64 4)],
 ox 41 .mv [.t 9],
 ox 42 (.arith .rem) [.t 41, .c (.int .i64 4)],
 ox 43 (.arith .add) [.t 40, .t 42],
 ox 44 (.arith .rem) [.t 43, .c (.int .i64 4)],
 ox 45 (.arith .mul) [.c (.int .i64 4), .t 44],
 ox 46 .mv [.t 9],
 ox 47 (.arith .rem) [.t 46, .c (.int .i64 4)],
 ox 48 (.arith .add) [.t 45, .t 47],
 ox 49 (.idxAddr 1) [.t 38, .t 48],
 ox 50 (.load false 1) [.t 49],
 ox 51 (.idxAddr 1) [.t 37, .t 50],
 ox 52 (.load false 1) [.t 51],
 ox 53 (.mkSl 1 [.int .u8 0] [(0, 1)]) [.t 52],
 od 54 (.append 1 1) [.t 33, .t 53] 0 1,
 od 8 .mv [.t 54] 1 1]))
 (.ops [0, 4, 5, 6, 7, 8, 9] [
 ox 31 .mv [.t 9],
 ox 32 (.arith .add) [.t 31, .c (.int .i64 1)],
 ox 9 .mv [.t 32]]))))))
 (.seq
 (.seq
 (.ops [0, 4, 6, 7, 8, 57] [
 ox 55 .mv [.t 7],
 ox 56 .mv [.t 6],
 ox 57 (.cmp .lss) [.t 55, .t 56]])
 (.cond (.t 57)
 (.ops [0, 4, 6, 7, 8] [
 ox 58 .mv [.t 8],
 ox 59 (.call 122) [.t 58],
 ox 8 .mv [.t 59]])
 .skip))
 (.ops [0, 4, 5, 6, 7] [
 ox 60 .mv [.t 0],
 ox 61 .mv [.t 8],
 ox 62 .mv [.t 7],
 ox 63 (.call 121) [.t 60, .t 61, .t 62],
 ox 5 .mv [.t 63]])))))
 (.ops [0, 4, 5, 6, 7] [
 ox 27 .mv [.t 7],
 ox 28 (.arith .add) [.t 27, .c (.int .i64 1)],
 ox 7 .mv [.t 28]]))))))
 (.seq
 (.ops [4, 5, 10] [
 ox 10 (.alloc (List.replicate 16 (.int .u8 0))) []])
 (.seq
 (.ops [4, 10] [
 ox 64 (.sliceArr 16 1 false false false) [.t 10],
 ox 65 .mv [.t 5],
 ox 66 (.copy 1) [.t 64, .t 65]])
 (.seq
 (.ops [4] [
 ox 67 (.load true 16) [.t 10],
 oy (.store 16) [.t 4, .t 67]])
 .ret))))))))
def r120 : List ARes := [.cell 4 true 16]
theorem ok120 : FnOk Tryz.prog 120 c120 r120 :=
 ⟨Tryz.f120, _, Tryz.func120, by kernel_rfl, rfl, by kernel_rfl, by kernel_rfl⟩
def c121 : ACode :=
 (.seq
 (.ops [0, 1, 2] [
 ox 6 .mv [.c .nils]])
 (.seq
 (.ops [0, 1, 2, 7] [
 ox 7 .mv [.c .nils]])
 (.seq
 (.seq
 (.ops [0, 1, 2, 7, 8] [
 ox 8 .mv [.c (.int .i64 0)]])
 (.block 0
 (.loop [0, 1, 2, 7, 8]
 (.seq
 (.seq
 (.ops [0, 1, 2, 7, 8, 10] [
 ox 9 .mv [.t 8],
 ox 10 (.cmp .lss) [.t 9, .c (.int .i64 16)]])
 (.cond (.t 10)
 .skip
 (.exit 0)))
 (.seq
 (.block 1
 (.drawn [0, 1, 2, 7, 8] [
 ox 13 .mv [.t 7],
 ox 14 .mv [.t 1],
 ox 15 .mv [.t 8],
 ox 16 (.idxAddr 1) [.t 14, .t 15],
 ox 17 (.load false 1) [.t 16],
 ox 18 .mv [.t 0],
 ox 19 .nilCheck [.t 18],
 ox 20 (.fieldAddr 0) [.t 19],
 ox 21 (.load false 1) [.t 20],
 ox 22 .mv [.t 2],
 ox 23 (.arith .mul) [.c (.int .i64 4), .t 22],
 ox 24 .mv [.t 8],
 ox 25 (.arith .quo) [.t 24, .c (.int .i64 4)],
 ox 26 (.arith .add) [.t 23, .t 25],
 ox 27 (.idxAddr 1) [.t 21, .t 26],
 ox 28 (.load false 1) [.t 27],
 ox 29 .mv [.t 8],
 ox 30 (.arith .rem) [.t 29, .c (.int .i64 4)],
 ox 31 (.idxAddr 1) [.t 28, .t 30],
 ox 32 (.load false 1) [.t 31],
 ox 33 (.arith .xor) [.t 17, .t 32],
 ox 34 (.mkSl 1 [.int .u8 0] [(0, 1)]) [.t 33],
 od 35 (.append 1 1) [.t 13, .t 34] 0 1,
 od 7 .mv [.t 35] 1 1]))
 (.ops [0, 1, 2, 7, 8] [
 ox 11 .mv [.t 8],
 ox 12 (.arith .add) [.t 11, .c (.int .i64 1)],
 ox 8 .mv [.t 12]]))))))
 (.seq
 (.ops [6] [
 ox 36 .mv [.t 7],
 ox 6 .mv [.t 36]])
 .ret))))
def r121 : List ARes := [.tmp 6]
theorem ok121 : FnOk Tryz.prog 121 c121 r121 :=
 ⟨Tryz.f121, _, Tryz.func121, by kernel_rfl, rfl, by kernel_rfl, by kernel_rfl⟩
def c122 : ACode :=
 (.seq
 (.ops [0] [
 ox 2 .mv [.c .nils]])
 (.seq
 (.ops [0, 3] [
 ox 3 .mv [.c .nils]])
 (.seq
 (.seq
 (.ops [0, 3, 4] [
 ox 4 .mv [.c (.int .i64 0)]])
 (.block 0
 (.loop [0, 3, 4]
 (.seq
 (.seq
 (.ops [0, 3, 4, 10] [
 ox 9 .mv [.t 4],
 ox 10 (.cmp .lss) [.t 9, .c (.int .i64 4)]])
 (.cond (.t 10)
 .skip
 (.exit 0)))
 (.seq
 (.block 1
 (.seq
 (.drawn [0, 3, 4, 5, 6, 7, 8] [
 ox 13 .mv [.t 0],
 ox 14 .mv [.t 4],
 ox 15 (.arith .mul) [.c (.int .i64 4), .t 14],
 ox 16 (.idxAddr 1) [.t 13, .t 15],
 ox 17 (.load false 1) [.t 16],
 ox 18 .mv [.t 0],
 ox 19 .mv [.t 4],
 ox 20 (.arith .mul) [.c (.int .i64 4), .t 19],
 ox 21 (.arith .add) [.t 20, .c (.int .i64 1)],
 ox 22 (.idxAddr 1) [.t 18, .t 21],
 ox 23 (.load false 1) [.t 22],
 ox 24 .mv [.t 0],
 ox 25 .mv [.t 4],
 ox 26 (.arith .mul) [.c (.int .i64 4), .t 25],
 ox 27 (.arith .add) [.t 26, .c (.int .i64 2)],
 ox 28 (.idxAddr 1) [.t 24, .t 27],
 ox 29 (.load false 1) [.t 28],
 ox 30 .mv [.t 0],
 ox 31 .mv [.t 4],
 ox 32 (.arith .mul) [.c (.int .i64 4), .t 31],
 ox 33 (.arith .add) [.t 32, .c (.int .i64 3)],
 ox 34 (.idxAddr 1) [.t 30, .t 33],
 ox 35 (.load false 1) [.t 34],
 ox 5 .mv [.t 17],
 ox 6 .mv [.t 23],
 ox 7 .mv [.t 29],
 ox 8 .mv [.t 35]])
 (.ops [0, 3, 4] [
 ox 36 .mv [.t 3],
 ox 37 .mv [.t 5],
 ox 38 (.call 118) [.c (.int .u8 2), .t 37],
 ox 39 .mv [.t 6],
 ox 40 (.call 118) [.c (.int .u8 3), .t 39],
 ox 41 (.arith .xor) [.t 38, .t 40],
 ox 42 .mv [.t 7],
 ox 43 (.arith .xor) [.t 41, .t 42],
 ox 44 .mv [.t 8],
 ox 45 (.arith .xor) [.t 43, .t 44],
 ox 46 .mv [.t 5],
 ox 47 .mv [.t 6],
 ox 48 (.call 118) [.c (.int .u8 2), .t 47],
 ox 49 (.arith .xor) [.t 46, .t 48],
 ox 50 .mv [.t 7],
 ox 51 (.call 118) [.c (.int .u8 3), .t 50],
 ox 52 (.arith .xor) [.t 49, .t 51],
 ox 53 .mv [.t 8],
 ox 54 (.arith .xor) [.t 52, .t 53],
 ox 55 .mv [.t 5],
 ox 56 .mv [.t 6],
 ox 57 (.arith .xor) [.t 55, .t 56],
 ox 58 .mv [.t 7],
 ox 59 (.call 118) [.c (.int .u8 2), .t 58],
 ox 60 (.arith .xor) [.t 57, .t 59],
 ox 61 .mv [.t 8],
 ox 62 (.call 118) [.c (.int .u8 3), .t 61],
 ox 63 (.arith .xor) [.t 60, .t 62],
 ox 64 .mv [.t 5],
 ox 65 (.call 118) [.c (.int .u8 3), .t 64],
 ox 66 .mv [.t 6],
 ox 67 (.arith .xor) [.t 65, .t 66],
 ox 68 .mv [.t 7],
 ox 69 (.arith .xor) [.t 67, .t 68],
 ox 70 .mv [.t 8],
 ox 71 (.call 118) [.c (.int .u8 2), .t 70],
 ox 72 (.arith .xor) [.t 69, .t 71],
 ox 73 (.mkSl 4 [.int .u8 0, .int .u8 0, .int .u8 0, .int .u8 0] [(0, 1), (1, 1), (2, 1), (3, 1)]) [.t 45, .t 54, .t 63, .t 72],
 ox 74 (.append 1 1) [.t 36, .t 73],
 ox 3 .mv [.t 74]])))
 (.ops [0, 3, 4] [
 ox 11 .mv [.t 4],
 ox 12 (.arith .add) [.t 11, .c (.int .i64 1)],
 ox 4 .mv [.t 12]]))))))
 (.seq
 (.ops [2] [
 ox 75 .mv [.t 3],
 ox 2 .mv [.t 75]])
 .ret))))
def r122 : List ARes := [.tmp 2]
theorem ok122 : FnOk Tryz.prog 122 c122 r122 :=
 ⟨Tryz.f122, _, Tryz.func122, by kernel_rfl, rfl, by kernel_rfl, by kernel_rfl⟩
def c138 : ACode :=
 (.seq
 (.ops [0, 1, 2, 3, 4] [
 ox 10 .mv [.c .nils],
 ox 11 .mv [.c (.bool false)]])
 (.seq
 (.ops [0, 1, 2, 3, 4, 12] [
 ox 13 .mv [.t 4],
 ox 14 .len [.t 13],
 ox 15 (.arith .sub) [.t 14, .c (.int .i64 32)],
 ox 12 .mv [.t 15]])
 (.seq
 (.seq
 (.ops [0, 1, 2, 3, 4, 12, 24] [
 ox 16 .mv [.t 1],
 ox 17 .mv [.t 2],
 ox 18 (.mkSl 2 [.int .i64 0, .int .i64 0] [(0, 1), (1, 1)]) [.t 16, .t 17],
 ox 19 (.call 141) [.t 18],
 ox 20 .not [.t 19],
 ox 21 .mv [.t 20],
 og 22 .mv [.t 12] 21 false,
 og 23 (.cmp .lss) [.t 22, .c (.int .i64 0)] 21 false,
 ox 24 .pick [.t 21, .c (.bool true), .t 23]])
 (.cond (.t 24)
 (.seq
 (.ops [10, 11] [
 ox 10 .mv [.c .nils],
 ox 11 .mv [.c (.bool false)]])
 .ret)
 .skip))
 (.seq
 (.seq
 (.drawn [0, 1, 2, 4, 12, 39] [
 ox 25 .mv [.t 0],
 ox 26 .mv [.t 1],
 ox 27 .mv [.t 2],
 ox 28 .mv [.t 3],
 ox 29 .mv [.t 4],
 ox 30 .mv [.t 12],
 ox 31 (.slice 1 false true false) [.t 29, .t 30],
 od 32 (.call 143) [.t 25, .t 26, .t 27, .t 28, .t 31] 0 1,
 od 33 .mv [.t 4] 0 1,
 od 34 .mv [.t 12] 0 1,
 od 35 (.slice 1 true false false) [.t 33, .t 34] 0 1,
 od 36 (.arrPtr 32) [.t 35] 0 1,
 od 37 (.load true 32) [.t 36] 0 1,
 od 38 (.call 142) [.t 32, .t 37] 1 2,
 od 39 .not [.t 38] 2 2])
 (.cond (.t 39)
 (.seq
 (.ops [10, 11] [
 ox 10 .mv [.c .nils],
 ox 11 .mv [.c (.bool false)]])
 .ret)
 .skip))
 (.seq
 (.drawn [10, 11] [
 ox 40 .mv [.t 0],
 ox 41 .nilCheck [.t 40],
 ox 42 (.fieldAddr 0) [.t 41],
 ox 43 (.load false 1) [.t 42],
 ox 44 .mv [.t 1],
 ox 45 .mv [.t 2],
 ox 46 .mv [.t 4],
 ox 47 .mv [.t 12],
 ox 48 (.slice 1 false true false) [.t 46, .t 47],
 od 49 (.call 144) [.t 43, .t 44, .t 45, .t 48] 0 1,
 od 10 .mv [.t 49] 1 1,
 od 11 .mv [.c (.bool true)] 1 1])
 .ret)))))
def r138 : List ARes := [.tmp 10, .tmp 11]
theorem ok138 : FnOk Tryz.prog 138 c138 r138 :=
 ⟨Tryz.f138, _, Tryz.func138, by kernel_rfl, rfl, by kernel_rfl, by kernel_rfl⟩
def c139 : ACode :=
 (.seq
 (.ops [0, 1, 2, 3, 4] [
 ox 10 .mv [.c .nils]])
 (.seq
 (.seq
 (.ops [0, 1, 2, 3, 4, 17] [
 ox 13 .mv [.t 1],
 ox 14 .mv [.t 2],
 ox 15 (.mkSl 2 [.int .i64 0, .int .i64 0] [(0, 1), (1, 1)]) [.t 13, .t 14],
 ox 16 (.call 141) [.t 15],
 ox 17 .not [.t 16]])
 (.cond (.t 17)
 (.seq
 (.ops [10] [
 ox 10 .mv [.c .nils]])
 .ret)
 .skip))
 (.seq
 (.ops [0, 1, 2, 3, 11] [
 ox 18 .mv [.t 0],
 ox 19 .nilCheck [.t 18],
 ox 20 (.fieldAddr 0) [.t 19],
 ox 21 (.load false 1) [.t 20],
 ox 22 .mv [.t 1],
 ox 23 .mv [.t 2],
 ox 24 .mv [.t 4],
 ox 25 (.call 144) [.t 21, .t 22, .t 23, .t 24],
 ox 11 .mv [.t 25]])
 (.seq
 (.ops [11, 12] [
 ox 26 .mv [.t 0],
 ox 27 .mv [.t 1],
 ox 28 .mv [.t 2],
 ox 29 .mv [.t 3],
 ox 30 .mv [.t 11],
 ox 31 (.call 143) [.t 26, .t 27, .t 28, .t 29, .t 30],
 ox 12 (.alloc (List.replicate 32 (.int .u8 0))) [],
 oy (.store 32) [.t 12, .t 31]])
 (.seq
 (.ops [10] [
 ox 32 .mv [.t 11],
 ox 33 (.sliceArr 32 1 false false false) [.t 12],
 ox 34 (.mkSl 2 [.nils, .nils] [(0, 1), (1, 1)]) [.t 32, .t 33],
 ox 35 (.call 145) [.t 34],
 ox 10 .mv [.t 35]])
 .ret)))))
def r139 : List ARes := [.tmp 10]
theorem ok139 : FnOk Tryz.prog 139 c139 r139 :=
 ⟨Tryz.f139, _, Tryz.func139, by kernel_rfl, rfl, by kernel_rfl, by kernel_rfl⟩
def c140 : ACode :=
 (.seq
 (.ops [1, 4] [
 ox 4 (.alloc (List.replicate 32 (.int .u8 0))) []])
 (.seq
 (.ops [4] [
 ox 5 .mv [.t 1],
 ox 6 (.call 96) [.t 5],
 oy (.store 32) [.t 4, .t 6]])
 .ret))
def r140 : List ARes := [.cell 4 true 32]
theorem ok140 : FnOk Tryz.prog 140 c140 r140 :=
 ⟨Tryz.f140, _, Tryz.func140, by kernel_rfl, rfl, by kernel_rfl, by kernel_rfl⟩
def c141 : ACode :=
 (.seq
 (.ops [0] [
 ox 2 .mv [.c (.bool false)]])
 (.seq
 (.seq
 (.ops [5, 6, 7] [
 ox 5 .mv [.t 0],
 ox 6 .len [.t 5],
 ox 7 .mv [.c (.int .i64 0)]])
 (.block 0
 (.loop [5, 6, 7]
 (.seq
 (.ops [5, 6, 7, 8] [
 ox 8 (.cmp .lss) [.t 7, .t 6]])
 (.seq
 (.cond (.t 8)
 .skip
 (.exit 0))
 (.seq
 (.block 1
 (.seq
 (.ops [4, 5, 6, 7] [
 ox 9 (.idxAddr 1) [.t 5, .t 7],
 ox 10 (.load false 1) [.t 9],
 ox 4 .mv [.t 10]])
 (.seq
 (.ops [5, 6, 7, 16] [
 ox 11 .mv [.t 4],
 ox 12 (.cmp .lss) [.t 11, .c (.int .i64 0)],
 ox 13 .mv [.t 12],
 og 14 .mv [.t 4] 13 false,
 og 15 (.cmp .gtr) [.t 14, .c (.int .i64 1099511627776)] 13 false,
 ox 16 .pick [.t 13, .c (.bool true), .t 15]])
 (.cond (.t 16)
 (.seq
 (.ops [2] [
 ox 2 .mv [.c (.bool false)]])
 .ret)
 .skip))))
 (.ops [5, 6, 7] [
 ox 17 (.arith .add) [.t 7, .c (.int .i64 1)],
 ox 7 .mv [.t 17]])))))))
 (.seq
 (.ops [2] [
 ox 2 .mv [.c (.bool true)]])
 .ret)))
def r141 : List ARes := [.tmp 2]
theorem ok141 : FnOk Tryz.prog 141 c141 r141 :=
 ⟨Tryz.f141, _, Tryz.func141, by kernel_rfl, rfl, by kernel_rfl, by kernel_rfl⟩
def c142 : ACode :=
 (.seq
 (.ops [2, 3] [
 ox 2 .box [.t 0],
 ox 3 .box [.t 1],
 ox 4 .mv [.c (.bool false)]])
 (.seq
 (.ops [2, 3, 5] [
 ox 5 .mv [.c (.int .u8 0)]])
 (.seq
 (.seq
 (.ops [2, 3, 5, 7] [
 ox 7 .mv [.c (.int .i64 0)]])
 (.block 0
 (.loop [2, 3, 5, 7]
 (.seq
 (.ops [2, 3, 5, 7, 8] [
 ox 8 (.cmp .lss) [.t 7, .c (.int .i64 32)]])
 (.seq
 (.cond (.t 8)
 .skip
 (.exit 0))
 (.seq
 (.block 1
 (.seq
 (.ops [2, 3, 5, 6, 7] [
 ox 9 .mv [.t 7],
 ox 6 .mv [.t 9]])
 (.drawn [2, 3, 5, 7] [
 ox 10 .mv [.t 5],
 ox 11 .mv [.t 6],
 ox 12 (.idxAddrArr 32 1) [.t 2, .t 11],
 ox 13 (.load false 1) [.t 12],
 ox 14 .mv [.t 6],
 ox 15 (.idxAddrArr 32 1) [.t 3, .t 14],
 ox 16 (.load false 1) [.t 15],
 ox 17 (.arith .xor) [.t 13, .t 16],
 ox 18 (.arith .or) [.t 10, .t 17],
 ox 5 .mv [.t 18]])))
 (.ops [2, 3, 5, 7] [
 ox 19 (.arith .add) [.t 7, .c (.int .i64 1)],
 ox 7 .mv [.t 19]])))))))
 (.seq
 (.ops [4] [
 ox 20 .mv [.t 5],
 ox 21 (.eq false .int) [.t 20, .c (.int .u8 0)],
 ox 4 .mv [.t 21]])
 .ret))))
def r142 : List ARes := [.tmp 4]
theorem ok142 : FnOk Tryz.prog 142 c142 r142 :=
 ⟨Tryz.f142, _, Tryz.func142, by kernel_rfl, rfl, by kernel_rfl, by kernel_rfl⟩
def c143 : ACode :=
 (.seq
 (.ops [0, 1, 2, 3, 4, 10] [
 ox 10 (.alloc (List.replicate 32 (.int .u8 0))) []])
 (.seq
 (.drawn [10] [
 od 11 .mv [.t 0] 0 4,
 od 12 .nilCheck [.t 11] 0 4,
 od 13 (.fieldAddr 1) [.t 12] 0 4,
 od 14 (.load false 1) [.t 13] 0 4,
 ox 15 .mv [.t 3],
 ox 16 .len [.t 15],
 od 17 (.call 146) [.t 16] 0 1,
 od 18 .mv [.t 3] 0 3,
 od 19 .mv [.t 1] 0 1,
 od 20 (.call 146) [.t 19] 1 2,
 od 21 .mv [.t 2] 0 2,
 od 22 (.call 146) [.t 21] 2 3,
 od 23 .mv [.t 4] 0 3,
 od 24 (.mkSl 5 [.nils, .nils, .nils, .nils, .nils] [(0, 1), (1, 1), (2, 1), (3, 1), (4, 1)]) [.t 17, .t 18, .t 20, .t 22, .t 23] 3 3,
 od 25 (.call 145) [.t 24] 3 4,
 od 26 (.call 47) [.t 14, .t 25] 4 5,
 oe (.store 32) [.t 10, .t 26] 5 6])
 .ret))
def r143 : List ARes := [.cell 10 true 32]
theorem ok143 : FnOk Tryz.prog 143 c143 r143 :=
 ⟨Tryz.f143, _, Tryz.func143, by kernel_rfl, rfl, by kernel_rfl, by kernel_rfl⟩
def c144 : ACode :=
 (.seq
 (.ops [0, 1, 2, 3] [
 ox 8 .mv [.c .nils]])
 (.seq
 (.ops [3, 9] [
 ox 13 .mv [.t 0],
 ox 14 .mv [.t 1],
 ox 15 .mv [.t 2],
 ox 16 (.call 147) [.t 13, .t 14, .t 15],
 ox 9 .mv [.t 16]])
 (.seq
 (.ops [3, 9, 10] [
 ox 17 .mv [.t 3],
 ox 18 .len [.t 17],
 ox 19 (.mkSlice [.int .u8 0] 1) [.t 18, .t 18],
 ox 10 .mv [.t 19]])
 (.seq
 (.seq
 (.ops [9, 10, 20, 21, 22] [
 ox 20 .mv [.t 3],
 ox 21 .len [.t 20],
 ox 22 .mv [.c (.int .i64 0)]])
 (.block 0
 (.loop [9, 10, 20, 21, 22]
 (.seq
 (.ops [9, 10, 20, 21, 22, 23] [
 ox 23 (.cmp .lss) [.t 22, .t 21]])
 (.seq
 (.cond (.t 23)
 .skip
 (.exit 0))
 (.seq
 (.block 1
 (.seq
 (.ops [9, 10, 11, 12, 20, 21, 22] [
 ox 24 .mv [.t 22],
 ox 25 (.idxAddr 1) [.t 20, .t 22],
 ox 26 (.load false 1) [.t 25],
 ox 11 .mv [.t 24],
 ox 12 .mv [.t 26]])
 (.ops [9, 10, 20, 21, 22] [
 ox 27 .mv [.t 10],
 ox 28 .mv [.t 11],
 ox 29 .mv [.t 12],
 ox 30 .mv [.t 9],
 ox 31 .callv [.t 30],
 ox 32 (.arith .xor) [.t 29, .t 31],
 ox 33 (.idxAddr 1) [.t 27, .t 28],
 oy (.store 1) [.t 33, .t 32]])))
 (.ops [9, 10, 20, 21, 22] [
 ox 34 (.arith .add) [.t 22, .c (.int .i64 1)],
 ox 22 .mv [.t 34]])))))))
 (.seq
 (.ops [8] [
 ox 35 .mv [.t 10],
 ox 8 .mv [.t 35]])
 .ret)))))
def r144 : List ARes := [.tmp 8]
theorem ok144 : FnOk Tryz.prog 144 c144 r144 :=
 ⟨Tryz.f144, _, Tryz.func144, by kernel_rfl, rfl, by kernel_rfl, by kernel_rfl⟩
def c145 : ACode :=
 (.seq
 (.ops [0] [
 ox 2 .mv [.c .nils]])
 (.seq
 (.ops [0, 3] [
 ox 3 .mv [.c .nils]])
 (.seq
 (.seq
 (.ops [3, 6, 7, 8] [
 ox 6 .mv [.t 0],
 ox 7 .len [.t 6],
 ox 8 .mv [.c (.int .i64 0)]])
 (.block 0
 (.loop [3, 6, 7, 8]
 (.seq
 (.ops [3, 6, 7, 8, 9] [
 ox 9 (.cmp .lss) [.t 8, .t 7]])
 (.seq
 (.cond (.t 9)
 .skip
 (.exit 0))
 (.seq
 (.block 1
 (.seq
 (.ops [3, 5, 6, 7, 8] [
 ox 10 (.idxAddr 1) [.t 6, .t 8],
 ox 11 (.load false 1) [.t 10],
 ox 5 .mv [.t 11]])
 (.ops [3, 6, 7, 8] [
 ox 12 .mv [.t 3],
 ox 13 .mv [.t 5],
 ox 14 (.append 1 1) [.t 12, .t 13],
 ox 3 .mv [.t 14]])))
 (.ops [3, 6, 7, 8] [
 ox 15 (.arith .add) [.t 8, .c (.int .i64 1)],
 ox 8 .mv [.t 15]])))))))
 (.seq
 (.ops [2] [
 ox 16 .mv [.t 3],
 ox 2 .mv [.t 16]])
 .ret))))
def r145 : List ARes := [.tmp 2]
theorem ok145 : FnOk Tryz.prog 145 c145 r145 :=
 ⟨Tryz.f145, _, Tryz.func145, by kernel_rfl, rfl, by kernel_rfl, by kernel_rfl⟩
def c146 : ACode :=
 (.seq
 (.ops [0] [
 ox 2 .mv [.c .nils]])
 (.seq
 (.ops [0, 3] [
 ox 3 .mv [.c .nils]])
 (.seq
 (.seq
 (.ops [0, 3, 4] [
 ox 4 .mv [.c (.int .i64 56)]])
 (.block 0
 (.loop [0, 3, 4]
 (.seq
 (.seq
 (.ops [0, 3, 4, 6] [
 ox 5 .mv [.t 4],
 ox 6 (.cmp .geq) [.t 5, .c (.int .i64 0)]])
 (.cond (.t 6)
 .skip
 (.exit 0)))
 (.seq
 (.block 1
 (.ops [0, 3, 4] [
 ox 9 .mv [.t 3],
 ox 10 .mv [.t 0],
 ox 11 .mv [.t 4],
 ox 12 (.shift .shr) [.t 10, .t 11],
 ox 13 (.conv .u8) [.t 12],
 ox 14 (.mkSl 1 [.int .u8 0] [(0, 1)]) [.t 13],
 ox 15 (.append 1 1) [.t 9, .t 14],
 ox 3 .mv [.t 15]]))
 (.ops [0, 3, 4] [
 ox 7 .mv [.t 4],
 ox 8 (.arith .sub) [.t 7, .c (.int .i64 8)],
 ox 4 .mv [.t 8]]))))))
 (.seq
 (.ops [2] [
 ox 16 .mv [.t 3],
 ox 2 .mv [.t 16]])
 .ret))))
def r146 : List ARes := [.tmp 2]
theorem ok146 : FnOk Tryz.prog 146 c146 r146 :=
 ⟨Tryz.f146, _, Tryz.func146, by kernel_rfl, rfl, by kernel_rfl, by kernel_rfl⟩
def c147 : ACode :=
 (.seq
 (.ops [1, 2, 3] [
 ox 3 .box [.t 0],
 ox 6 .mv [.c .nilf]])
 (.seq
 (.ops [1, 2, 3, 7, 8] [
 ox 7 (.alloc (List.replicate 16 (.int .u8 0))) [],
 ox 8 (.alloc (List.replicate 16 (.int .u8 0))) []])
 (.seq
 (.ops [2, 3, 7, 8] [
 ox 11 (.sliceArr 16 1 false true true) [.t 7, .c (.int .i64 6), .c (.int .i64 6)],
 ox 12 .mv [.t 1],
 ox 13 (.conv .u64) [.t 12],
 ox 14 (.call 148) [.t 11, .t 13]])
 (.seq
 (.ops [3, 7, 8] [
 ox 15 (.sliceArr 16 1 true true true) [.t 7, .c (.int .i64 6), .c (.int .i64 12), .c (.int .i64 12)],
 ox 16 .mv [.t 2],
 ox 17 (.conv .u64) [.t 16],
 ox 18 (.call 148) [.t 15, .t 17]])
 (.seq
 (.ops [3, 7, 8, 9, 10] [
 ox 9 (.alloc [.int .i64 0]) [],
 ox 10 (.alloc [.int .u64 0]) [],
 oy (.store 1) [.t 9, .c (.int .i64 16)],
 oy (.store 1) [.t 10, .c (.int .u64 0)]])
 (.seq
 (.ops [6] [
 ox 19 (.mkFn (.func 149) 0) [.t 9, .t 7, .t 10, .t 3, .t 8],
 ox 6 .mv [.t 19]])
 .ret))))))
def r147 : List ARes := [.tmp 6]
theorem ok147 : FnOk Tryz.prog 147 c147 r147 :=
 ⟨Tryz.f147, _, Tryz.func147, by kernel_rfl, rfl, by kernel_rfl, by kernel_rfl⟩
def c148 : ACode :=
 (.seq
 (.ops [0, 1, 6, 7] [
 ox 5 .mv [.t 0],
 ox 6 .len [.t 5],
 ox 7 .mv [.c (.int .i64 0)]])
 (.block 0
 (.loop [0, 1, 6, 7]
 (.seq
 (.ops [0, 1, 6, 7, 8] [
 ox 8 (.cmp .lss) [.t 7, .t 6]])
 (.seq
 (.cond (.t 8)
 .skip
 (.exit 0))
 (.seq
 (.block 1
 (.seq
 (.ops [0, 1, 4, 6, 7] [
 ox 9 .mv [.t 7],
 ox 4 .mv [.t 9]])
 (.ops [0, 1, 6, 7] [
 ox 10 .mv [.t 0],
 ox 11 .mv [.t 4],
 ox 12 .mv [.t 1],
 ox 13 .mv [.t 0],
 ox 14 .len [.t 13],
 ox 15 (.arith .sub) [.t 14, .c (.int .i64 1)],
 ox 16 .mv [.t 4],
 ox 17 (.arith .sub) [.t 15, .t 16],
 ox 18 (.arith .mul) [.c (.int .i64 8), .t 17],
 ox 19 (.shift .shr) [.t 12, .t 18],
 ox 20 (.conv .u8) [.t 19],
 ox 21 (.idxAddr 1) [.t 10, .t 11],
 oy (.store 1) [.t 21, .t 20]])))
 (.ops [0, 1, 6, 7] [
 ox 22 (.arith .add) [.t 7, .c (.int .i64 1)],
 ox 7 .mv [.t 22]])))))))
def r148 : List ARes := []
theorem ok148 : FnOk Tryz.prog 148 c148 r148 :=
 ⟨Tryz.f148, _, Tryz.func148, by kernel_rfl, rfl, by kernel_rfl, by kernel_rfl⟩
def c149 : ACode :=
 (.seq
 (.ops [0, 1, 2, 3, 4] [
 ox 5 .mv [.c (.int .u8 0)]])
 (.seq
 (.seq
 (.ops [0, 1, 2, 3, 4, 7] [
 ox 6 (.load false 1) [.t 0],
 ox 7 (.eq false .int) [.t 6, .c (.int .i64 16)]])
 (.cond (.t 7)
 (.seq
 (.drawn [0, 1, 2, 3, 4] [
 ox 8 (.sliceArr 16 1 true false false) [.t 1, .c (.int .i64 12)],
 ox 9 (.load false 1) [.t 2],
 od 10 (.call 148) [.t 8, .t 9] 0 1])
 (.seq
 (.ops [0, 2, 4] [
 ox 11 (.load false 1) [.t 3],
 ox 12 (.load true 16) [.t 1],
 ox 13 (.call 150) [.t 11, .t 12],
 oy (.store 16) [.t 4, .t 13]])
 (.drawn [0, 4] [
 od 14 (.load false 1) [.t 2] 0 1,
 od 15 (.arith .add) [.t 14, .c (.int .u64 1)] 0 1,
 oe (.store 1) [.t 0, .c (.int .i64 0)] 0 1,
 oe (.store 1) [.t 2, .t 15] 1 2])))
 .skip))
 (.seq
 (.ops [0, 4] [
 ox 16 (.load false 1) [.t 0],
 ox 17 (.arith .add) [.t 16, .c (.int .i64 1)],
 oy (.store 1) [.t 0, .t 17]])
 (.seq
 (.ops [5] [
 ox 18 (.load false 1) [.t 0],
 ox 19 (.arith .sub) [.t 18, .c (.int .i64 1)],
 ox 20 (.idxAddrArr 16 1) [.t 4, .t 19],
 ox 21 (.load false 1) [.t 20],
 ox 5 .mv [.t 21]])
 .ret))))
def r149 : List ARes := [.tmp 5]
theorem ok149 : FnOk Tryz.prog 149 c149 r149 :=
 ⟨Tryz.f149, _, Tryz.func149, by kernel_rfl, rfl, by kernel_rfl, by kernel_rfl⟩
def c150 : ACode :=
 (.seq
 (.ops [0, 3, 4] [
 ox 3 .box [.t 1],
 ox 4 (.alloc (List.replicate 16 (.int .u8 0))) []])
 (.seq
 (.drawn [0, 4, 5] [
 ox 10 (.load true 16) [.t 3],
 ox 11 .mv [.t 0],
 ox 12 .nilCheck [.t 11],
 ox 13 (.fieldAddr 0) [.t 12],
 ox 14 (.load false 1) [.t 13],
 ox 15 (.idxAddr 16) [.t 14, .c (.int .i64 0)],
 ox 16 (.load true 16) [.t 15],
 od 17 (.call 151) [.t 10, .t 16] 0 1,
 od 5 (.alloc (List.replicate 16 (.int .u8 0))) [] 0 1,
 oe (.store 16) [.t 5, .t 17] 1 2])
 (.seq
 (.seq
 (.ops [0, 4, 5, 22, 23, 24] [
 ox 18 .mv [.t 0],
 ox 19 .nilCheck [.t 18],
 ox 20 (.fieldAddr 0) [.t 19],
 ox 21 (.load false 1) [.t 20],
 ox 22 (.slice 16 true false false) [.t 21, .c (.int .i64 1)],
 ox 23 .len [.t 22],
 ox 24 .mv [.c (.int .i64 0)]])
 (.block 0
 (.loop [0, 4, 5, 22, 23, 24]
 (.seq
 (.ops [0, 4, 5, 22, 23, 24, 25] [
 ox 25 (.cmp .lss) [.t 24, .t 23]])
 (.seq
 (.cond (.t 25)
 .skip
 (.exit 0))
 (.seq
 (.block 1
 (.seq
 (.ops [0, 4, 5, 6, 7, 22, 23, 24] [
 ox 26 .mv [.t 24],
 ox 27 (.idxAddr 16) [.t 22, .t 24],
 ox 28 (.load true 16) [.t 27],
 ox 7 (.alloc (List.replicate 16 (.int .u8 0))) [],
 ox 6 .mv [.t 26],
 oy (.store 16) [.t 7, .t 28]])
 (.seq
 (.ops [0, 4, 5, 6, 7, 8, 22, 23, 24] [
 ox 8 (.alloc (List.replicate 16 (.int .u8 0))) []])
 (.seq
 (.seq
 (.ops [0, 4, 5, 6, 7, 8, 22, 23, 24, 29] [
 ox 29 .mv [.c (.int .i64 0)]])
 (.block 2
 (.loop [0, 4, 5, 6, 7, 8, 22, 23, 24, 29]
 (.seq
 (.ops [0, 4, 5, 6, 7, 8, 22, 23, 24, 29, 30] [
 ox 30 (.cmp .lss) [.t 29, .c (.int .i64 16)]])
 (.seq
 (.cond (.t 30)
 .skip
 (.exit 2))
 (.seq
 (.block 3
 (.seq
 (.ops [0, 4, 5, 6, 7, 8, 9, 22, 23, 24, 29] [
 ox 31 .mv [.t 29],
 ox 9 .mv [.t 31]])
 (.drawn [0, 4, 5, 6, 7, 8, 22, 23, 24, 29] [
 ox 32 .mv [.t 9],
 ox 33 .mv [.t 0],
 ox 34 .mv [.t 9],
 ox 35 .mv [.t 9],
 ox 36 (.arith .rem) [.t 35, .c (.int .i64 4)],
 ox 37 (.arith .mul) [.c (.int .i64 4), .t 36],
 ox 38 (.arith .add) [.t 34, .t 37],
 ox 39 (.arith .rem) [.t 38, .c (.int .i64 16)],
 ox 40 (.idxAddrArr 16 1) [.t 5, .t 39],
 ox 41 (.load false 1) [.t 40],
 ox 42 .nilCheck [.t 33],
 ox 43 (.fieldAddr 1) [.t 42],
 ox 44 (.idxAddrArr 256 1) [.t 43, .t 41],
 ox 45 (.load false 1) [.t 44],
 ox 46 (.idxAddrArr 16 1) [.t 8, .t 32],
 oe (.store 1) [.t 46, .t 45] 0 1])))
 (.ops [0, 4, 5, 6, 7, 8, 22, 23, 24, 29] [
 ox 47 (.arith .add) [.t 29, .c (.int .i64 1)],
 ox 29 .mv [.t 47]])))))))
 (.seq
 (.seq
 (.ops [0, 4, 5, 7, 8, 22, 23, 24, 55] [
 ox 48 .mv [.t 6],
 ox 49 .mv [.t 0],
 ox 50 .nilCheck [.t 49],
 ox 51 (.fieldAddr 0) [.t 50],
 ox 52 (.load false 1) [.t 51],
 ox 53 .len [.t 52],
 ox 54 (.arith .sub) [.t 53, .c (.int .i64 2)],
 ox 55 (.cmp .lss) [.t 48, .t 54]])
 (.cond (.t 55)
 (.ops [0, 4, 5, 7, 8, 22, 23, 24] [
 ox 56 (.load true 16) [.t 8],
 ox 57 (.call 152) [.t 56],
 oy (.store 16) [.t 8, .t 57]])
 .skip))
 (.ops [0, 4, 5, 22, 23, 24] [
 ox 58 (.load true 16) [.t 8],
 ox 59 (.load true 16) [.t 7],
 ox 60 (.call 151) [.t 58, .t 59],
 oy (.store 16) [.t 5, .t 60]]))))))
 (.ops [0, 4, 5, 22, 23, 24] [
 ox 61 (.arith .add) [.t 24, .c (.int .i64 1)],
 ox 24 .mv [.t 61]])))))))
 (.seq
 (.ops [4] [
 ox 62 (.load true 16) [.t 5],
 oy (.store 16) [.t 4, .t 62]])
 .ret))))
def r150 : List ARes := [.cell 4 true 16]
theorem ok150 : FnOk Tryz.prog 150 c150 r150 :=
 ⟨Tryz.f150, _, Tryz.func150, by kernel_rfl, rfl, by kernel_rfl, by kernel_rfl⟩
def c151 : ACode :=
 (.seq
 (.ops [2, 3, 4] [
 ox 2 .box [.t 0],
 ox 3 .box [.t 1],
 ox 4 (.alloc (List.replicate 16 (.int .u8 0))) []])
 (.seq
 (.seq
 (.ops [2, 3, 4, 6] [
 ox 6 .mv [.c (.int .i64 0)]])
 (.block 0
 (.loop [2, 3, 4, 6]
 (.seq
 (.ops [2, 3, 4, 6, 7] [
 ox 7 (.cmp .lss) [.t 6, .c (.int .i64 16)]])
 (.seq
 (.cond (.t 7)
 .skip
 (.exit 0))
 (.seq
 (.block 1
 (.seq
 (.ops [2, 3, 4, 5, 6] [
 ox 8 .mv [.t 6],
 ox 5 .mv [.t 8]])
 (.drawn [2, 3, 4, 6] [
 ox 9 .mv [.t 5],
 ox 10 (.idxAddrArr 16 1) [.t 2, .t 9],
 ox 11 (.load false 1) [.t 10],
 ox 12 .mv [.t 5],
 ox 13 (.idxAddrArr 16 1) [.t 3, .t 12],
 ox 14 (.load false 1) [.t 13],
 ox 15 (.arith .xor) [.t 11, .t 14],
 ox 16 (.idxAddrArr 16 1) [.t 2, .t 9],
 oe (.store 1) [.t 16, .t 15] 0 1])))
 (.ops [2, 3, 4, 6] [
 ox 17 (.arith .add) [.t 6, .c (.int .i64 1)],
 ox 6 .mv [.t 17]])))))))
 (.seq
 (.ops [4] [
 ox 18 (.load true 16) [.t 2],
 oy (.store 16) [.t 4, .t 18]])
 .ret)))
def r151 : List ARes := [.cell 4 true 16]
theorem ok151 : FnOk Tryz.prog 151 c151 r151 :=
 ⟨Tryz.f151, _, Tryz.func151, by kernel_rfl, rfl, by kernel_rfl, by kernel_rfl⟩
def c152 : ACode :=
 (.seq
 (.ops [1, 2] [
 ox 1 .box [.t 0],
 ox 2 (.alloc (List.replicate 16 (.int .u8 0))) []])
 (.seq
 (.ops [1, 2, 3] [
 ox 3 (.alloc (List.replicate 16 (.int .u8 0))) []])
 (.seq
 (.seq
 (.ops [1, 2, 3, 4] [
 ox 4 .mv [.c (.int .i64 0)]])
 (.block 0
 (.loop [1, 2, 3, 4]
 (.seq
 (.seq
 (.ops [1, 2, 3, 4, 8] [
 ox 7 .mv [.t 4],
 ox 8 (.cmp .lss) [.t 7, .c (.int .i64 16)]])
 (.cond (.t 8)
 .skip
 (.exit 0)))
 (.seq
 (.block 1
 (.seq
 (.drawn [1, 2, 3, 4, 5] [
 ox 11 .mv [.t 4],
 ox 12 (.idxAddrArr 16 1) [.t 1, .t 11],
 ox 13 (.load false 1) [.t 12],
 ox 14 .mv [.t 4],
 ox 15 (.arith .add) [.t 14, .c (.int .i64 1)],
 ox 16 (.idxAddrArr 16 1) [.t 1, .t 15],
 ox 17 (.load false 1) [.t 16],
 ox 18 (.arith .xor) [.t 13, .t 17],
 ox 19 .mv [.t 4],
 ox 20 (.arith .add) [.t 19, .c (.int .i64 2)],
 ox 21 (.idxAddrArr 16 1) [.t 1, .t 20],
 ox 22 (.load false 1) [.t 21],
 ox 23 (.arith .xor) [.t 18, .t 22],
 ox 24 .mv [.t 4],
 ox 25 (.arith .add) [.t 24, .c (.int .i64 3)],
 ox 26 (.idxAddrArr 16 1) [.t 1, .t 25],
 ox 27 (.load false 1) [.t 26],
 ox 28 (.arith .xor) [.t 23, .t 27],
 ox 5 .mv [.t 28]])
 (.seq
 (.ops [1, 2, 3, 4, 5, 29] [
 ox 29 .mv [.c (.int .i64 0)]])
 (.block 2
 (.loop [1, 2, 3, 4, 5, 29]
 (.seq
 (.ops [1, 2, 3, 4, 5, 29, 30] [
 ox 30 (.cmp .lss) [.t 29, .c (.int .i64 4)]])
 (.seq
 (.cond (.t 30)
 .skip
 (.exit 2))
 (.seq
 (.block 3
 (.seq
 (.ops [1, 2, 3, 4, 5, 6, 29] [
 ox 31 .mv [.t 29],
 ox 6 .mv [.t 31]])
 (.drawn [1, 2, 3, 4, 5, 29] [
 od 32 .mv [.t 4] 0 1,
 od 33 .mv [.t 6] 0 1,
 od 34 (.arith .add) [.t 32, .t 33] 0 1,
 od 35 .mv [.t 4] 0 1,
 od 36 .mv [.t 6] 0 1,
 od 37 (.arith .add) [.t 35, .t 36] 0 1,
 od 38 (.idxAddrArr 16 1) [.t 1, .t 37] 0 1,
 od 39 (.load false 1) [.t 38] 0 1,
 od 40 .mv [.t 5] 0 1,
 od 41 (.arith .xor) [.t 39, .t 40] 0 1,
 ox 42 .mv [.t 4],
 ox 43 .mv [.t 6],
 ox 44 (.arith .add) [.t 42, .t 43],
 ox 45 (.idxAddrArr 16 1) [.t 1, .t 44],
 ox 46 (.load false 1) [.t 45],
 ox 47 .mv [.t 4],
 ox 48 .mv [.t 6],
 ox 49 (.arith .add) [.t 48, .c (.int .i64 1)],
 ox 50 (.arith .rem) [.t 49, .c (.int .i64 4)],
 ox 51 (.arith .add) [.t 47, .t 50],
 ox 52 (.idxAddrArr 16 1) [.t 1, .t 51],
 ox 53 (.load false 1) [.t 52],
 ox 54 (.arith .xor) [.t 46, .t 53],
 od 55 (.call 49) [.t 54] 0 1,
 od 56 (.arith .xor) [.t 41, .t 55] 1 1,
 od 57 (.idxAddrArr 16 1) [.t 3, .t 34] 1 1,
 oe (.store 1) [.t 57, .t 56] 1 2])))
 (.ops [1, 2, 3, 4, 5, 29] [
 ox 58 (.arith .add) [.t 29, .c (.int .i64 1)],
 ox 29 .mv [.t 58]])))))))))
 (.ops [1, 2, 3, 4] [
 ox 9 .mv [.t 4],
 ox 10 (.arith .add) [.t 9, .c (.int .i64 4)],
 ox 4 .mv [.t 10]]))))))
 (.seq
 (.ops [2] [
 ox 59 (.load true 16) [.t 3],
 oy (.store 16) [.t 2, .t 59]])
 .ret))))
def r152 : List ARes := [.cell 2 true 16]
theorem ok152 : FnOk Tryz.prog 152 c152 r152 :=
 ⟨Tryz.f152, _, Tryz.func152, by kernel_rfl, rfl, by kernel_rfl, by kernel_rfl⟩
def c153 : ACode :=
 (.seq
 (.ops [0, 1, 2, 3, 4] [
 ox 10 .mv [.c .nils],
 ox 11 .mv [.c (.bool false)]])
 (.seq
 (.seq
 (.ops [0, 1, 2, 3, 4, 18] [
 ox 16 .mv [.t 4],
 ox 17 .len [.t 16],
 ox 18 (.cmp .lss) [.t 17, .c (.int .i64 32)]])
 (.cond (.t 18)
 (.seq
 (.ops [10, 11] [
 ox 10 .mv [.c .nils],
 ox 11 .mv [.c (.bool false)]])
 .ret)
 .skip))
 (.seq
 (.drawn [0, 1, 2, 3, 12, 13] [
 ox 19 .mv [.t 4],
 ox 20 .mv [.t 4],
 ox 21 .len [.t 20],
 ox 22 (.arith .sub) [.t 21, .c (.int .i64 32)],
 ox 23 (.slice 1 false true false) [.t 19, .t 22],
 ox 24 .mv [.t 4],
 ox 25 .mv [.t 4],
 ox 26 .len [.t 25],
 ox 27 (.arith .sub) [.t 26, .c (.int .i64 32)],
 ox 28 (.slice 1 true false false) [.t 24, .t 27],
 ox 12 .mv [.t 23],
 ox 13 .mv [.t 28]])
 (.seq
 (.drawn [12, 13, 14, 15] [
 ox 30 .mv [.t 0],
 ox 31 .nilCheck [.t 30],
 ox 32 (.fieldAddr 0) [.t 31],
 ox 33 (.load false 1) [.t 32],
 ox 34 .mv [.t 1],
 ox 35 .mv [.t 2],
 ox 36 .mv [.t 3],
 ox 37 .b2s [.t 36],
 ox 38 .mv [.t 12],
 ox 39 .b2s [.t 38],
 ox 40 (.build [.int .i64 0, .int .i64 0, .str ⟨#[]⟩, .str ⟨#[]⟩] [(0, 1), (1, 1), (2, 1), (3, 1)]) [.t 34, .t 35, .t 37, .t 39],
 ox 41 (.lookup (.agg [.i, .i, .s, .s]) (.int .i64 0) true) [.t 33, .t 40],
 ox 29 .mv [.t 41],
 ox 42 (.extract 0) [.t 29],
 ox 43 (.extract 1) [.t 29],
 ox 14 .mv [.t 42],
 ox 15 .mv [.t 43]])
 (.seq
 (.seq
 (.drawn [12, 55] [
 ox 44 .mv [.t 15],
 ox 45 .not [.t 44],
 ox 46 .mv [.t 45],
 oh 47 .mv [.t 13] 46 false 0 2,
 oh 48 (.mkSlice [.int .u8 0] 1) [.c (.int .i64 24), .c (.int .i64 24)] 46 false 0 1,
 og 49 .mv [.t 14] 46 false,
 oh 50 (.call 158) [.t 49] 46 false 0 1,
 oh 51 (.mkSl 2 [.nils, .nils] [(0, 1), (1, 1)]) [.t 48, .t 50] 46 false 1 1,
 oh 52 (.call 157) [.t 51] 46 false 1 2,
 oh 53 (.call 156) [.t 47, .t 52] 46 false 2 3,
 oh 54 .not [.t 53] 46 false 3 3,
 od 55 .pick [.t 46, .c (.bool true), .t 54] 3 3])
 (.cond (.t 55)
 (.seq
 (.ops [10, 11] [
 ox 10 .mv [.c .nils],
 ox 11 .mv [.c (.bool false)]])
 .ret)
 .skip))
 (.seq
 (.ops [10, 11] [
 ox 56 .mv [.t 12],
 ox 57 (.call 40) [.t 56],
 ox 10 .mv [.t 57],
 ox 11 .mv [.c (.bool true)]])
 .ret))))))
def r153 : List ARes := [.tmp 10, .tmp 11]
theorem ok153 : FnOk Tryz.prog 153 c153 r153 :=
 ⟨Tryz.f153, _, Tryz.func153, by kernel_rfl, rfl, by kernel_rfl, by kernel_rfl⟩
def c154 : ACode :=
 (.seq
 (.ops [0, 1, 2, 3, 4] [
 ox 10 .mv [.c .nils]])
 (.seq
 (.seq
 (.ops [0, 1, 2, 3, 4, 21] [
 ox 14 .mv [.t 1],
 ox 15 (.call 159) [.t 14],
 ox 16 .not [.t 15],
 ox 17 .mv [.t 16],
 og 18 .mv [.t 2] 17 false,
 og 19 (.call 159) [.t 18] 17 false,
 og 20 .not [.t 19] 17 false,
 ox 21 .pick [.t 17, .c (.bool true), .t 20]])
 (.cond (.t 21)
 (.seq
 (.ops [10] [
 ox 10 .mv [.c .nils]])
 .ret)
 .skip))
 (.seq
 (.ops [0, 4, 11] [
 ox 22 .mv [.t 1],
 ox 23 .mv [.t 2],
 ox 24 .mv [.t 3],
 ox 25 .b2s [.t 24],
 ox 26 .mv [.t 4],
 ox 27 .b2s [.t 26],
 ox 28 (.build [.int .i64 0, .int .i64 0, .str ⟨#[]⟩, .str ⟨#[]⟩] [(0, 1), (1, 1), (2, 1), (3, 1)]) [.t 22, .t 23, .t 25, .t 27],
 ox 11 (.alloc [.int .i64 0, .int .i64 0, .str ⟨#[]⟩, .str ⟨#[]⟩]) [],
 oy (.store 4) [.t 11, .t 28]])
 (.seq
 (.drawn [0, 4, 11, 12, 13] [
 ox 30 .mv [.t 0],
 ox 31 .nilCheck [.t 30],
 ox 32 (.fieldAddr 0) [.t 31],
 ox 33 (.load false 1) [.t 32],
 ox 34 (.load true 4) [.t 11],
 ox 35 (.lookup (.agg [.i, .i, .s, .s]) (.int .i64 0) true) [.t 33, .t 34],
 ox 29 .mv [.t 35],
 ox 36 (.extract 0) [.t 29],
 ox 37 (.extract 1) [.t 29],
 ox 12 .mv [.t 36],
 ox 13 .mv [.t 37]])
 (.seq
 (.seq
 (.ops [0, 4, 11, 12, 39] [
 ox 38 .mv [.t 13],
 ox 39 .not [.t 38]])
 (.cond (.t 39)
 (.seq
 (.drawn [0, 4, 11] [
 od 40 .mv [.t 0] 0 1,
 ox 41 .mv [.t 0],
 ox 42 .nilCheck [.t 41],
 ox 43 (.fieldAddr 1) [.t 42],
 ox 44 (.load false 1) [.t 43],
 ox 45 (.load true 4) [.t 11],
 ox 46 (.mkSl 1 [.int .i64 0, .int .i64 0, .str ⟨#[]⟩, .str ⟨#[]⟩] [(0, 4)]) [.t 45],
 od 47 (.append 4 48) [.t 44, .t 46] 0 1,
 od 48 .nilCheck [.t 40] 1 1,
 od 49 (.fieldAddr 1) [.t 48] 1 1,
 oe (.store 1) [.t 49, .t 47] 1 2])
 (.seq
 (.ops [0, 4, 11, 12] [
 ox 50 .mv [.t 0],
 ox 51 .nilCheck [.t 50],
 ox 52 (.fieldAddr 1) [.t 51],
 ox 53 (.load false 1) [.t 52],
 ox 54 .len [.t 53],
 ox 12 .mv [.t 54]])
 (.drawn [4, 12] [
 ox 55 .mv [.t 0],
 ox 56 .nilCheck [.t 55],
 ox 57 (.fieldAddr 0) [.t 56],
 ox 58 (.load false 1) [.t 57],
 ox 59 (.load true 4) [.t 11],
 ox 60 .mv [.t 12],
 oe (.mapSet (.agg [.i, .i, .s, .s])) [.t 58, .t 59, .t 60] 0 1])))
 .skip))
 (.seq
 (.drawn [10] [
 od 61 .mv [.t 4] 0 1,
 od 62 (.mkSlice [.int .u8 0] 1) [.c (.int .i64 24), .c (.int .i64 24)] 0 1,
 ox 63 .mv [.t 12],
 od 64 (.call 158) [.t 63] 0 1,
 od 65 (.mkSl 3 [.nils, .nils, .nils] [(0, 1), (1, 1), (2, 1)]) [.t 61, .t 62, .t 64] 1 1,
 od 66 (.call 157) [.t 65] 1 2,
 od 10 .mv [.t 66] 2 2])
 .ret))))))
def r154 : List ARes := [.tmp 10]
theorem ok154 : FnOk Tryz.prog 154 c154 r154 :=
 ⟨Tryz.f154, _, Tryz.func154, by kernel_rfl, rfl, by kernel_rfl, by kernel_rfl⟩
def c155 : ACode :=
 (.seq
 (.ops [0, 1, 4] [
 ox 4 (.alloc (List.replicate 32 (.int .u8 0))) []])
 (.seq
 (.drawn [0, 1, 4, 5, 6] [
 ox 10 .mv [.t 0],
 ox 11 .nilCheck [.t 10],
 ox 12 (.fieldAddr 2) [.t 11],
 ox 13 (.load false 1) [.t 12],
 ox 14 .mv [.t 1],
 ox 15 .b2s [.t 14],
 ox 16 (.lookup (.one .s) (.int .i64 0) true) [.t 13, .t 15],
 ox 9 .mv [.t 16],
 ox 17 (.extract 0) [.t 9],
 ox 18 (.extract 1) [.t 9],
 ox 5 .mv [.t 17],
 ox 6 .mv [.t 18]])
 (.seq
 (.seq
 (.ops [0, 1, 4, 5, 20] [
 ox 19 .mv [.t 6],
 ox 20 .not [.t 19]])
 (.cond (.t 20)
 (.seq
 (.ops [0, 1, 4, 5] [
 ox 21 .mv [.t 0],
 ox 22 .nilCheck [.t 21],
 ox 23 (.fieldAddr 2) [.t 22],
 ox 24 (.load false 1) [.t 23],
 ox 25 .lenMap [.t 24],
 ox 26 (.arith .add) [.t 25, .c (.int .i64 1)],
 ox 5 .mv [.t 26]])
 (.drawn [4, 5] [
 ox 27 .mv [.t 0],
 ox 28 .nilCheck [.t 27],
 ox 29 (.fieldAddr 2) [.t 28],
 ox 30 (.load false 1) [.t 29],
 ox 31 .mv [.t 1],
 ox 32 .b2s [.t 31],
 ox 33 .mv [.t 5],
 oe (.mapSet (.one .s)) [.t 30, .t 32, .t 33] 0 1]))
 .skip))
 (.seq
 (.ops [4, 5, 7] [
 ox 7 (.alloc (List.replicate 32 (.int .u8 0))) []])
 (.seq
 (.seq
 (.ops [4, 5, 7, 34] [
 ox 34 .mv [.c (.int .i64 0)]])
 (.block 0
 (.loop [4, 5, 7, 34]
 (.seq
 (.ops [4, 5, 7, 34, 35] [
 ox 35 (.cmp .lss) [.t 34, .c (.int .i64 32)]])
 (.seq
 (.cond (.t 35)
 .skip
 (.exit 0))
 (.seq
 (.block 1
 (.seq
 (.ops [4, 5, 7, 8, 34] [
 ox 36 .mv [.t 34],
 ox 8 .mv [.t 36]])
 (.ops [4, 5, 7, 34] [
 ox 37 .mv [.t 8],
 ox 38 (.idxAddrArr 32 1) [.t 7, .t 37],
 oy (.store 1) [.t 38, .c (.int .u8 1)]])))
 (.ops [4, 5, 7, 34] [
 ox 39 (.arith .add) [.t 34, .c (.int .i64 1)],
 ox 34 .mv [.t 39]])))))))
 (.seq
 (.drawn [4, 7] [
 od 40 (.sliceArr 32 1 true false false) [.t 7, .c (.int .i64 24)] 0 1,
 ox 41 .mv [.t 5],
 od 42 (.call 158) [.t 41] 0 1,
 od 43 (.copy 1) [.t 40, .t 42] 1 2])
 (.seq
 (.ops [4] [
 ox 44 (.load true 32) [.t 7],
 oy (.store 32) [.t 4, .t 44]])
 .ret)))))))
def r155 : List ARes := [.cell 4 true 32]
theorem ok155 : FnOk Tryz.prog 155 c155 r155 :=
 ⟨Tryz.f155, _, Tryz.func155, by kernel_rfl, rfl, by kernel_rfl, by kernel_rfl⟩
def c156 : ACode :=
 (.seq
 (.ops [0, 1] [
 ox 4 .mv [.c (.bool false)]])
 (.seq
 (.seq
 (.ops [0, 1, 10] [
 ox 6 .mv [.t 0],
 ox 7 .len [.t 6],
 ox 8 .mv [.t 1],
 ox 9 .len [.t 8],
 ox 10 (.eq true .int) [.t 7, .t 9]])
 (.cond (.t 10)
 (.seq
 (.ops [4] [
 ox 4 .mv [.c (.bool false)]])
 .ret)
 .skip))
 (.seq
 (.seq
 (.ops [0, 1, 12, 13] [
 ox 11 .mv [.t 0],
 ox 12 .len [.t 11],
 ox 13 .mv [.c (.int .i64 0)]])
 (.block 0
 (.loop [0, 1, 12, 13]
 (.seq
 (.ops [0, 1, 12, 13, 14] [
 ox 14 (.cmp .lss) [.t 13, .t 12]])
 (.seq
 (.cond (.t 14)
 .skip
 (.exit 0))
 (.seq
 (.block 1
 (.seq
 (.ops [0, 1, 5, 12, 13] [
 ox 15 .mv [.t 13],
 ox 5 .mv [.t 15]])
 (.seq
 (.drawn [0, 1, 12, 13, 24] [
 ox 16 .mv [.t 0],
 ox 17 .mv [.t 5],
 ox 18 (.idxAddr 1) [.t 16, .t 17],
 ox 19 (.load false 1) [.t 18],
 ox 20 .mv [.t 1],
 ox 21 .mv [.t 5],
 ox 22 (.idxAddr 1) [.t 20, .t 21],
 ox 23 (.load false 1) [.t 22],
 ox 24 (.eq true .int) [.t 19, .t 23]])
 (.cond (.t 24)
 (.seq
 (.ops [4] [
 ox 4 .mv [.c (.bool false)]])
 .ret)
 .skip))))
 (.ops [0, 1, 12, 13] [
 ox 25 (.arith .add) [.t 13, .c (.int .i64 1)],
 ox 13 .mv [.t 25]])))))))
 (.seq
 (.ops [4] [
 ox 4 .mv [.c (.bool true)]])
 .ret))))
def r156 : List ARes := [.tmp 4]
theorem ok156 : FnOk Tryz.prog 156 c156 r156 :=
 ⟨Tryz.f156, _, Tryz.func156, by kernel_rfl, rfl, by kernel_rfl, by kernel_rfl⟩
def c157 : ACode :=
 (.seq
 (.ops [0] [
 ox 2 .mv [.c .nils]])
 (.seq
 (.ops [0, 3] [
 ox 3 .mv [.c (.int .i64 0)]])
 (.seq
 (.seq
 (.ops [0, 3, 9, 10, 11] [
 ox 9 .mv [.t 0],
 ox 10 .len [.t 9],
 ox 11 .mv [.c (.int .i64 0)]])
 (.block 0
 (.loop [0, 3, 9, 10, 11]
 (.seq
 (.ops [0, 3, 9, 10, 11, 12] [
 ox 12 (.cmp .lss) [.t 11, .t 10]])
 (.seq
 (.cond (.t 12)
 .skip
 (.exit 0))
 (.seq
 (.block 1
 (.seq
 (.ops [0, 3, 5, 9, 10, 11] [
 ox 13 (.idxAddr 1) [.t 9, .t 11],
 ox 14 (.load false 1) [.t 13],
 ox 5 .mv [.t 14]])
 (.seq
 (.ops [0, 3, 9, 10, 11] [
 ox 15 .mv [.t 3],
 ox 16 .mv [.t 5],
 ox 17 .len [.t 16],
 ox 18 (.arith .add) [.t 15, .t 17],
 ox 3 .mv [.t 18]])
 (.seq
 (.ops [0, 3, 9, 10, 11, 20] [
 ox 19 .mv [.t 3],
 ox 20 (.cmp .lss) [.t 19, .c (.int .i64 0)]])
 (.cond (.t 20)
 (.ops [0, 3, 9, 10, 11] [
 ox 21 (.iface 9) [.c (.str ⟨#[108, 101, 110, 32, 111, 117, 116, 32, 111, 102, 32, 114, 97, 110, 103, 101]⟩)],
 oy .no [.t 21]])
 .skip)))))
 (.ops [0, 3, 9, 10, 11] [
 ox 22 (.arith .add) [.t 11, .c (.int .i64 1)],
 ox 11 .mv [.t 22]])))))))
 (.seq
 (.ops [0, 6] [
 ox 23 .mv [.t 3],
 ox 24 (.call 160) [.c .nils, .t 23],
 ox 6 .mv [.t 24]])
 (.seq
 (.seq
 (.ops [6, 25, 26, 27] [
 ox 25 .mv [.t 0],
 ox 26 .len [.t 25],
 ox 27 .mv [.c (.int .i64 0)]])
 (.block 2
 (.loop [6, 25, 26, 27]
 (.seq
 (.ops [6, 25, 26, 27, 28] [
 ox 28 (.cmp .lss) [.t 27, .t 26]])
 (.seq
 (.cond (.t 28)
 .skip
 (.exit 2))
 (.seq
 (.block 3
 (.seq
 (.ops [6, 8, 25, 26, 27] [
 ox 29 (.idxAddr 1) [.t 25, .t 27],
 ox 30 (.load false 1) [.t 29],
 ox 8 .mv [.t 30]])
 (.ops [6, 25, 26, 27] [
 ox 31 .mv [.t 6],
 ox 32 .mv [.t 8],
 ox 33 (.append 1 1) [.t 31, .t 32],
 ox 6 .mv [.t 33]])))
 (.ops [6, 25, 26, 27] [
 ox 34 (.arith .add) [.t 27, .c (.int .i64 1)],
 ox 27 .mv [.t 34]])))))))
 (.seq
 (.ops [2] [
 ox 35 .mv [.t 6],
 ox 2 .mv [.t 35]])
 .ret))))))
def r157 : List ARes := [.tmp 2]
theorem ok157 : FnOk Tryz.prog 157 c157 r157 :=
 ⟨Tryz.f157, _, Tryz.func157, by kernel_rfl, rfl, by kernel_rfl, by kernel_rfl⟩
def c158 : ACode :=
 (.seq
 (.ops [0] [
 ox 2 .mv [.c .nils]])
 (.seq
 (.ops [0, 3] [
 ox 5 (.mkSlice [.int .u8 0] 1) [.c (.int .i64 8), .c (.int .i64 8)],
 ox 3 .mv [.t 5]])
 (.seq
 (.seq
 (.ops [0, 3, 7, 8] [
 ox 6 .mv [.t 3],
 ox 7 .len [.t 6],
 ox 8 .mv [.c (.int .i64 0)]])
 (.block 0
 (.loop [0, 3, 7, 8]
 (.seq
 (.ops [0, 3, 7, 8, 9] [
 ox 9 (.cmp .lss) [.t 8, .t 7]])
 (.seq
 (.cond (.t 9)
 .skip
 (.exit 0))
 (.seq
 (.block 1
 (.seq
 (.ops [0, 3, 4, 7, 8] [
 ox 10 .mv [.t 8],
 ox 4 .mv [.t 10]])
 (.ops [0, 3, 7, 8] [
 ox 11 .mv [.t 3],
 ox 12 .mv [.t 4],
 ox 13 .mv [.t 0],
 ox 14 (.conv .u64) [.t 13],
 ox 15 .mv [.t 4],
 ox 16 (.arith .sub) [.c (.int .i64 7), .t 15],
 ox 17 (.arith .mul) [.c (.int .i64 8), .t 16],
 ox 18 (.shift .shr) [.t 14, .t 17],
 ox 19 (.conv .u8) [.t 18],
 ox 20 (.idxAddr 1) [.t 11, .t 12],
 oy (.store 1) [.t 20, .t 19]])))
 (.ops [0, 3, 7, 8] [
 ox 21 (.arith .add) [.t 8, .c (.int .i64 1)],
 ox 8 .mv [.t 21]])))))))
 (.seq
 (.ops [2] [
 ox 22 .mv [.t 3],
 ox 2 .mv [.t 22]])
 .ret))))
def r158 : List ARes := [.tmp 2]
theorem ok158 : FnOk Tryz.prog 158 c158 r158 :=
 ⟨Tryz.f158, _, Tryz.func158, by kernel_rfl, rfl, by kernel_rfl, by kernel_rfl⟩
def c159 : ACode :=
 (.seq
 (.ops [0] [
 ox 2 .mv [.c (.bool false)]])
 (.seq
 (.ops [2] [
 ox 3 .mv [.t 0],
 ox 4 (.cmp .geq) [.t 3, .c (.int .i64 0)],
 ox 5 .mv [.t 4],
 og 6 .mv [.t 0] 5 true,
 og 7 (.cmp .leq) [.t 6, .c (.int .i64 1099511627776)] 5 true,
 ox 8 .pick [.t 5, .t 7, .c (.bool false)],
 ox 2 .mv [.t 8]])
 .ret))
def r159 : List ARes := [.tmp 2]
theorem ok159 : FnOk Tryz.prog 159 c159 r159 :=
 ⟨Tryz.f159, _, Tryz.func159, by kernel_rfl, rfl, by kernel_rfl, by kernel_rfl⟩
def c160 : ACode :=
 (.seq
 (.ops [0, 1] [
 ox 4 .mv [.c .nils]])
 (.seq
 (.seq
 (.ops [0, 1, 6] [
 ox 5 .mv [.t 1],
 ox 6 (.cmp .lss) [.t 5, .c (.int .i64 0)]])
 (.cond (.t 6)
 (.ops [0, 1] [
 ox 7 (.iface 9) [.c (.str ⟨#[99, 97, 110, 110, 111, 116, 32, 98, 101, 32, 110, 101, 103, 97, 116, 105, 118, 101]⟩)],
 oy .no [.t 7]])
 .skip))
 (.seq
 (.seq
 (.ops [0, 1] [
 ox 8 .mv [.t 1],
 ox 9 .mv [.t 0],
 ox 10 .cap [.t 9],
 ox 11 .mv [.t 0],
 ox 12 .len [.t 11],
 ox 13 (.arith .sub) [.t 10, .t 12],
 ox 14 (.arith .sub) [.t 8, .t 13],
 ox 1 .mv [.t 14]])
 (.seq
 (.ops [0, 1, 16] [
 ox 15 .mv [.t 1],
 ox 16 (.cmp .gtr) [.t 15, .c (.int .i64 0)]])
 (.cond (.t 16)
 (.ops [0] [
 ox 17 .mv [.t 0],
 ox 18 .mv [.t 0],
 ox 19 .cap [.t 18],
 ox 20 (.slice 1 false true false) [.t 17, .t 19],
 ox 21 .mv [.t 1],
 ox 22 (.appendZ [.int .u8 0] 1) [.t 20, .t 21],
 ox 23 .mv [.t 0],
 ox 24 .len [.t 23],
 ox 25 (.slice 1 false true false) [.t 22, .t 24],
 ox 0 .mv [.t 25]])
 .skip)))
 (.seq
 (.ops [4] [
 ox 26 .mv [.t 0],
 ox 4 .mv [.t 26]])
 .ret))))
def r160 : List ARes := [.tmp 4]
theorem ok160 : FnOk Tryz.prog 160 c160 r160 :=
 ⟨Tryz.f160, _, Tryz.func160, by kernel_rfl, rfl, by kernel_rfl, by kernel_rfl⟩
end Go.Proofs.YtoegmnnecanhfaaGreatDoor
end
section
namespace Go.Proofs.YtoegmnnecanhfaaGreatDoor
open Go.Adm
def d3_10 : ACode :=
 (.seq
 (.ops [3, 9, 11, 13, 14, 17] [
 ox 150 .mv [.t 9],
 ox 151 .mv [.t 3],
 ox 152 (.call 20) [.t 150, .c (.int .i64 0), .t 151]])
 (.ops [3, 9, 11, 13, 14, 17] [
 ox 153 .mv [.t 11],
 ox 154 .mv [.t 3],
 ox 155 (.call 21) [.t 153, .c (.int .i64 0), .t 154]]))
def d3_9 : ACode :=
 (.seq
 (.ops [3, 9, 11, 13, 14, 17, 149] [
 ox 130 (.load true 3) [.t 18],
 ox 131 (.load true 3) [.t 21],
 ox 132 (.eqAgg true [.i, .i, .i]) [.t 130, .t 131],
 ox 133 .mv [.t 132],
 og 134 (.load true 32) [.t 19] 133 false,
 og 135 (.load true 32) [.t 22] 133 false,
 og 136 (.eqAgg true (List.replicate 32 .i)) [.t 134, .t 135] 133 false,
 ox 137 .pick [.t 133, .c (.bool true), .t 136],
 ox 138 .mv [.t 137],
 og 139 .mv [.t 20] 138 false,
 og 140 .mv [.t 23] 138 false,
 og 141 (.eq true .int) [.t 139, .t 140] 138 false,
 ox 142 .pick [.t 138, .c (.bool true), .t 141],
 ox 143 .mv [.t 142],
 og 144 .mv [.t 24] 143 false,
 og 145 .mv [.t 11] 143 false,
 og 146 (.call 19) [.t 145, .c (.int .i64 0)] 143 false,
 og 147 (.call 18) [.t 144, .t 146] 143 false,
 og 148 .not [.t 147] 143 false,
 ox 149 .pick [.t 143, .c (.bool true), .t 148]])
 (.cond (.t 149)
 (.seq
 (.ops [8] [
 ox 8 .mv [.c (.bool false)]])
 .ret)
 .skip))
def d3_8 : ACode :=
 (.seq
 (.block 1
 (.seq
 (.ops [3, 9, 11, 13, 14, 17, 18, 19, 20] [
 ox 111 .mv [.t 9],
 ox 112 .mv [.t 13],
 ox 113 (.iface 35) [.t 112],
 ox 114 (.call 15) [.t 111, .t 113],
 ox 110 .mv [.t 114],
 ox 115 (.extract 0) [.t 110],
 ox 116 (.extract 1) [.t 110],
 ox 117 (.extract 2) [.t 110],
 ox 18 (.alloc [.int .i64 0, .int .i64 0, .int .i64 0]) [],
 ox 19 (.alloc (List.replicate 32 (.int .u8 0))) [],
 oy (.store 3) [.t 18, .t 115],
 oy (.store 32) [.t 19, .t 116],
 ox 20 .mv [.t 117]])
 (.seq
 (.ops [3, 9, 11, 13, 14, 17, 18, 19, 20, 21, 22, 23] [
 ox 119 .mv [.t 11],
 ox 120 .mv [.t 14],
 ox 121 (.call 16) [.t 119, .t 120],
 ox 118 .mv [.t 121],
 ox 122 (.extract 0) [.t 118],
 ox 123 (.extract 1) [.t 118],
 ox 124 (.extract 2) [.t 118],
 ox 21 (.alloc [.int .i64 0, .int .i64 0, .int .i64 0]) [],
 ox 22 (.alloc (List.replicate 32 (.int .u8 0))) [],
 oy (.store 3) [.t 21, .t 122],
 oy (.store 32) [.t 22, .t 123],
 ox 23 .mv [.t 124]])
 (.seq
 (.ops [3, 9, 11, 13, 14, 17, 18, 19, 20, 21, 22, 23, 24] [
 ox 126 .mv [.t 9],
 ox 127 (.call 17) [.t 126, .c (.int .i64 0)],
 ox 125 .mv [.t 127],
 ox 128 (.extract 0) [.t 125],
 ox 129 (.extract 1) [.t 125],
 ox 24 .mv [.t 128],
 ox 25 .mv [.t 129]])
 (.seq d3_9 d3_10)))))
 (.ops [3, 9, 11, 13, 14, 17] [
 ox 108 .mv [.t 17],
 ox 109 (.arith .add) [.t 108, .c (.int .i64 1)],
 ox 17 .mv [.t 109]]))
def d3_7 : ACode :=
 (.seq
 (.ops [3, 9, 11, 13, 14, 17, 107] [
 ox 106 .mv [.t 17],
 ox 107 (.cmp .lss) [.t 106, .c (.int .i64 2)]])
 (.cond (.t 107)
 .skip
 (.exit 0)))
def d3_6 : ACode :=
 (.seq
 (.seq
 (.ops [3, 9, 11, 13, 14, 17] [
 ox 17 .mv [.c (.int .i64 0)]])
 (.block 0
 (.loop [3, 9, 11, 13, 14, 17]
 (.seq d3_7 d3_8))))
 (.seq
 (.ops [8] [
 ox 156 (.call 4) [],
 ox 8 .mv [.t 156]])
 .ret))
def d3_5 : ACode :=
 (.seq
 (.drawn [3, 9, 11, 13, 14, 105] [
 ox 80 (.load true 32) [.t 15],
 ox 81 (.load true 32) [.t 16],
 ox 82 (.eqAgg true (List.replicate 32 .i)) [.t 80, .t 81],
 ox 83 .mv [.t 82],
 og 84 .mv [.t 10] 83 false,
 og 85 .mv [.t 12] 83 false,
 og 86 (.eq true .int) [.t 84, .t 85] 83 false,
 ox 87 .pick [.t 83, .c (.bool true), .t 86],
 ox 88 .mv [.t 87],
 og 89 .mv [.t 9] 88 false,
 oh 90 (.call 13) [.t 89] 88 false 0 1,
 oh 91 .mv [.t 11] 88 false 0 1,
 oh 92 .nilCheck [.t 91] 88 false 0 1,
 oh 93 (.fieldAddr 3) [.t 92] 88 false 0 1,
 oh 94 (.load false 1) [.t 93] 88 false 0 1,
 oh 95 (.eq true .bool) [.t 90, .t 94] 88 false 1 1,
 od 96 .pick [.t 88, .c (.bool true), .t 95] 1 1,
 od 97 .mv [.t 96] 1 1,
 oh 98 .mv [.t 9] 97 false 1 1,
 oh 99 (.call 14) [.t 98] 97 false 1 2,
 oh 100 .mv [.t 11] 97 false 1 2,
 oh 101 .nilCheck [.t 100] 97 false 1 2,
 oh 102 (.fieldAddr 2) [.t 101] 97 false 1 2,
 oh 103 (.load false 1) [.t 102] 97 false 1 2,
 oh 104 (.eq true .int) [.t 99, .t 103] 97 false 2 2,
 od 105 .pick [.t 97, .c (.bool true), .t 104] 2 2])
 (.cond (.t 105)
 (.seq
 (.ops [8] [
 ox 8 .mv [.c (.bool false)]])
 .ret)
 .skip))
def d3_4 : ACode :=
 (.seq
 (.ops [3, 5, 6, 9, 11, 13, 14] [
 ox 53 .mv [.t 9],
 ox 54 (.fieldAddr 1) [.t 6],
 ox 55 (.load false 1) [.t 54],
 ox 56 (.call 9) [.t 53, .t 55]])
 (.seq
 (.ops [3, 5, 6, 9, 11, 13, 14] [
 ox 57 .mv [.t 11],
 ox 58 (.fieldAddr 1) [.t 6],
 ox 59 (.load false 1) [.t 58],
 ox 60 (.call 10) [.t 57, .t 59]])
 (.seq
 (.ops [3, 5, 6, 9, 10, 11, 13, 14, 15] [
 ox 62 .mv [.t 9],
 ox 63 .mv [.t 13],
 ox 64 (.iface 35) [.t 63],
 ox 65 (.fieldAddr 0) [.t 6],
 ox 66 (.load false 1) [.t 65],
 ox 67 (.load true 3) [.t 5],
 ox 68 (.call 11) [.t 62, .t 64, .t 66, .t 67],
 ox 61 .mv [.t 68],
 ox 69 (.extract 0) [.t 61],
 ox 70 (.extract 1) [.t 61],
 ox 15 (.alloc (List.replicate 32 (.int .u8 0))) [],
 oy (.store 32) [.t 15, .t 69],
 ox 10 .mv [.t 70]])
 (.seq
 (.ops [3, 9, 10, 11, 12, 13, 14, 15, 16] [
 ox 72 .mv [.t 11],
 ox 73 .mv [.t 14],
 ox 74 (.fieldAddr 0) [.t 6],
 ox 75 (.load false 1) [.t 74],
 ox 76 (.load true 3) [.t 5],
 ox 77 (.call 12) [.t 72, .t 73, .t 75, .t 76],
 ox 71 .mv [.t 77],
 ox 78 (.extract 0) [.t 71],
 ox 79 (.extract 1) [.t 71],
 ox 16 (.alloc (List.replicate 32 (.int .u8 0))) [],
 oy (.store 32) [.t 16, .t 78],
 ox 12 .mv [.t 79]])
 (.seq d3_5 d3_6)))))
def d3_3 : ACode :=
 (.seq
 (.ops [3, 5, 6, 9, 11, 13, 14, 52] [
 ox 47 .mv [.t 10],
 ox 48 (.eq true .int) [.t 47, .c (.int .i64 0)],
 ox 49 .mv [.t 48],
 og 50 .mv [.t 12] 49 false,
 og 51 (.eq true .int) [.t 50, .c (.int .i64 0)] 49 false,
 ox 52 .pick [.t 49, .c (.bool true), .t 51]])
 (.cond (.t 52)
 (.seq
 (.ops [8] [
 ox 8 .mv [.c (.bool false)]])
 .ret)
 .skip))
def d3_2 : ACode :=
 (.seq
 (.ops [0, 3, 5, 6, 9, 10] [
 ox 36 (.call 5) [.c (.int .i64 5)],
 ox 35 .mv [.t 36],
 ox 37 (.extract 0) [.t 35],
 ox 38 (.extract 1) [.t 35],
 ox 9 .mv [.t 37],
 ox 10 .mv [.t 38]])
 (.seq
 (.ops [0, 3, 5, 6, 9, 10, 11, 12] [
 ox 40 (.call 6) [.c (.int .i64 5)],
 ox 39 .mv [.t 40],
 ox 41 (.extract 0) [.t 39],
 ox 42 (.extract 1) [.t 39],
 ox 11 .mv [.t 41],
 ox 12 .mv [.t 42]])
 (.seq
 (.ops [0, 3, 5, 6, 9, 10, 11, 12, 13] [
 ox 43 .mv [.t 0],
 ox 44 (.call 7) [.t 43],
 ox 13 .mv [.t 44]])
 (.seq
 (.ops [3, 5, 6, 9, 10, 11, 12, 13, 14] [
 ox 45 .mv [.t 0],
 ox 46 (.call 8) [.t 45],
 ox 14 .mv [.t 46]])
 (.seq d3_3 d3_4)))))
def d3_1 : ACode :=
 (.seq
 (.ops [0, 3, 5, 6, 33] [
 ox 26 .mv [.t 0],
 ox 27 .len [.t 26],
 ox 28 (.cmp .gtr) [.t 27, .c (.int .i64 1024)],
 ox 29 .mv [.t 28],
 og 30 .mv [.t 3] 29 false,
 og 31 .len [.t 30] 29 false,
 og 32 (.cmp .gtr) [.t 31, .c (.int .i64 2048)] 29 false,
 ox 33 .pick [.t 29, .c (.bool true), .t 32]])
 (.cond (.t 33)
 (.seq
 (.ops [8] [
 ox 34 (.call 4) [],
 ox 8 .mv [.t 34]])
 .ret)
 .skip))
theorem q3 : c3 =
 (.seq
 (.ops [0, 3, 5, 6] [
 ox 5 .box [.t 1],
 ox 6 .box [.t 2],
 ox 8 .mv [.c (.bool false)]])
 (.seq d3_1 d3_2)) := rfl
def d4_2 : ACode :=
 (.seq
 (.ops [1, 3, 6] [
 ox 20 .mv [.t 1],
 ox 21 .mv [.t 3],
 ox 22 (.iface 59) [.t 21],
 ox 23 (.call 15) [.t 20, .t 22],
 ox 19 .mv [.t 23],
 ox 24 (.extract 0) [.t 19],
 ox 25 (.extract 1) [.t 19],
 ox 26 (.extract 2) [.t 19],
 ox 4 (.alloc [.int .i64 0, .int .i64 0, .int .i64 0]) [],
 ox 5 (.alloc (List.replicate 32 (.int .u8 0))) [],
 oy (.store 3) [.t 4, .t 24],
 oy (.store 32) [.t 5, .t 25],
 ox 6 .mv [.t 26]])
 (.seq
 (.ops [1, 3, 6, 7, 8] [
 ox 28 .mv [.t 1],
 ox 29 .mv [.t 3],
 ox 30 (.iface 59) [.t 29],
 ox 31 (.call 23) [],
 ox 32 (.call 11) [.t 28, .t 30, .c (.int .i64 1), .t 31],
 ox 27 .mv [.t 32],
 ox 33 (.extract 0) [.t 27],
 ox 34 (.extract 1) [.t 27],
 ox 7 (.alloc (List.replicate 32 (.int .u8 0))) [],
 oy (.store 32) [.t 7, .t 33],
 ox 8 .mv [.t 34]])
 (.seq
 (.ops [6, 7, 8, 9, 10, 11] [
 ox 36 .mv [.t 1],
 ox 37 .mv [.t 3],
 ox 38 (.iface 59) [.t 37],
 ox 39 (.call 15) [.t 36, .t 38],
 ox 35 .mv [.t 39],
 ox 40 (.extract 0) [.t 35],
 ox 41 (.extract 1) [.t 35],
 ox 42 (.extract 2) [.t 35],
 ox 9 (.alloc [.int .i64 0, .int .i64 0, .int .i64 0]) [],
 ox 10 (.alloc (List.replicate 32 (.int .u8 0))) [],
 oy (.store 3) [.t 9, .t 40],
 oy (.store 32) [.t 10, .t 41],
 ox 11 .mv [.t 42]])
 (.seq
 (.drawn [0] [
 ox 43 .mv [.t 6],
 ox 44 (.eq false .int) [.t 43, .c (.int .i64 9)],
 ox 45 .mv [.t 44],
 og 46 .mv [.t 8] 45 true,
 og 47 (.eq false .int) [.t 46, .c (.int .i64 0)] 45 true,
 ox 48 .pick [.t 45, .t 47, .c (.bool false)],
 ox 49 .mv [.t 48],
 og 50 .mv [.t 11] 49 true,
 og 51 (.eq false .int) [.t 50, .c (.int .i64 0)] 49 true,
 ox 52 .pick [.t 49, .t 51, .c (.bool false)],
 ox 53 .mv [.t 52],
 oh 54 (.load true 3) [.t 9] 53 true 0 1,
 oh 55 (.call 23) [] 53 true 0 1,
 oh 56 (.eqAgg false [.i, .i, .i]) [.t 54, .t 55] 53 true 1 1,
 od 57 .pick [.t 53, .t 56, .c (.bool false)] 1 1,
 od 58 .mv [.t 57] 1 1,
 oh 59 (.load true 32) [.t 7] 58 true 1 1,
 oh 60 (.load true 32) [.t 10] 58 true 1 1,
 oh 61 (.eqAgg false (List.replicate 32 .i)) [.t 59, .t 60] 58 true 1 1,
 od 62 .pick [.t 58, .t 61, .c (.bool false)] 1 1,
 od 0 .mv [.t 62] 1 1])
 .ret))))
def d4_1 : ACode :=
 (.seq
 (.ops [1, 3, 18] [
 ox 17 .mv [.t 2],
 ox 18 (.eq true .int) [.t 17, .c (.int .i64 0)]])
 (.cond (.t 18)
 (.seq
 (.ops [0] [
 ox 0 .mv [.c (.bool false)]])
 .ret)
 .skip))
theorem q4 : c4 =
 (.seq
 (.ops [] [
 ox 0 .mv [.c (.bool false)]])
 (.seq
 (.ops [1, 2] [
 ox 13 (.call 5) [.c (.int .i64 5)],
 ox 12 .mv [.t 13],
 ox 14 (.extract 0) [.t 12],
 ox 15 (.extract 1) [.t 12],
 ox 1 .mv [.t 14],
 ox 2 .mv [.t 15]])
 (.seq
 (.ops [1, 2, 3] [
 ox 16 (.call 22) [],
 ox 3 .mv [.t 16]])
 (.seq d4_1 d4_2)))) := rfl
def c75_2 : ACode :=
 (.seq
 (.seq
 (.ops [1, 4, 5, 19] [
 ox 19 .mv [.c (.int .i64 0)]])
 (.block 0
 (.loop [1, 4, 5, 19]
 (.seq
 (.ops [1, 4, 5, 19, 20] [
 ox 20 (.cmp .lss) [.t 19, .c (.int .i64 64)]])
 (.seq
 (.cond (.t 20)
 .skip
 (.exit 0))
 (.seq
 (.block 1
 (.seq
 (.ops [1, 4, 5, 7, 19] [
 ox 21 .mv [.t 19],
 ox 7 .mv [.t 21]])
 (.ops [1, 4, 5, 19] [
 ox 22 .mv [.t 7],
 ox 23 (.idxAddrArr 64 1) [.t 5, .t 22],
 ox 24 (.load false 1) [.t 23],
 ox 25 .mv [.t 1],
 ox 26 (.arith .xor) [.t 24, .t 25],
 ox 27 (.idxAddrArr 64 1) [.t 5, .t 22],
 oy (.store 1) [.t 27, .t 26]])))
 (.ops [1, 4, 5, 19] [
 ox 28 (.arith .add) [.t 19, .c (.int .i64 1)],
 ox 19 .mv [.t 28]])))))))
 (.seq
 (.ops [4] [
 ox 29 (.load true 64) [.t 5],
 oy (.store 64) [.t 4, .t 29]])
 .ret))
def c75_1 : ACode :=
 (.seq
 (.ops [0, 1, 4, 5, 10] [
 ox 8 .mv [.t 0],
 ox 9 .len [.t 8],
 ox 10 (.cmp .gtr) [.t 9, .c (.int .i64 64)]])
 (.cond (.t 10)
 (.seq
 (.ops [1, 4, 5, 6] [
 ox 11 .mv [.t 0],
 ox 12 (.call 96) [.t 11],
 ox 6 (.alloc (List.replicate 32 (.int .u8 0))) [],
 oy (.store 32) [.t 6, .t 12]])
 (.drawn [1, 4, 5] [
 ox 13 (.sliceArr 64 1 false false false) [.t 5],
 ox 14 (.sliceArr 32 1 false false false) [.t 6],
 od 15 (.copy 1) [.t 13, .t 14] 0 1]))
 (.ops [1, 4, 5] [
 ox 16 (.sliceArr 64 1 false false false) [.t 5],
 ox 17 .mv [.t 0],
 ox 18 (.copy 1) [.t 16, .t 17]])))
theorem p75 : c75 =
 (.seq
 (.ops [0, 1, 4] [
 ox 4 (.alloc (List.replicate 64 (.int .u8 0))) []])
 (.seq
 (.ops [0, 1, 4, 5] [
 ox 5 (.alloc (List.replicate 64 (.int .u8 0))) []])
 (.seq c75_1 c75_2))) := rfl
def c98_2 : ACode :=
 (.seq
 (.block 4
 (.loop [1, 5]
 (.seq
 (.seq
 (.ops [1, 5, 45] [
 ox 43 .mv [.t 5],
 ox 44 .len [.t 43],
 ox 45 (.cmp .lss) [.t 44, .c (.int .i64 64)]])
 (.cond (.t 45)
 .skip
 (.exit 4)))
 (.block 5
 (.ops [1, 5] [
 ox 46 .mv [.t 5],
 ox 47 (.mkSl 1 [.int .u8 0] [(0, 1)]) [.c (.int .u8 0)],
 ox 48 (.append 1 1) [.t 46, .t 47],
 ox 5 .mv [.t 48]])))))
 (.seq
 (.seq
 (.ops [1, 5, 9] [
 ox 9 .mv [.c (.int .i64 0)]])
 (.block 6
 (.loop [1, 5, 9]
 (.seq
 (.seq
 (.ops [1, 5, 9, 52] [
 ox 49 .mv [.t 9],
 ox 50 .mv [.t 5],
 ox 51 .len [.t 50],
 ox 52 (.cmp .lss) [.t 49, .t 51]])
 (.cond (.t 52)
 .skip
 (.exit 6)))
 (.seq
 (.block 7
 (.ops [1, 5, 9] [
 ox 55 .mv [.t 5],
 ox 56 .mv [.t 9],
 ox 57 .mv [.t 5],
 ox 58 .mv [.t 9],
 ox 59 (.idxAddr 1) [.t 57, .t 58],
 ox 60 (.load false 1) [.t 59],
 ox 61 .mv [.t 1],
 ox 62 (.arith .xor) [.t 60, .t 61],
 ox 63 (.idxAddr 1) [.t 55, .t 56],
 oy (.store 1) [.t 63, .t 62]]))
 (.ops [1, 5, 9] [
 ox 53 .mv [.t 9],
 ox 54 (.arith .add) [.t 53, .c (.int .i64 1)],
 ox 9 .mv [.t 54]]))))))
 (.seq
 (.ops [4] [
 ox 64 .mv [.t 5],
 ox 4 .mv [.t 64]])
 .ret)))
def c98_1 : ACode :=
 (.seq
 (.ops [0, 1, 5, 30] [
 ox 28 .mv [.t 0],
 ox 29 .len [.t 28],
 ox 30 (.cmp .gtr) [.t 29, .c (.int .i64 64)]])
 (.cond (.t 30)
 (.seq
 (.ops [1, 5, 7] [
 ox 31 .mv [.t 0],
 ox 32 (.call 88) [.t 31],
 ox 7 (.alloc (List.replicate 32 (.int .u8 0))) [],
 oy (.store 32) [.t 7, .t 32]])
 (.seq
 (.ops [1, 5, 7, 8] [
 ox 8 .mv [.c (.int .i64 0)]])
 (.block 2
 (.loop [1, 5, 7, 8]
 (.seq
 (.seq
 (.ops [1, 5, 7, 8, 34] [
 ox 33 .mv [.t 8],
 ox 34 (.cmp .lss) [.t 33, .c (.int .i64 32)]])
 (.cond (.t 34)
 .skip
 (.exit 2)))
 (.seq
 (.block 3
 (.ops [1, 5, 7, 8] [
 ox 37 .mv [.t 5],
 ox 38 .mv [.t 8],
 ox 39 (.idxAddrArr 32 1) [.t 7, .t 38],
 ox 40 (.load false 1) [.t 39],
 ox 41 (.mkSl 1 [.int .u8 0] [(0, 1)]) [.t 40],
 ox 42 (.append 1 1) [.t 37, .t 41],
 ox 5 .mv [.t 42]]))
 (.ops [1, 5, 7, 8] [
 ox 35 .mv [.t 8],
 ox 36 (.arith .add) [.t 35, .c (.int .i64 1)],
 ox 8 .mv [.t 36]])))))))
 .skip))
theorem p98 : c98 =
 (.seq
 (.ops [0, 1] [
 ox 4 .mv [.c .nils]])
 (.seq
 (.ops [0, 1, 5] [
 ox 5 .mv [.c .nils]])
 (.seq
 (.seq
 (.ops [0, 1, 5, 6] [
 ox 6 .mv [.c (.int .i64 0)]])
 (.block 0
 (.loop [0, 1, 5, 6]
 (.seq
 (.seq
 (.ops [0, 1, 5, 6, 18] [
 ox 10 .mv [.t 6],
 ox 11 .mv [.t 0],
 ox 12 .len [.t 11],
 ox 13 (.cmp .lss) [.t 10, .t 12],
 ox 14 .mv [.t 13],
 og 15 .mv [.t 0] 14 true,
 og 16 .len [.t 15] 14 true,
 og 17 (.cmp .leq) [.t 16, .c (.int .i64 64)] 14 true,
 ox 18 .pick [.t 14, .t 17, .c (.bool false)]])
 (.cond (.t 18)
 .skip
 (.exit 0)))
 (.seq
 (.block 1
 (.ops [0, 1, 5, 6] [
 ox 21 .mv [.t 5],
 ox 22 .mv [.t 0],
 ox 23 .mv [.t 6],
 ox 24 (.idxAddr 1) [.t 22, .t 23],
 ox 25 (.load false 1) [.t 24],
 ox 26 (.mkSl 1 [.int .u8 0] [(0, 1)]) [.t 25],
 ox 27 (.append 1 1) [.t 21, .t 26],
 ox 5 .mv [.t 27]]))
 (.ops [0, 1, 5, 6] [
 ox 19 .mv [.t 6],
 ox 20 (.arith .add) [.t 19, .c (.int .i64 1)],
 ox 6 .mv [.t 20]]))))))
 (.seq c98_1 c98_2)))) := rfl
def c154_2 : ACode :=
 (.seq
 (.drawn [10] [
 od 61 .mv [.t 4] 0 1,
 od 62 (.mkSlice [.int .u8 0] 1) [.c (.int .i64 24), .c (.int .i64 24)] 0 1,
 ox 63 .mv [.t 12],
 od 64 (.call 158) [.t 63] 0 1,
 od 65 (.mkSl 3 [.nils, .nils, .nils] [(0, 1), (1, 1), (2, 1)]) [.t 61, .t 62, .t 64] 1 1,
 od 66 (.call 157) [.t 65] 1 2,
 od 10 .mv [.t 66] 2 2])
 .ret)
def c154_1 : ACode :=
 (.seq
 (.ops [0, 4, 11, 12, 39] [
 ox 38 .mv [.t 13],
 ox 39 .not [.t 38]])
 (.cond (.t 39)
 (.seq
 (.drawn [0, 4, 11] [
 od 40 .mv [.t 0] 0 1,
 ox 41 .mv [.t 0],
 ox 42 .nilCheck [.t 41],
 ox 43 (.fieldAddr 1) [.t 42],
 ox 44 (.load false 1) [.t 43],
 ox 45 (.load true 4) [.t 11],
 ox 46 (.mkSl 1 [.int .i64 0, .int .i64 0, .str ⟨#[]⟩, .str ⟨#[]⟩] [(0, 4)]) [.t 45],
 od 47 (.append 4 48) [.t 44, .t 46] 0 1,
 od 48 .nilCheck [.t 40] 1 1,
 od 49 (.fieldAddr 1) [.t 48] 1 1,
 oe (.store 1) [.t 49, .t 47] 1 2])
 (.seq
 (.ops [0, 4, 11, 12] [
 ox 50 .mv [.t 0],
 ox 51 .nilCheck [.t 50],
 ox 52 (.fieldAddr 1) [.t 51],
 ox 53 (.load false 1) [.t 52],
 ox 54 .len [.t 53],
 ox 12 .mv [.t 54]])
 (.drawn [4, 12] [
 ox 55 .mv [.t 0],
 ox 56 .nilCheck [.t 55],
 ox 57 (.fieldAddr 0) [.t 56],
 ox 58 (.load false 1) [.t 57],
 ox 59 (.load true 4) [.t 11],
 ox 60 .mv [.t 12],
 oe (.mapSet (.agg [.i, .i, .s, .s])) [.t 58, .t 59, .t 60] 0 1])))
 .skip))
theorem p154 : c154 =
 (.seq
 (.ops [0, 1, 2, 3, 4] [
 ox 10 .mv [.c .nils]])
 (.seq
 (.seq
 (.ops [0, 1, 2, 3, 4, 21] [
 ox 14 .mv [.t 1],
 ox 15 (.call 159) [.t 14],
 ox 16 .not [.t 15],
 ox 17 .mv [.t 16],
 og 18 .mv [.t 2] 17 false,
 og 19 (.call 159) [.t 18] 17 false,
 og 20 .not [.t 19] 17 false,
 ox 21 .pick [.t 17, .c (.bool true), .t 20]])
 (.cond (.t 21)
 (.seq
 (.ops [10] [
 ox 10 .mv [.c .nils]])
 .ret)
 .skip))
 (.seq
 (.ops [0, 4, 11] [
 ox 22 .mv [.t 1],
 ox 23 .mv [.t 2],
 ox 24 .mv [.t 3],
 ox 25 .b2s [.t 24],
 ox 26 .mv [.t 4],
 ox 27 .b2s [.t 26],
 ox 28 (.build [.int .i64 0, .int .i64 0, .str ⟨#[]⟩, .str ⟨#[]⟩] [(0, 1), (1, 1), (2, 1), (3, 1)]) [.t 22, .t 23, .t 25, .t 27],
 ox 11 (.alloc [.int .i64 0, .int .i64 0, .str ⟨#[]⟩, .str ⟨#[]⟩]) [],
 oy (.store 4) [.t 11, .t 28]])
 (.seq
 (.drawn [0, 4, 11, 12, 13] [
 ox 30 .mv [.t 0],
 ox 31 .nilCheck [.t 30],
 ox 32 (.fieldAddr 0) [.t 31],
 ox 33 (.load false 1) [.t 32],
 ox 34 (.load true 4) [.t 11],
 ox 35 (.lookup (.agg [.i, .i, .s, .s]) (.int .i64 0) true) [.t 33, .t 34],
 ox 29 .mv [.t 35],
 ox 36 (.extract 0) [.t 29],
 ox 37 (.extract 1) [.t 29],
 ox 12 .mv [.t 36],
 ox 13 .mv [.t 37]])
 (.seq c154_1 c154_2))))) := rfl
def c155_2 : ACode :=
 (.seq
 (.ops [4, 5, 7] [
 ox 7 (.alloc (List.replicate 32 (.int .u8 0))) []])
 (.seq
 (.seq
 (.ops [4, 5, 7, 34] [
 ox 34 .mv [.c (.int .i64 0)]])
 (.block 0
 (.loop [4, 5, 7, 34]
 (.seq
 (.ops [4, 5, 7, 34, 35] [
 ox 35 (.cmp .lss) [.t 34, .c (.int .i64 32)]])
 (.seq
 (.cond (.t 35)
 .skip
 (.exit 0))
 (.seq
 (.block 1
 (.seq
 (.ops [4, 5, 7, 8, 34] [
 ox 36 .mv [.t 34],
 ox 8 .mv [.t 36]])
 (.ops [4, 5, 7, 34] [
 ox 37 .mv [.t 8],
 ox 38 (.idxAddrArr 32 1) [.t 7, .t 37],
 oy (.store 1) [.t 38, .c (.int .u8 1)]])))
 (.ops [4, 5, 7, 34] [
 ox 39 (.arith .add) [.t 34, .c (.int .i64 1)],
 ox 34 .mv [.t 39]])))))))
 (.seq
 (.drawn [4, 7] [
 od 40 (.sliceArr 32 1 true false false) [.t 7, .c (.int .i64 24)] 0 1,
 ox 41 .mv [.t 5],
 od 42 (.call 158) [.t 41] 0 1,
 od 43 (.copy 1) [.t 40, .t 42] 1 2])
 (.seq
 (.ops [4] [
 ox 44 (.load true 32) [.t 7],
 oy (.store 32) [.t 4, .t 44]])
 .ret))))
def c155_1 : ACode :=
 (.seq
 (.ops [0, 1, 4, 5, 20] [
 ox 19 .mv [.t 6],
 ox 20 .not [.t 19]])
 (.cond (.t 20)
 (.seq
 (.ops [0, 1, 4, 5] [
 ox 21 .mv [.t 0],
 ox 22 .nilCheck [.t 21],
 ox 23 (.fieldAddr 2) [.t 22],
 ox 24 (.load false 1) [.t 23],
 ox 25 .lenMap [.t 24],
 ox 26 (.arith .add) [.t 25, .c (.int .i64 1)],
 ox 5 .mv [.t 26]])
 (.drawn [4, 5] [
 ox 27 .mv [.t 0],
 ox 28 .nilCheck [.t 27],
 ox 29 (.fieldAddr 2) [.t 28],
 ox 30 (.load false 1) [.t 29],
 ox 31 .mv [.t 1],
 ox 32 .b2s [.t 31],
 ox 33 .mv [.t 5],
 oe (.mapSet (.one .s)) [.t 30, .t 32, .t 33] 0 1]))
 .skip))
theorem p155 : c155 =
 (.seq
 (.ops [0, 1, 4] [
 ox 4 (.alloc (List.replicate 32 (.int .u8 0))) []])
 (.seq
 (.drawn [0, 1, 4, 5, 6] [
 ox 10 .mv [.t 0],
 ox 11 .nilCheck [.t 10],
 ox 12 (.fieldAddr 2) [.t 11],
 ox 13 (.load false 1) [.t 12],
 ox 14 .mv [.t 1],
 ox 15 .b2s [.t 14],
 ox 16 (.lookup (.one .s) (.int .i64 0) true) [.t 13, .t 15],
 ox 9 .mv [.t 16],
 ox 17 (.extract 0) [.t 9],
 ox 18 (.extract 1) [.t 9],
 ox 5 .mv [.t 17],
 ox 6 .mv [.t 18]])
 (.seq c155_1 c155_2))) := rfl
end Go.Proofs.YtoegmnnecanhfaaGreatDoor
end
section
namespace Go.Proofs.YtoegmnnecanhfaaGreatDoor
open Go Go.Adm
set_option linter.unusedSimpArgs false
set_option maxRecDepth 100000
def lent (l : List B8) : List B8 := tab (l.length + 5) fun j => if j < l.length then gb l j else 165#8
theorem lent_len (l : List B8) : (lent l).length = l.length + 5 := tab_len _ _
def lq1 := And.intro @lenB (@lent_len)
theorem ans_samebytes {m : Mem} {x y : AV} {a b : List B8} (hx : RdB m x a) (hy : RdB m y b) (hl : a.length < 1152921504606846976) : Ans Tryz.prog 18 [x, y] m fun r m' => r = .bool (a == b) ∧ m' = m := by
 refine ans_ret mixed ok18 ?_
 by_cases h : a.length = b.length
 ·have h' : ((a.length : Int) == (b.length : Int)) = true := by rw [h]; simp
  simp -implicitDefEqProofs (disch := (first | omega | (simp only [lq1] <;> omega) | fail)) only [admQ, lq1, aFill, AK.cls, implies_true, if_true, if_false, seval, -List.reduceReplicate, c18, r18, hx.len, hy.len, h']
  refine LoopW.on (fun i : Nat => [(0, x), (1, y), (5, .int .i64 i)]) (fun i => a.length - i) (fun i m' => m' = m ∧ i ≤ a.length ∧ ∀ j, j < i → gb a j = gb b j) ?_ 0 _ _ rfl ⟨rfl, by omega, fun j hj => by omega⟩
  rintro i _ X ⟨rfl, hi, hj⟩ hX
  by_cases hlt : i < a.length
  ·obtain ⟨b1, o1, cap1, s1, c1, rfl, hr1, hg1, hl1, hc1, hs1, ht1⟩ := hx.cons hlt
   obtain ⟨b2, o2, cap2, s2, c2, rfl, hr2, hg2, hl2, hc2, hs2, ht2⟩ := hy.cons (by omega : i < b.length)
   have e1 := hg1 i hlt
   have e2 := hg2 i (by omega)
   cases he : gb a i == gb b i
   ·have hne : (a == b) = false := by
     rw [beq_eq_false_iff_ne]; rintro rfl; simp at he
    simp -implicitDefEqProofs (disch := (first | omega | (simp only [lq1] <;> omega) | fail)) only [admQ, lq1, aFill, AK.cls, implies_true, if_true, if_false, seval, -List.reduceReplicate, hr1, hr2, e1, e2, he, hne]
   ·simp -implicitDefEqProofs (disch := (first | omega | (simp only [lq1] <;> omega) | fail)) only [admQ, lq1, aFill, AK.cls, implies_true, if_true, if_false, seval, -List.reduceReplicate, hr1, hr2, e1, e2, he]
    refine hX (i + 1) _ _ rfl (by omega) ⟨rfl, by omega, fun j hj2 => ?_⟩
    by_cases hji : j = i
    ·subst hji; simpa using he
    ·exact hj j (by omega)
  ·have he : (a == b) = true := by rw [beq_iff_eq]; exact gb_ext h fun j hj2 => hj j (by omega)
   simp -implicitDefEqProofs (disch := (first | omega | (simp only [lq1] <;> omega) | fail)) only [admQ, lq1, aFill, AK.cls, implies_true, if_true, if_false, seval, -List.reduceReplicate, hx.len, he]
 ·have h' : ((a.length : Int) == (b.length : Int)) = false := by rw [beq_eq_false_iff_ne]; omega
  have he : (a == b) = false := by rw [beq_eq_false_iff_ne]; rintro rfl; exact h rfl
  simp -implicitDefEqProofs (disch := (first | omega | (simp only [lq1] <;> omega) | fail)) only [admQ, lq1, aFill, AK.cls, implies_true, if_true, if_false, seval, -List.reduceReplicate, c18, r18, hx.len, hy.len, h', he]
end Go.Proofs.YtoegmnnecanhfaaGreatDoor
end
section
namespace Go.Proofs.YtoegmnnecanhfaaGreatDoor
open Go Go.Adm
set_option linter.unusedSimpArgs false
set_option maxRecDepth 100000
def sboxN : List Nat := [99, 124, 119, 123, 242, 107, 111, 197, 48, 1, 103, 43, 254, 215, 171, 118, 202, 130, 201, 125, 250, 89, 71, 240, 173, 212, 162, 175, 156, 164, 114, 192, 183, 253, 147, 38, 54, 63, 247, 204, 52, 165, 229, 241, 113, 216, 49, 21, 4, 199, 35, 195, 24, 150, 5, 154, 7, 18, 128, 226, 235, 39, 178, 117, 9, 131, 44, 26, 27, 110, 90, 160, 82, 59, 214, 179, 41, 227, 47, 132, 83, 209, 0, 237, 32, 252, 177, 91, 106, 203, 190, 57, 74, 76, 88, 207, 208, 239, 170, 251, 67, 77, 51, 133, 69, 249, 2, 127, 80, 60, 159, 168, 81, 163, 64, 143, 146, 157, 56, 245, 188, 182, 218, 33, 16, 255, 243, 210, 205, 12, 19, 236, 95, 151, 68, 23, 196, 167, 126, 61, 100, 93, 25, 115, 96, 129, 79, 220, 34, 42, 144, 136, 70, 238, 184, 20, 222, 94, 11, 219, 224, 50, 58, 10, 73, 6, 36, 92, 194, 211, 172, 98, 145, 149, 228, 121, 231, 200, 55, 109, 141, 213, 78, 169, 108, 86, 244, 234, 101, 122, 174, 8, 186, 120, 37, 46, 28, 166, 180, 198, 232, 221, 116, 31, 75, 189, 139, 138, 112, 62, 181, 102, 72, 3, 246, 14, 97, 53, 87, 185, 134, 193, 29, 158, 225, 248, 152, 17, 105, 217, 142, 148, 155, 30, 135, 233, 206, 85, 40, 223, 140, 161, 137, 13, 191, 230, 66, 104, 65, 153, 45, 15, 176, 84, 187, 22]
def sboxL : List B8 := sboxN.map (BitVec.ofNat 8)
def sb (b : B8) : B8 := BitVec.ofNat 8 (sboxN.getD b.toNat 0)
theorem sboxL_len : sboxL.length = 256 := rfl
theorem sboxL_get (b : B8) : sboxL[b.toNat]? = some (sb b) := by
 have h : b.toNat < sboxN.length := b.isLt
 rw [sboxL, List.getElem?_map, sb, List.getD_eq_getElem?_getD, List.getElem?_eq_getElem h]; rfl
theorem sbox_cell (b : B8) : (bys sboxL)[b.toNat]? = some (b8 (sb b)) := map_get (sboxL_get b)
theorem sb_at (v : AV) (b : B8) : (v :: bys sboxL)[1 + b.toNat]? = some (b8 (sb b)) := by rw [Nat.add_comm]; exact sbox_cell b
def tw (b : B8) : B8 := if b &&& 128#8 = 0#8 then b <<< 1 else (b <<< 1) ^^^ 27#8
def sq1 (q : B8) : B8 := q ^^^ q <<< 1
def sq2 (q : B8) : B8 := sq1 q ^^^ sq1 q <<< 2
def sq4 (q : B8) : B8 := sq2 q ^^^ sq2 q <<< 4
def sq9 (q : B8) : B8 := if sq4 q &&& 128#8 = 0#8 then sq4 q else sq4 q ^^^ 9#8
def aff (q : B8) : B8 := q ^^^ (q <<< 1 ||| q >>> 7) ^^^ (q <<< 2 ||| q >>> 6) ^^^ (q <<< 3 ||| q >>> 5) ^^^ (q <<< 4 ||| q >>> 4) ^^^ 99#8
def tabRun : Nat → B8 → B8 → List B8 → Option (List B8)
 | 0, _, _, _ => none
 | k + 1, p, q, s =>
  if p ^^^ tw p = 1#8 then some ((s.set (p ^^^ tw p).toNat (aff (sq9 q))).set 0 99#8) else tabRun k (p ^^^ tw p) (sq9 q) (s.set (p ^^^ tw p).toNat (aff (sq9 q)))
theorem tabRun_all : tabRun 255 1#8 1#8 (List.replicate 256 0#8) = some sboxL := by decide +kernel
end Go.Proofs.YtoegmnnecanhfaaGreatDoor
end
section
namespace Go.Proofs.YtoegmnnecanhfaaGreatDoor
open Go Go.Adm
set_option linter.unusedSimpArgs false
set_option maxRecDepth 100000
theorem ans_twice (b : B8) (m : Mem) : Ans Tryz.prog 49 [b8 b] m fun r m' => r = b8 (tw b) ∧ m' = m := by
 refine ans_ret mixed ok49 ?_
 unfold tw
 by_cases h : b &&& 128#8 = 0#8
 ·simp -implicitDefEqProofs only [Go.Adm.admB, Nat.le_refl, List.drop_zero, List.length_replicate, wantedA, evalAll, AX.eval, AFr.get, AFr.set, AFr.put, AFr.cut, frameOf, AK.loud, pMv, pPick, aPick, pNil, pArith, pShift, pCmp, pEq, pEqAgg, pNot, pNeg, pBnot, pConv, pArrPtr, pSlice, pSliceArr, pFieldAddr, pPart, pIdxAddr, pIdxAddrArr, pIdxArr, pIdxStr, pExtract, pLenStr, pLenArr, pMin, pMax, pIface, aArith, aShift, aCmp, aEq, aEqCk, aEqCells, aPart, bounds, bnd, rLoad, mkAlloc, mkBox, mkMake, rMark, mkS2b, w2, aStore, aFill, cellsV, AV.solid, undefA, resAll, resOne, resVal, pendOk, pastOk, cutCons, List.append_assoc, List.length_append, List.set_cons_zero, List.set_cons_succ, List.singleton_append, List.getElem?_cons_zero, List.getElem?_cons_succ, List.getElem?_nil, implies_true, false_implies, true_implies, Int.cast_ofNat_Int, Bool.and_true, Bool.true_and, Bool.false_and, Bool.and_false, Bool.or_true, Bool.or_false, Bool.true_or, Bool.false_or, Option.bind_some, Option.map_some, Option.bind_none, Option.map_none, Option.isSome_some, if_true, if_false, reduceCtorEq, Nat.reduceAdd, Nat.reduceEqDiff, Nat.reduceMod, Nat.reduceLT, Nat.reduceLeDiff, Nat.reduceSub, Nat.reduceMul, Int.reduceAdd, Int.reduceSub, Int.reduceMul, Int.reduceNeg, Int.reduceLT, Int.reduceLE, Int.reduceToNat, Bool.false_eq_true, beq_self_eq_true, ↓reduceIte, List.length_nil, List.length_cons, List.take, List.drop, List.nil_append, List.cons_append, beq_true, beq_false, Bool.not_true, Bool.not_false, Nat.zero_add, Nat.add_zero, Nat.mul_one, and_true, true_and, List.append_nil, decide_true, decide_false, not_true_eq_false, not_false_eq_true, c49, r49, and_vl_u8, beql_u8 (show 0 < 2 ^ 8 by decide), h, shl_u8]
 ·have h' : (b &&& 128#8 == 0#8) = false := by simpa using h
  simp -implicitDefEqProofs only [Go.Adm.admB, Nat.le_refl, List.drop_zero, List.length_replicate, wantedA, evalAll, AX.eval, AFr.get, AFr.set, AFr.put, AFr.cut, frameOf, AK.loud, pMv, pPick, aPick, pNil, pArith, pShift, pCmp, pEq, pEqAgg, pNot, pNeg, pBnot, pConv, pArrPtr, pSlice, pSliceArr, pFieldAddr, pPart, pIdxAddr, pIdxAddrArr, pIdxArr, pIdxStr, pExtract, pLenStr, pLenArr, pMin, pMax, pIface, aArith, aShift, aCmp, aEq, aEqCk, aEqCells, aPart, bounds, bnd, rLoad, mkAlloc, mkBox, mkMake, rMark, mkS2b, w2, aStore, aFill, cellsV, AV.solid, undefA, resAll, resOne, resVal, pendOk, pastOk, cutCons, List.append_assoc, List.length_append, List.set_cons_zero, List.set_cons_succ, List.singleton_append, List.getElem?_cons_zero, List.getElem?_cons_succ, List.getElem?_nil, implies_true, false_implies, true_implies, Int.cast_ofNat_Int, Bool.and_true, Bool.true_and, Bool.false_and, Bool.and_false, Bool.or_true, Bool.or_false, Bool.true_or, Bool.false_or, Option.bind_some, Option.map_some, Option.bind_none, Option.map_none, Option.isSome_some, if_true, if_false, reduceCtorEq, Nat.reduceAdd, Nat.reduceEqDiff, Nat.reduceMod, Nat.reduceLT, Nat.reduceLeDiff, Nat.reduceSub, Nat.reduceMul, Int.reduceAdd, Int.reduceSub, Int.reduceMul, Int.reduceNeg, Int.reduceLT, Int.reduceLE, Int.reduceToNat, Bool.false_eq_true, beq_self_eq_true, ↓reduceIte, List.length_nil, List.length_cons, List.take, List.drop, List.nil_append, List.cons_append, beq_true, beq_false, Bool.not_true, Bool.not_false, Nat.zero_add, Nat.add_zero, Nat.mul_one, and_true, true_and, List.append_nil, decide_true, decide_false, not_true_eq_false, not_false_eq_true, c49, r49, and_vl_u8, beql_u8 (show 0 < 2 ^ 8 by decide), h, h', shl_u8, xor_vl_u8]
structure TabS where
 k : Nat
 p : B8
 q : B8
 s : List B8
def tabFr (m : Mem) (z : TabS) : AFr := [(0, .ptr m.length 0), (1, .ptr (m.length + 1) 0), (2, b8 z.p), (3, b8 z.q)]
def tabM (m : Mem) (s : List B8) : Mem := m ++ [.row (bys (List.replicate 256 0#8)) false, .row (bys s) false]
theorem ans_table (m : Mem) : Ans Tryz.prog 48 [] m fun r m' => r = .agg (bys sboxL) ∧ Kept [] m m' := by
 refine ans_ret mixed ok48 ?_
 simp -implicitDefEqProofs only [Go.Adm.admB, Nat.le_refl, List.drop_zero, List.length_replicate, wantedA, evalAll, AX.eval, AFr.get, AFr.set, AFr.put, AFr.cut, frameOf, AK.loud, pMv, pPick, aPick, pNil, pArith, pShift, pCmp, pEq, pEqAgg, pNot, pNeg, pBnot, pConv, pArrPtr, pSlice, pSliceArr, pFieldAddr, pPart, pIdxAddr, pIdxAddrArr, pIdxArr, pIdxStr, pExtract, pLenStr, pLenArr, pMin, pMax, pIface, aArith, aShift, aCmp, aEq, aEqCk, aEqCells, aPart, bounds, bnd, rLoad, mkAlloc, mkBox, mkMake, rMark, mkS2b, w2, aStore, aFill, cellsV, AV.solid, undefA, resAll, resOne, resVal, pendOk, pastOk, cutCons, List.append_assoc, List.length_append, List.set_cons_zero, List.set_cons_succ, List.singleton_append, List.getElem?_cons_zero, List.getElem?_cons_succ, List.getElem?_nil, implies_true, false_implies, true_implies, Int.cast_ofNat_Int, Bool.and_true, Bool.true_and, Bool.false_and, Bool.and_false, Bool.or_true, Bool.or_false, Bool.true_or, Bool.false_or, Option.bind_some, Option.map_some, Option.bind_none, Option.map_none, Option.isSome_some, if_true, if_false, reduceCtorEq, Nat.reduceAdd, Nat.reduceEqDiff, Nat.reduceMod, Nat.reduceLT, Nat.reduceLeDiff, Nat.reduceSub, Nat.reduceMul, Int.reduceAdd, Int.reduceSub, Int.reduceMul, Int.reduceNeg, Int.reduceLT, Int.reduceLE, Int.reduceToNat, Bool.false_eq_true, beq_self_eq_true, ↓reduceIte, List.length_nil, List.length_cons, List.take, List.drop, List.nil_append, List.cons_append, beq_true, beq_false, Bool.not_true, Bool.not_false, Nat.zero_add, Nat.add_zero, Nat.mul_one, and_true, true_and, List.append_nil, decide_true, decide_false, not_true_eq_false, not_false_eq_true, c48, r48]
 rw [bys_rep]
 refine LoopW.on (tabFr m) (fun z => z.k) (fun z m' => tabRun z.k z.p z.q z.s = some sboxL ∧ z.s.length = 256 ∧ m' = tabM m z.s) ?_ ⟨255, 1#8, 1#8, List.replicate 256 0#8⟩ _ _ rfl ⟨tabRun_all, by simp, rfl⟩
 rintro ⟨k, p, q, s⟩ m' X ⟨hr, hl, rfl⟩ hX
 dsimp only at hr hl
 simp only [tabFr, tabM]
 cases k with
 | zero => cases hr
 | succ k =>
 simp -implicitDefEqProofs only [Go.Adm.admB, Nat.le_refl, List.drop_zero, List.length_replicate, wantedA, evalAll, AX.eval, AFr.get, AFr.set, AFr.put, AFr.cut, frameOf, AK.loud, pMv, pPick, aPick, pNil, pArith, pShift, pCmp, pEq, pEqAgg, pNot, pNeg, pBnot, pConv, pArrPtr, pSlice, pSliceArr, pFieldAddr, pPart, pIdxAddr, pIdxAddrArr, pIdxArr, pIdxStr, pExtract, pLenStr, pLenArr, pMin, pMax, pIface, aArith, aShift, aCmp, aEq, aEqCk, aEqCells, aPart, bounds, bnd, rLoad, mkAlloc, mkBox, mkMake, rMark, mkS2b, w2, aStore, aFill, cellsV, AV.solid, undefA, resAll, resOne, resVal, pendOk, pastOk, cutCons, List.append_assoc, List.length_append, List.set_cons_zero, List.set_cons_succ, List.singleton_append, List.getElem?_cons_zero, List.getElem?_cons_succ, List.getElem?_nil, implies_true, false_implies, true_implies, Int.cast_ofNat_Int, Bool.and_true, Bool.true_and, Bool.false_and, Bool.and_false, Bool.or_true, Bool.or_false, Bool.true_or, Bool.false_or, Option.bind_some, Option.map_some, Option.bind_none, Option.map_none, Option.isSome_some, if_true, if_false, reduceCtorEq, Nat.reduceAdd, Nat.reduceEqDiff, Nat.reduceMod, Nat.reduceLT, Nat.reduceLeDiff, Nat.reduceSub, Nat.reduceMul, Int.reduceAdd, Int.reduceSub, Int.reduceMul, Int.reduceNeg, Int.reduceLT, Int.reduceLE, Int.reduceToNat, Bool.false_eq_true, beq_self_eq_true, ↓reduceIte, List.length_nil, List.length_cons, List.take, List.drop, List.nil_append, List.cons_append, beq_true, beq_false, Bool.not_true, Bool.not_false, Nat.zero_add, Nat.add_zero, Nat.mul_one, and_true, true_and, List.append_nil, decide_true, decide_false, not_true_eq_false, not_false_eq_true]
 refine (ans_twice p _).mono ?_
 rintro _ m1 ⟨rfl, rfl⟩
 have hp := in_u8 (p ^^^ tw p)
 have hpl : (p ^^^ tw p).toNat < 256 := (p ^^^ tw p).isLt
 have hle : (p ^^^ tw p).toNat + 1 ≤ 256 := hpl
 have hsp : ∀ x, splice (bys s) (p ^^^ tw p).toNat [b8 x] = bys (s.set (p ^^^ tw p).toNat x) := fun x => splice_map (by omega)
 have hz : ∀ x, splice (bys (s.set (p ^^^ tw p).toNat x)) 0 [b8 99#8] = bys ((s.set (p ^^^ tw p).toNat x).set 0 99#8) := fun x => splice_map (by simp; omega)
 simp -implicitDefEqProofs only [Go.Adm.admB, Nat.le_refl, List.drop_zero, List.length_replicate, wantedA, evalAll, AX.eval, AFr.get, AFr.set, AFr.put, AFr.cut, frameOf, AK.loud, pMv, pPick, aPick, pNil, pArith, pShift, pCmp, pEq, pEqAgg, pNot, pNeg, pBnot, pConv, pArrPtr, pSlice, pSliceArr, pFieldAddr, pPart, pIdxAddr, pIdxAddrArr, pIdxArr, pIdxStr, pExtract, pLenStr, pLenArr, pMin, pMax, pIface, aArith, aShift, aCmp, aEq, aEqCk, aEqCells, aPart, bounds, bnd, rLoad, mkAlloc, mkBox, mkMake, rMark, mkS2b, w2, aStore, aFill, cellsV, AV.solid, undefA, resAll, resOne, resVal, pendOk, pastOk, cutCons, List.append_assoc, List.length_append, List.set_cons_zero, List.set_cons_succ, List.singleton_append, List.getElem?_cons_zero, List.getElem?_cons_succ, List.getElem?_nil, implies_true, false_implies, true_implies, Int.cast_ofNat_Int, Bool.and_true, Bool.true_and, Bool.false_and, Bool.and_false, Bool.or_true, Bool.or_false, Bool.true_or, Bool.false_or, Option.bind_some, Option.map_some, Option.bind_none, Option.map_none, Option.isSome_some, if_true, if_false, reduceCtorEq, Nat.reduceAdd, Nat.reduceEqDiff, Nat.reduceMod, Nat.reduceLT, Nat.reduceLeDiff, Nat.reduceSub, Nat.reduceMul, Int.reduceAdd, Int.reduceSub, Int.reduceMul, Int.reduceNeg, Int.reduceLT, Int.reduceLE, Int.reduceToNat, Bool.false_eq_true, beq_self_eq_true, ↓reduceIte, List.length_nil, List.length_cons, List.take, List.drop, List.nil_append, List.cons_append, beq_true, beq_false, Bool.not_true, Bool.not_false, Nat.zero_add, Nat.add_zero, Nat.mul_one, and_true, true_and, List.append_nil, decide_true, decide_false, not_true_eq_false, not_false_eq_true, xor_vv_u8, xor_vl_u8, or_vv_u8, and_vl_u8, shl_u8, shr_u8, beql_u8 (show 0 < 2 ^ 8 by decide), beql_u8 (show 1 < 2 ^ 8 by decide)]
 have hq : q ^^^ q <<< 1 ^^^ (q ^^^ q <<< 1) <<< 2 ^^^ (q ^^^ q <<< 1 ^^^ (q ^^^ q <<< 1) <<< 2) <<< 4 = sq4 q := rfl
 have fin : ∀ (t : AFr), AFr.cut [0, 1, 2, 3] t = tabFr m ⟨k, p ^^^ tw p, sq9 q, s.set (p ^^^ tw p).toNat (aff (sq9 q))⟩ → p ^^^ tw p ≠ 1#8 → X t (tabM m (s.set (p ^^^ tw p).toNat (aff (sq9 q)))) := by
  intro t ht hne
  rw [tabRun, if_neg hne] at hr
  exact hX ⟨k, _, _, _⟩ _ _ ht (by simp) ⟨hr, by simp [hl], rfl⟩
 have ret : p ^^^ tw p = 1#8 → bys ((s.set (p ^^^ tw p).toNat (aff (sq9 q))).set 0 99#8) = bys sboxL := by
  intro h
  rw [tabRun, if_pos h, Option.some.injEq] at hr
  rw [hr]
 simp only [hq, beq_iff_eq]
 have hl1 : ∀ x, (bys (s.set (p ^^^ tw p).toNat x)).length = 256 := fun x => by simp [hl]
 have hlz : ∀ x, (bys ((s.set (p ^^^ tw p).toNat x).set 0 99#8)).length = 256 := fun x => by simp [hl]
 have htk : ∀ x, List.take 256 (bys ((s.set (p ^^^ tw p).toNat x).set 0 99#8)) = bys ((s.set (p ^^^ tw p).toNat x).set 0 99#8) := fun x => List.take_of_length_le (by simp [hl])
 have hsa : ∀ x, splice (bys (List.replicate 256 0#8)) 0 (bys ((s.set (p ^^^ tw p).toNat x).set 0 99#8)) = bys ((s.set (p ^^^ tw p).toNat x).set 0 99#8) := fun x => splice_all (by simp [hl])
 have haff : ∀ z : B8, z ^^^ (z <<< 1 ||| z >>> 7) ^^^ (z <<< 2 ||| z >>> 6) ^^^ (z <<< 3 ||| z >>> 5) ^^^ (z <<< 4 ||| z >>> 4) ^^^ 99#8 = aff z := fun _ => rfl
 have hz0 : ∀ x, splice (bys (s.set (p ^^^ tw p).toNat x)) 0 [.int .u8 99] = bys ((s.set (p ^^^ tw p).toNat x).set 0 99#8) := hz
 by_cases h : sq4 q &&& 128#8 = 0#8
 ·have e9 : sq4 q = sq9 q := by rw [sq9, if_pos h]
  simp only [h, beq_self_eq_true, Bool.not_true]
  cases h1 : p ^^^ tw p == 1#8
  ·simp -implicitDefEqProofs only [Go.Adm.admB, Nat.le_refl, List.drop_zero, List.length_replicate, wantedA, evalAll, AX.eval, AFr.get, AFr.set, AFr.put, AFr.cut, frameOf, AK.loud, pMv, pPick, aPick, pNil, pArith, pShift, pCmp, pEq, pEqAgg, pNot, pNeg, pBnot, pConv, pArrPtr, pSlice, pSliceArr, pFieldAddr, pPart, pIdxAddr, pIdxAddrArr, pIdxArr, pIdxStr, pExtract, pLenStr, pLenArr, pMin, pMax, pIface, aArith, aShift, aCmp, aEq, aEqCk, aEqCells, aPart, bounds, bnd, rLoad, mkAlloc, mkBox, mkMake, rMark, mkS2b, w2, aStore, aFill, cellsV, AV.solid, undefA, resAll, resOne, resVal, pendOk, pastOk, cutCons, List.append_assoc, List.length_append, List.set_cons_zero, List.set_cons_succ, List.singleton_append, List.getElem?_cons_zero, List.getElem?_cons_succ, List.getElem?_nil, implies_true, false_implies, true_implies, Int.cast_ofNat_Int, Bool.and_true, Bool.true_and, Bool.false_and, Bool.and_false, Bool.or_true, Bool.or_false, Bool.true_or, Bool.false_or, Option.bind_some, Option.map_some, Option.bind_none, Option.map_none, Option.isSome_some, if_true, if_false, reduceCtorEq, Nat.reduceAdd, Nat.reduceEqDiff, Nat.reduceMod, Nat.reduceLT, Nat.reduceLeDiff, Nat.reduceSub, Nat.reduceMul, Int.reduceAdd, Int.reduceSub, Int.reduceMul, Int.reduceNeg, Int.reduceLT, Int.reduceLE, Int.reduceToNat, Bool.false_eq_true, beq_self_eq_true, ↓reduceIte, List.length_nil, List.length_cons, List.take, List.drop, List.nil_append, List.cons_append, beq_true, beq_false, Bool.not_true, Bool.not_false, Nat.zero_add, Nat.add_zero, Nat.mul_one, and_true, true_and, List.append_nil, decide_true, decide_false, not_true_eq_false, not_false_eq_true, h, hp, h1, Int.toNat_natCast, hl, hle, hsp, e9, bys_len, List.length_replicate, shl_u8, shr_u8, or_vv_u8, xor_vv_u8, xor_vl_u8, beql_u8 (show 1 < 2 ^ 8 by decide), haff]
   exact fin _ rfl (by simpa using h1)
  ·simp -implicitDefEqProofs only [Go.Adm.admB, Nat.le_refl, List.drop_zero, List.length_replicate, wantedA, evalAll, AX.eval, AFr.get, AFr.set, AFr.put, AFr.cut, frameOf, AK.loud, pMv, pPick, aPick, pNil, pArith, pShift, pCmp, pEq, pEqAgg, pNot, pNeg, pBnot, pConv, pArrPtr, pSlice, pSliceArr, pFieldAddr, pPart, pIdxAddr, pIdxAddrArr, pIdxArr, pIdxStr, pExtract, pLenStr, pLenArr, pMin, pMax, pIface, aArith, aShift, aCmp, aEq, aEqCk, aEqCells, aPart, bounds, bnd, rLoad, mkAlloc, mkBox, mkMake, rMark, mkS2b, w2, aStore, aFill, cellsV, AV.solid, undefA, resAll, resOne, resVal, pendOk, pastOk, cutCons, List.append_assoc, List.length_append, List.set_cons_zero, List.set_cons_succ, List.singleton_append, List.getElem?_cons_zero, List.getElem?_cons_succ, List.getElem?_nil, implies_true, false_implies, true_implies, Int.cast_ofNat_Int, Bool.and_true, Bool.true_and, Bool.false_and, Bool.and_false, Bool.or_true, Bool.or_false, Bool.true_or, Bool.false_or, Option.bind_some, Option.map_some, Option.bind_none, Option.map_none, Option.isSome_some, if_true, if_false, reduceCtorEq, Nat.reduceAdd, Nat.reduceEqDiff, Nat.reduceMod, Nat.reduceLT, Nat.reduceLeDiff, Nat.reduceSub, Nat.reduceMul, Int.reduceAdd, Int.reduceSub, Int.reduceMul, Int.reduceNeg, Int.reduceLT, Int.reduceLE, Int.reduceToNat, Bool.false_eq_true, beq_self_eq_true, ↓reduceIte, List.length_nil, List.length_cons, List.take, List.drop, List.nil_append, List.cons_append, beq_true, beq_false, Bool.not_true, Bool.not_false, Nat.zero_add, Nat.add_zero, Nat.mul_one, and_true, true_and, List.append_nil, decide_true, decide_false, not_true_eq_false, not_false_eq_true, h, hp, h1, Int.toNat_natCast, hl, hle, hsp, e9, bys_len, List.length_replicate, shl_u8, shr_u8, or_vv_u8, xor_vv_u8, xor_vl_u8, beql_u8 (show 1 < 2 ^ 8 by decide), haff, hl1, hlz, htk, hsa, hz0, List.drop_zero, Nat.le_refl]
   exact ⟨by rw [ret (by simpa using h1)], .app _ _ _⟩
 ·have e9 : sq4 q ^^^ 9#8 = sq9 q := by rw [sq9, if_neg h]
  have h' : (sq4 q &&& 128#8 == 0#8) = false := by simpa using h
  cases h1 : p ^^^ tw p == 1#8
  ·simp -implicitDefEqProofs only [Go.Adm.admB, Nat.le_refl, List.drop_zero, List.length_replicate, wantedA, evalAll, AX.eval, AFr.get, AFr.set, AFr.put, AFr.cut, frameOf, AK.loud, pMv, pPick, aPick, pNil, pArith, pShift, pCmp, pEq, pEqAgg, pNot, pNeg, pBnot, pConv, pArrPtr, pSlice, pSliceArr, pFieldAddr, pPart, pIdxAddr, pIdxAddrArr, pIdxArr, pIdxStr, pExtract, pLenStr, pLenArr, pMin, pMax, pIface, aArith, aShift, aCmp, aEq, aEqCk, aEqCells, aPart, bounds, bnd, rLoad, mkAlloc, mkBox, mkMake, rMark, mkS2b, w2, aStore, aFill, cellsV, AV.solid, undefA, resAll, resOne, resVal, pendOk, pastOk, cutCons, List.append_assoc, List.length_append, List.set_cons_zero, List.set_cons_succ, List.singleton_append, List.getElem?_cons_zero, List.getElem?_cons_succ, List.getElem?_nil, implies_true, false_implies, true_implies, Int.cast_ofNat_Int, Bool.and_true, Bool.true_and, Bool.false_and, Bool.and_false, Bool.or_true, Bool.or_false, Bool.true_or, Bool.false_or, Option.bind_some, Option.map_some, Option.bind_none, Option.map_none, Option.isSome_some, if_true, if_false, reduceCtorEq, Nat.reduceAdd, Nat.reduceEqDiff, Nat.reduceMod, Nat.reduceLT, Nat.reduceLeDiff, Nat.reduceSub, Nat.reduceMul, Int.reduceAdd, Int.reduceSub, Int.reduceMul, Int.reduceNeg, Int.reduceLT, Int.reduceLE, Int.reduceToNat, Bool.false_eq_true, beq_self_eq_true, ↓reduceIte, List.length_nil, List.length_cons, List.take, List.drop, List.nil_append, List.cons_append, beq_true, beq_false, Bool.not_true, Bool.not_false, Nat.zero_add, Nat.add_zero, Nat.mul_one, and_true, true_and, List.append_nil, decide_true, decide_false, not_true_eq_false, not_false_eq_true, h, h', hp, h1, Int.toNat_natCast, hl, hle, hsp, e9, bys_len, List.length_replicate, shl_u8, shr_u8, or_vv_u8, xor_vv_u8, xor_vl_u8, beql_u8 (show 1 < 2 ^ 8 by decide), haff]
   exact fin _ rfl (by simpa using h1)
  ·simp -implicitDefEqProofs only [Go.Adm.admB, Nat.le_refl, List.drop_zero, List.length_replicate, wantedA, evalAll, AX.eval, AFr.get, AFr.set, AFr.put, AFr.cut, frameOf, AK.loud, pMv, pPick, aPick, pNil, pArith, pShift, pCmp, pEq, pEqAgg, pNot, pNeg, pBnot, pConv, pArrPtr, pSlice, pSliceArr, pFieldAddr, pPart, pIdxAddr, pIdxAddrArr, pIdxArr, pIdxStr, pExtract, pLenStr, pLenArr, pMin, pMax, pIface, aArith, aShift, aCmp, aEq, aEqCk, aEqCells, aPart, bounds, bnd, rLoad, mkAlloc, mkBox, mkMake, rMark, mkS2b, w2, aStore, aFill, cellsV, AV.solid, undefA, resAll, resOne, resVal, pendOk, pastOk, cutCons, List.append_assoc, List.length_append, List.set_cons_zero, List.set_cons_succ, List.singleton_append, List.getElem?_cons_zero, List.getElem?_cons_succ, List.getElem?_nil, implies_true, false_implies, true_implies, Int.cast_ofNat_Int, Bool.and_true, Bool.true_and, Bool.false_and, Bool.and_false, Bool.or_true, Bool.or_false, Bool.true_or, Bool.false_or, Option.bind_some, Option.map_some, Option.bind_none, Option.map_none, Option.isSome_some, if_true, if_false, reduceCtorEq, Nat.reduceAdd, Nat.reduceEqDiff, Nat.reduceMod, Nat.reduceLT, Nat.reduceLeDiff, Nat.reduceSub, Nat.reduceMul, Int.reduceAdd, Int.reduceSub, Int.reduceMul, Int.reduceNeg, Int.reduceLT, Int.reduceLE, Int.reduceToNat, Bool.false_eq_true, beq_self_eq_true, ↓reduceIte, List.length_nil, List.length_cons, List.take, List.drop, List.nil_append, List.cons_append, beq_true, beq_false, Bool.not_true, Bool.not_false, Nat.zero_add, Nat.add_zero, Nat.mul_one, and_true, true_and, List.append_nil, decide_true, decide_false, not_true_eq_false, not_false_eq_true, h, h', hp, h1, Int.toNat_natCast, hl, hle, hsp, e9, bys_len, List.length_replicate, shl_u8, shr_u8, or_vv_u8, xor_vv_u8, xor_vl_u8, beql_u8 (show 1 < 2 ^ 8 by decide), haff, hl1, hlz, htk, hsa, hz0, List.drop_zero, Nat.le_refl]
   exact ⟨by rw [ret (by simpa using h1)], .app _ _ _⟩
def ovr (a b : List B8) : List B8 := tab 16 fun j => gb a j ^^^ gb b j
theorem ovr_len (a b : List B8) : (ovr a b).length = 16 := tab_len _ _
theorem ans_ovr (a b : List B8) (ha : a.length = 16) (hb : b.length = 16) (m : Mem) : Ans Tryz.prog 151 [.agg (bys a), .agg (bys b)] m fun r m' => r = .agg (bys (ovr a b)) ∧ Kept [] m m' := by
 refine ans_ret mixed ok151 ?_
 simp -implicitDefEqProofs only [Go.Adm.admB, Nat.le_refl, List.drop_zero, List.length_replicate, wantedA, evalAll, AX.eval, AFr.get, AFr.set, AFr.put, AFr.cut, frameOf, AK.loud, pMv, pPick, aPick, pNil, pArith, pShift, pCmp, pEq, pEqAgg, pNot, pNeg, pBnot, pConv, pArrPtr, pSlice, pSliceArr, pFieldAddr, pPart, pIdxAddr, pIdxAddrArr, pIdxArr, pIdxStr, pExtract, pLenStr, pLenArr, pMin, pMax, pIface, aArith, aShift, aCmp, aEq, aEqCk, aEqCells, aPart, bounds, bnd, rLoad, mkAlloc, mkBox, mkMake, rMark, mkS2b, w2, aStore, aFill, cellsV, AV.solid, undefA, resAll, resOne, resVal, pendOk, pastOk, cutCons, List.append_assoc, List.length_append, List.set_cons_zero, List.set_cons_succ, List.singleton_append, List.getElem?_cons_zero, List.getElem?_cons_succ, List.getElem?_nil, implies_true, false_implies, true_implies, Int.cast_ofNat_Int, Bool.and_true, Bool.true_and, Bool.false_and, Bool.and_false, Bool.or_true, Bool.or_false, Bool.true_or, Bool.false_or, Option.bind_some, Option.map_some, Option.bind_none, Option.map_none, Option.isSome_some, if_true, if_false, reduceCtorEq, Nat.reduceAdd, Nat.reduceEqDiff, Nat.reduceMod, Nat.reduceLT, Nat.reduceLeDiff, Nat.reduceSub, Nat.reduceMul, Int.reduceAdd, Int.reduceSub, Int.reduceMul, Int.reduceNeg, Int.reduceLT, Int.reduceLE, Int.reduceToNat, Bool.false_eq_true, beq_self_eq_true, ↓reduceIte, List.length_nil, List.length_cons, List.take, List.drop, List.nil_append, List.cons_append, beq_true, beq_false, Bool.not_true, Bool.not_false, Nat.zero_add, Nat.add_zero, Nat.mul_one, and_true, true_and, List.append_nil, decide_true, decide_false, not_true_eq_false, not_false_eq_true, c151, r151]
 rw [bys_rep]
 refine LoopW.on (fun i : Nat => [(2, .ptr m.length 0), (3, .ptr (m.length + 1) 0), (4, .ptr (m.length + 1 + 1) 0), (6, .int .i64 i)]) (fun i => 16 - i) (fun i m' => i ≤ 16 ∧ m' = m ++ [.row (bys (upTo 16 (fun j => gb a j ^^^ gb b j) (gb a) i)) false, .row (bys b) false, .row (bys (List.replicate 16 0#8)) false]) ?_ 0 _ _ rfl ⟨by omega, by rw [upTo_zero, tab_gb ha]⟩
 rintro i m' X ⟨hi, rfl⟩ hX
 by_cases h : (i : Int) < 16
 ·have h1 : (0 : Int) ≤ (i : Int) ∧ (i : Int) < 16 := ⟨by omega, h⟩
  have hi' : i < 16 := by omega
  have g1 : (bys (upTo 16 (fun j => gb a j ^^^ gb b j) (gb a) i))[i]? = some (b8 (gb a i)) := upTo_map_get hi'
  have g2 := bys_get hb hi'
  have g3 : splice (bys (upTo 16 (fun j => gb a j ^^^ gb b j) (gb a) i)) i [b8 (gb a i ^^^ gb b i)] = _ := splice_upTo (c := b8) (f := fun j => gb a j ^^^ gb b j) hi'
  have g4 : i + 1 ≤ 16 := hi'
  have g5 : IntKind.i64.wrap ((i : Int) + 1) = _ := wrap_succ (by omega)
  simp -implicitDefEqProofs only [Go.Adm.admB, Nat.le_refl, List.drop_zero, List.length_replicate, wantedA, evalAll, AX.eval, AFr.get, AFr.set, AFr.put, AFr.cut, frameOf, AK.loud, pMv, pPick, aPick, pNil, pArith, pShift, pCmp, pEq, pEqAgg, pNot, pNeg, pBnot, pConv, pArrPtr, pSlice, pSliceArr, pFieldAddr, pPart, pIdxAddr, pIdxAddrArr, pIdxArr, pIdxStr, pExtract, pLenStr, pLenArr, pMin, pMax, pIface, aArith, aShift, aCmp, aEq, aEqCk, aEqCells, aPart, bounds, bnd, rLoad, mkAlloc, mkBox, mkMake, rMark, mkS2b, w2, aStore, aFill, cellsV, AV.solid, undefA, resAll, resOne, resVal, pendOk, pastOk, cutCons, List.append_assoc, List.length_append, List.set_cons_zero, List.set_cons_succ, List.singleton_append, List.getElem?_cons_zero, List.getElem?_cons_succ, List.getElem?_nil, implies_true, false_implies, true_implies, Int.cast_ofNat_Int, Bool.and_true, Bool.true_and, Bool.false_and, Bool.and_false, Bool.or_true, Bool.or_false, Bool.true_or, Bool.false_or, Option.bind_some, Option.map_some, Option.bind_none, Option.map_none, Option.isSome_some, if_true, if_false, reduceCtorEq, Nat.reduceAdd, Nat.reduceEqDiff, Nat.reduceMod, Nat.reduceLT, Nat.reduceLeDiff, Nat.reduceSub, Nat.reduceMul, Int.reduceAdd, Int.reduceSub, Int.reduceMul, Int.reduceNeg, Int.reduceLT, Int.reduceLE, Int.reduceToNat, Bool.false_eq_true, beq_self_eq_true, ↓reduceIte, List.length_nil, List.length_cons, List.take, List.drop, List.nil_append, List.cons_append, beq_true, beq_false, Bool.not_true, Bool.not_false, Nat.zero_add, Nat.add_zero, Nat.mul_one, and_true, true_and, List.append_nil, decide_true, decide_false, not_true_eq_false, not_false_eq_true, h, h1, g1, g2, g3, g4, g5, Int.toNat_natCast, xor_vv_u8, List.length_map, upTo_len]
  exact hX (i + 1) _ _ rfl (by omega) ⟨by omega, rfl⟩
 ·obtain rfl : i = 16 := by omega
  have g1 : List.take 16 (bys (upTo 16 (fun j => gb a j ^^^ gb b j) (gb a) 16)) = bys (ovr a b) := by rw [upTo_all, List.take_of_length_le (by simp [tab_len])]; rfl
  have g2 : splice (bys (List.replicate 16 0#8)) 0 (bys (ovr a b)) = bys (ovr a b) := splice_all (by simp [ovr_len])
  have g3 : List.take 16 (bys (ovr a b)) = bys (ovr a b) := List.take_of_length_le (by simp [ovr_len])
  simp -implicitDefEqProofs only [Go.Adm.admB, Nat.le_refl, List.drop_zero, List.length_replicate, wantedA, evalAll, AX.eval, AFr.get, AFr.set, AFr.put, AFr.cut, frameOf, AK.loud, pMv, pPick, aPick, pNil, pArith, pShift, pCmp, pEq, pEqAgg, pNot, pNeg, pBnot, pConv, pArrPtr, pSlice, pSliceArr, pFieldAddr, pPart, pIdxAddr, pIdxAddrArr, pIdxArr, pIdxStr, pExtract, pLenStr, pLenArr, pMin, pMax, pIface, aArith, aShift, aCmp, aEq, aEqCk, aEqCells, aPart, bounds, bnd, rLoad, mkAlloc, mkBox, mkMake, rMark, mkS2b, w2, aStore, aFill, cellsV, AV.solid, undefA, resAll, resOne, resVal, pendOk, pastOk, cutCons, List.append_assoc, List.length_append, List.set_cons_zero, List.set_cons_succ, List.singleton_append, List.getElem?_cons_zero, List.getElem?_cons_succ, List.getElem?_nil, implies_true, false_implies, true_implies, Int.cast_ofNat_Int, Bool.and_true, Bool.true_and, Bool.false_and, Bool.and_false, Bool.or_true, Bool.or_false, Bool.true_or, Bool.false_or, Option.bind_some, Option.map_some, Option.bind_none, Option.map_none, Option.isSome_some, if_true, if_false, reduceCtorEq, Nat.reduceAdd, Nat.reduceEqDiff, Nat.reduceMod, Nat.reduceLT, Nat.reduceLeDiff, Nat.reduceSub, Nat.reduceMul, Int.reduceAdd, Int.reduceSub, Int.reduceMul, Int.reduceNeg, Int.reduceLT, Int.reduceLE, Int.reduceToNat, Bool.false_eq_true, beq_self_eq_true, ↓reduceIte, List.length_nil, List.length_cons, List.take, List.drop, List.nil_append, List.cons_append, beq_true, beq_false, Bool.not_true, Bool.not_false, Nat.zero_add, Nat.add_zero, Nat.mul_one, and_true, true_and, List.append_nil, decide_true, decide_false, not_true_eq_false, not_false_eq_true, List.length_map, upTo_len, ovr_len, g1, g2, g3, Nat.le_refl, List.drop_zero, List.length_replicate]
  exact .app _ _ _
def mixC (s : List B8) (j : Nat) : B8 :=
 gb s j ^^^ (gb s (4 * (j / 4)) ^^^ gb s (4 * (j / 4) + 1) ^^^ gb s (4 * (j / 4) + 2) ^^^ gb s (4 * (j / 4) + 3)) ^^^ tw (gb s j ^^^ gb s (4 * (j / 4) + (j % 4 + 1) % 4))
def mixB (s : List B8) : List B8 := tab 16 (mixC s)
theorem mixB_len (s : List B8) : (mixB s).length = 16 := tab_len _ _
def mixM (m : Mem) (s : List B8) (j : Nat) : Mem := m ++ [.row (bys s) false, .row (bys (List.replicate 16 0#8)) false, .row (bys (upTo 16 (mixC s) (fun _ => 0#8) j)) false]
def lq2 := And.intro @lenB (And.intro @ovr_len (@mixB_len))
theorem ans_mix (s : List B8) (hs : s.length = 16) (m : Mem) : Ans Tryz.prog 152 [.agg (bys s)] m fun r m' => r = .agg (bys (mixB s)) ∧ Kept [] m m' := by
 refine ans_ret mixed ok152 ?_
 simp -implicitDefEqProofs only [Go.Adm.admB, Nat.le_refl, List.drop_zero, List.length_replicate, wantedA, evalAll, AX.eval, AFr.get, AFr.set, AFr.put, AFr.cut, frameOf, AK.loud, pMv, pPick, aPick, pNil, pArith, pShift, pCmp, pEq, pEqAgg, pNot, pNeg, pBnot, pConv, pArrPtr, pSlice, pSliceArr, pFieldAddr, pPart, pIdxAddr, pIdxAddrArr, pIdxArr, pIdxStr, pExtract, pLenStr, pLenArr, pMin, pMax, pIface, aArith, aShift, aCmp, aEq, aEqCk, aEqCells, aPart, bounds, bnd, rLoad, mkAlloc, mkBox, mkMake, rMark, mkS2b, w2, aStore, aFill, cellsV, AV.solid, undefA, resAll, resOne, resVal, pendOk, pastOk, cutCons, List.append_assoc, List.length_append, List.set_cons_zero, List.set_cons_succ, List.singleton_append, List.getElem?_cons_zero, List.getElem?_cons_succ, List.getElem?_nil, implies_true, false_implies, true_implies, Int.cast_ofNat_Int, Bool.and_true, Bool.true_and, Bool.false_and, Bool.and_false, Bool.or_true, Bool.or_false, Bool.true_or, Bool.false_or, Option.bind_some, Option.map_some, Option.bind_none, Option.map_none, Option.isSome_some, if_true, if_false, reduceCtorEq, Nat.reduceAdd, Nat.reduceEqDiff, Nat.reduceMod, Nat.reduceLT, Nat.reduceLeDiff, Nat.reduceSub, Nat.reduceMul, Int.reduceAdd, Int.reduceSub, Int.reduceMul, Int.reduceNeg, Int.reduceLT, Int.reduceLE, Int.reduceToNat, Bool.false_eq_true, beq_self_eq_true, ↓reduceIte, List.length_nil, List.length_cons, List.take, List.drop, List.nil_append, List.cons_append, beq_true, beq_false, Bool.not_true, Bool.not_false, Nat.zero_add, Nat.add_zero, Nat.mul_one, and_true, true_and, List.append_nil, decide_true, decide_false, not_true_eq_false, not_false_eq_true, c152, r152]
 rw [bys_rep]
 refine LoopW.on (fun q : Nat => [(1, .ptr m.length 0), (2, .ptr (m.length + 1) 0), (3, .ptr (m.length + 1 + 1) 0), (4, .int .i64 ((4 * q : Nat) : Int))]) (fun q => 4 - q) (fun q m' => q ≤ 4 ∧ m' = mixM m s (4 * q)) ?_ 0 _ _ rfl ⟨by omega, by rw [mixM, Nat.mul_zero, upTo_zero, tab_const]⟩
 rintro q m' X ⟨hq, rfl⟩ hX
 simp only [mixM]
 by_cases h : q < 4
 ·simp -implicitDefEqProofs (disch := (first | omega | (simp only [lq2] <;> omega) | fail)) only [admQ, lq2, aFill, AK.cls, implies_true, if_true, if_false, seval, -List.reduceReplicate]
  refine LoopW.on (fun i : Nat => [(1, .ptr m.length 0), (2, .ptr (m.length + 1) 0), (3, .ptr (m.length + 1 + 1) 0), (4, .int .i64 ((4 * q : Nat) : Int)), (5, b8 (gb s (4 * q) ^^^ gb s (4 * q + 1) ^^^ gb s (4 * q + 2) ^^^ gb s (4 * q + 3))), (29, .int .i64 i)]) (fun i => 4 - i) (fun i m' => i ≤ 4 ∧ m' = mixM m s (4 * q + i)) ?_ 0 _ _ rfl ⟨by omega, rfl⟩
  rintro i m' X2 ⟨hi, rfl⟩ hX2
  simp only [mixM]
  by_cases h2 : i < 4
  ·have g3 : (upTo 16 (mixC s) (fun _ => 0#8) (4 * q + i)).set (4 * q + i) (mixC s (4 * q + i)) = _ := upTo_set
   have g4 : mixC s (4 * q + i) = gb s (4 * q + i) ^^^ (gb s (4 * q) ^^^ gb s (4 * q + 1) ^^^ gb s (4 * q + 2) ^^^ gb s (4 * q + 3)) ^^^ tw (gb s (4 * q + i) ^^^ gb s (4 * q + (i + 1) % 4)) := by
    rw [mixC, show 4 * ((4 * q + i) / 4) = 4 * q by omega, show (4 * q + i) % 4 = i by omega]
   rw [g4] at g3
   simp -implicitDefEqProofs (disch := (first | omega | (simp only [lq2] <;> omega) | fail)) only [admQ, lq2, aFill, AK.cls, implies_true, if_true, if_false, seval, -List.reduceReplicate]
   refine (ans_twice _ _).mono ?_
   rintro _ m1 ⟨rfl, rfl⟩
   simp -implicitDefEqProofs (disch := (first | omega | (simp only [lq2] <;> omega) | fail)) only [admQ, lq2, aFill, AK.cls, implies_true, if_true, if_false, seval, -List.reduceReplicate, splice_byte, g3]
   exact hX2 (i + 1) _ _ rfl (by omega) ⟨by omega, by rw [mixM, Nat.add_assoc]⟩
  ·obtain rfl : i = 4 := by omega
   simp -implicitDefEqProofs (disch := (first | omega | (simp only [lq2] <;> omega) | fail)) only [admQ, lq2, aFill, AK.cls, implies_true, if_true, if_false, seval, -List.reduceReplicate]
   exact hX (q + 1) _ _ rfl (by omega) ⟨by omega, rfl⟩
 ·obtain rfl : q = 4 := by omega
  have g1 : upTo 16 (mixC s) (fun _ => 0#8) (4 * 4) = mixB s := upTo_all _ _ _
  have g2 := mixB_len s
  simp -implicitDefEqProofs (disch := (first | omega | (simp only [lq2] <;> omega) | fail)) only [admQ, lq2, aFill, AK.cls, implies_true, if_true, if_false, seval, -List.reduceReplicate, g1]
  exact .app _ _ _
end Go.Proofs.YtoegmnnecanhfaaGreatDoor
end
section
namespace Go.Proofs.YtoegmnnecanhfaaGreatDoor
open Go Go.Adm
set_option linter.unusedSimpArgs false
set_option maxRecDepth 100000
def subs (s : List B8) : List B8 := tab 16 fun i => sb (gb s ((i + 4 * (i % 4)) % 16))
theorem subs_len (s : List B8) : (subs s).length = 16 := tab_len _ _
def keyAt (ks : List B8) (r : Nat) : List B8 := (ks.drop (r * 16)).take 16
def roundB (ks : List B8) (n r : Nat) (s : List B8) : List B8 := ovr (if r + 2 < n then mixB (subs s) else subs s) (keyAt ks (r + 1))
def runB (ks : List B8) (n : Nat) (s : List B8) : Nat → List B8
 | 0 => ovr s (keyAt ks 0)
 | r + 1 => roundB ks n r (runB ks n s r)
def blockB (ks : List B8) (n : Nat) (s : List B8) : List B8 := runB ks n s (n - 1)
theorem runB_len (ks : List B8) (n : Nat) (s : List B8) (r : Nat) : (runB ks n s r).length = 16 := by cases r <;> exact ovr_len _ _
theorem keyAt_len {ks : List B8} {n r : Nat} (h : ks.length = n * 16) (hr : r < n) : (keyAt ks r).length = 16 := by
 simp only [keyAt, List.length_take, List.length_drop]; omega
theorem keyAt_bys (ks : List B8) (r : Nat) : List.take 16 (List.drop (r * 16) (bys ks)) = bys (keyAt ks r) := by
 simp [keyAt, List.map_take, List.map_drop]
structure Ciph (m : Mem) (c kb n : Nat) (ks : List B8) : Prop where
 hd : rowOf m c = some (.sl kb 0 n n 16 :: bys sboxL)
 keys : rowOf m kb = some (bys ks)
 len : ks.length = n * 16
 pos : 2 ≤ n ∧ n ≤ 100
theorem Ciph.kept {X : List Nat} {m m' : Mem} {c kb n : Nat} {ks : List B8} (h : Ciph m c kb n ks) (hk : Kept X m m') (h1 : c ∉ X) (h2 : kb ∉ X) : Ciph m' c kb n ks :=
 ⟨hk.row h.hd h1, hk.row h.keys h2, h.len, h.pos⟩
theorem Ciph.app {m : Mem} {c kb n : Nat} {ks : List B8} (h : Ciph m c kb n ks) (e : Mem) : Ciph (m ++ e) c kb n ks := h.kept (.app [] _ _) (by simp) (by simp)
def lq3 := And.intro @lenB (And.intro @ovr_len (And.intro @mixB_len (And.intro @subs_len (@runB_len))))
theorem ans_block {m : Mem} {c kb n : Nat} {ks : List B8} (hc : Ciph m c kb n ks) (b : List B8) (hb : b.length = 16) : Ans Tryz.prog 150 [.ptr c 0, .agg (bys b)] m fun r m' => r = .agg (bys (blockB ks n b)) ∧ Kept [] m m' := by
 refine ans_ret mixed ok150 ?_
 have h1 := fun e => (hc.app e).hd
 have h2 := fun e => (hc.app e).keys
 have h3 := hc.len
 have h4 := hc.pos
 have h5 := keyAt_bys ks 0
 simp only [Nat.zero_mul, List.drop_zero] at h5
 simp -implicitDefEqProofs (disch := (first | omega | (simp only [lq3] <;> omega) | fail)) only [admQ, lq3, aFill, AK.cls, implies_true, if_true, if_false, seval, -List.reduceReplicate, c150, r150, h1, h2, h5]
 refine (ans_ovr _ _ hb (keyAt_len h3 (by omega)) _).mono ?_
 rintro _ m1 ⟨rfl, hk⟩
 obtain ⟨e1, rfl⟩ := hk.grow
 simp -implicitDefEqProofs (disch := (first | omega | (simp only [lq3] <;> omega) | fail)) only [admQ, lq3, aFill, AK.cls, implies_true, if_true, if_false, seval, -List.reduceReplicate, h1, h2, h5]
 generalize hM : m ++ Blk.row (bys b) false :: Blk.row _ false :: (e1 ++ [Blk.row (bys (ovr b (keyAt ks 0))) false]) = M
 generalize h5p : m.length + (e1.length + 1 + 1) = p5
 have o4 : own M (m.length + 1) = some (bys (List.replicate 16 0#8)) := by subst hM; simp -implicitDefEqProofs (disch := (first | omega | (simp only [lq3] <;> omega) | fail)) only [admQ, lq3, aFill, AK.cls, implies_true, if_true, if_false, seval, -List.reduceReplicate]
 have o5 : own M p5 = some (bys (runB ks n b 0)) := by subst hM h5p; simp -implicitDefEqProofs (disch := (first | omega | (simp only [lq3] <;> omega) | fail)) only [admQ, lq3, aFill, AK.cls, implies_true, if_true, if_false, seval, -List.reduceReplicate]; rfl
 have hk0 : Kept [] m M := by subst hM; exact .app _ _ _
 have hp5 : m.length + 1 < p5 := by omega
 clear hM h5p hk
 refine LoopW.on (fun r : Nat => [(0, .ptr c 0), (4, .ptr (m.length + 1) 0), (5, .ptr p5 0), (22, .sl kb 16 (n - 1) (n - 1) 16), (23, .int .i64 ((n - 1 : Nat) : Int)), (24, .int .i64 r)]) (fun r => n - 1 - r)
  (fun r m' => r ≤ n - 1 ∧ Kept [] m m' ∧ own m' (m.length + 1) = some (bys (List.replicate 16 0#8)) ∧ own m' p5 = some (bys (runB ks n b r))) ?_ 0 _ _ rfl ⟨by omega, hk0, o4, o5⟩
 clear o4 o5 hk0 M h1 h2 h5
 rintro r m' X ⟨hr, hk, o4, o5⟩ hX
 have hc' := hc.kept hk (by simp) (by simp)
 have h1 := fun e => (hc'.app e).hd
 have h2 := fun e => (hc'.app e).keys
 have o5' := fun e => rowOf_own (own_app o5 e)
 have h10 := hc'.hd
 have h20 := hc'.keys
 by_cases hlt : r < n - 1
 ·have h5 := keyAt_bys ks (r + 1)
  have h6 : 16 + r * 16 = (r + 1) * 16 := by omega
  have h7 := keyAt_len h3 (r := r + 1) (by omega)
  simp -implicitDefEqProofs (disch := (first | omega | (simp only [lq3] <;> omega) | fail)) only [admQ, lq3, aFill, AK.cls, implies_true, if_true, if_false, seval, -List.reduceReplicate, h1, h2, h10, h20, h6, h5, o5']
  have hS := runB_len ks n b r
  have hn : runB ks n b (r + 1) = roundB ks n r (runB ks n b r) := rfl
  generalize runB ks n b r = S at *
  let f : Nat → B8 := fun j => sb (gb S ((j + 4 * (j % 4)) % 16))
  refine LoopW.on (fun i : Nat => [(0, .ptr c 0), (4, .ptr (m.length + 1) 0), (5, .ptr p5 0), (6, .int .i64 r), (7, .ptr m'.length 0), (8, .ptr (m'.length + 1) 0), (22, .sl kb 16 (n - 1) (n - 1) 16), (23, .int .i64 ((n - 1 : Nat) : Int)), (24, .int .i64 r), (29, .int .i64 i)]) (fun i => 16 - i)
   (fun i m2 => i ≤ 16 ∧ m2 = m' ++ [.row (bys (keyAt ks (r + 1))) false, .row (bys (upTo 16 f (fun _ => 0#8) i)) false]) ?_ 0 _ _ rfl ⟨by omega, by rw [upTo_zero, tab_const]⟩
  rintro i m2 X2 ⟨hi, rfl⟩ hX2
  by_cases hl2 : i < 16
  ·have g3 : (upTo 16 f (fun _ => 0#8) i).set i (sb (gb S ((i + 4 * (i % 4)) % 16))) = _ := upTo_set
   simp -implicitDefEqProofs (disch := (first | omega | (simp only [lq3] <;> omega) | fail)) only [admQ, lq3, aFill, AK.cls, implies_true, if_true, if_false, seval, -List.reduceReplicate, h1, o5', sb_at, splice_byte, g3]
   exact hX2 (i + 1) _ _ rfl (by omega) ⟨by omega, rfl⟩
  ·obtain rfl : i = 16 := by omega
   have g1 : upTo 16 f (fun _ => 0#8) 16 = subs S := upTo_all _ _ _
   clear_value f
   simp -implicitDefEqProofs (disch := (first | omega | (simp only [lq3] <;> omega) | fail)) only [admQ, lq3, aFill, AK.cls, implies_true, if_true, if_false, seval, -List.reduceReplicate, h1, o5', g1]
   have q5 := fun e b => set_app (own_lt o5) e b
   have q4 : p5 ≠ m.length + 1 := by omega
   have fin : ∀ (e : Mem) (t : AFr), AFr.cut [0, 4, 5, 22, 23, 24] t = [(0, .ptr c 0), (4, .ptr (m.length + 1) 0), (5, .ptr p5 0), (22, .sl kb 16 (n - 1) (n - 1) 16), (23, .int .i64 ((n - 1 : Nat) : Int)), (24, .int .i64 ((r + 1 : Nat) : Int))] →
     X t (m'.set p5 (.row (bys (roundB ks n r S)) false) ++ e) := by
    intro e t ht
    refine hX (r + 1) _ _ ht (by omega) ⟨by omega, hk.fresh ((Kept.set1 m' p5 _).trans (.app _ _ _)) (by simp; omega), own_app (own_set_ne' o4 q4 _) _, ?_⟩
    rw [hn]; exact own_app (own_set (own_lt o5) _) _
   have o5o := fun e => own_app o5 e
   by_cases hm : r + 2 < n
   ·have e1 : roundB ks n r S = ovr (mixB (subs S)) (keyAt ks (r + 1)) := by rw [roundB, if_pos hm]
    rw [e1] at fin
    simp -implicitDefEqProofs (disch := (first | omega | (simp only [lq3] <;> omega) | fail)) only [admQ, lq3, aFill, AK.cls, implies_true, if_true, if_false, seval, -List.reduceReplicate]
    refine (ans_mix _ (subs_len S) _).mono ?_
    rintro _ m3 ⟨rfl, hk3⟩
    obtain ⟨e3, rfl⟩ := hk3.grow
    simp -implicitDefEqProofs (disch := (first | omega | (simp only [lq3] <;> omega) | fail)) only [admQ, lq3, aFill, AK.cls, implies_true, if_true, if_false, seval, -List.reduceReplicate]
    refine (ans_ovr _ _ (mixB_len _) h7 _).mono ?_
    rintro _ m4 ⟨rfl, hk4⟩
    obtain ⟨e4, rfl⟩ := hk4.grow
    simp -implicitDefEqProofs (disch := (first | omega | (simp only [lq3] <;> omega) | fail)) only [admQ, lq3, aFill, AK.cls, implies_true, if_true, if_false, seval, -List.reduceReplicate, o5o, q5]
    exact fin _ _ rfl
   ·have e1 : roundB ks n r S = ovr (subs S) (keyAt ks (r + 1)) := by rw [roundB, if_neg hm]
    rw [e1] at fin
    simp -implicitDefEqProofs (disch := (first | omega | (simp only [lq3] <;> omega) | fail)) only [admQ, lq3, aFill, AK.cls, implies_true, if_true, if_false, seval, -List.reduceReplicate]
    refine (ans_ovr _ _ (subs_len _) h7 _).mono ?_
    rintro _ m4 ⟨rfl, hk4⟩
    obtain ⟨e4, rfl⟩ := hk4.grow
    simp -implicitDefEqProofs (disch := (first | omega | (simp only [lq3] <;> omega) | fail)) only [admQ, lq3, aFill, AK.cls, implies_true, if_true, if_false, seval, -List.reduceReplicate, o5o, q5]
    exact fin _ _ rfl
 ·obtain rfl : r = n - 1 := by omega
  have q4 := own_set (own_lt o4)
  have hb' : blockB ks n b = runB ks n b (n - 1) := rfl
  simp -implicitDefEqProofs (disch := (first | omega | (simp only [lq3] <;> omega) | fail)) only [admQ, lq3, aFill, AK.cls, implies_true, if_true, if_false, seval, -List.reduceReplicate, rowOf_own o5, o4, rowOf_own (q4 _), hb']
  exact hk.fresh (Kept.set1 m' _ _) (by simp)
end Go.Proofs.YtoegmnnecanhfaaGreatDoor
end
