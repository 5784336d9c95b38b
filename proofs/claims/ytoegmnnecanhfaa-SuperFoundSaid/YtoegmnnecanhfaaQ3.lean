/- Texts of this seat, joined (part 3 of 4): an abstract memory for Go programs, this seat's functions as abstract code, and what each of them does. -/
import Derived.Test.YtoegmnnecanhfaaProg
import Derived.KernelRfl
import Derived.Test.YtoegmnnecanhfaaQ2
set_option linter.unusedSimpArgs false
section
/- The abstract code of the functions, printed by a program of this session (gencode.py), and checked against the loaded program. -/
namespace Go.Proofs.Ytoegmnnecanhfaa
open Go.Adm
abbrev ox (d : Nat) (k : AK) (xs : List AX) : AOper := ⟨some d, k, xs, none, 0, 0⟩
abbrev oy (k : AK) (xs : List AX) : AOper := ⟨none, k, xs, none, 0, 0⟩
abbrev og (d : Nat) (k : AK) (xs : List AX) (j : Nat) (b : Bool) : AOper := ⟨some d, k, xs, some (j, b), 0, 0⟩
abbrev od (d : Nat) (k : AK) (xs : List AX) (lo hi : Nat) : AOper := ⟨some d, k, xs, none, lo, hi⟩
abbrev oe (k : AK) (xs : List AX) (lo hi : Nat) : AOper := ⟨none, k, xs, none, lo, hi⟩
abbrev oh (d : Nat) (k : AK) (xs : List AX) (j : Nat) (b : Bool) (lo hi : Nat) : AOper := ⟨some d, k, xs, some (j, b), lo, hi⟩
theorem mixed : Try.prog.follows .mixedOrders = true := by kernel_rfl
/-- rill/rilllaw15.SuperPuts -/
def c3 : ACode :=
 (.seq
 (.ops [1, 2] [
 ox 2 .box [.t 0],
 ox 4 .mv [.c (.bool false)]])
 (.seq
 (.seq
 (.ops [1, 2, 16] [
 ox 14 .mv [.t 1],
 ox 15 .len [.t 14],
 ox 16 (.cmp .gtr) [.t 15, .c (.int .i64 4096)]])
 (.cond (.t 16)
 (.seq
 (.ops [4] [
 ox 17 (.call 6) [],
 ox 4 .mv [.t 17]])
 .ret)
 .skip))
 (.seq
 (.ops [1, 2, 5] [
 ox 18 .mv [.t 1],
 ox 19 (.call 7) [.t 18],
 ox 5 .mv [.t 19]])
 (.seq
 (.ops [1, 2, 5, 6, 7] [
 ox 21 (.load true 3) [.t 2],
 ox 22 (.call 8) [.t 21],
 ox 20 .mv [.t 22],
 ox 23 (.extract 0) [.t 20],
 ox 24 (.extract 1) [.t 20],
 ox 6 .mv [.t 23],
 ox 7 .mv [.t 24]])
 (.seq
 (.ops [1, 5, 6, 7, 8, 9] [
 ox 26 (.load true 3) [.t 2],
 ox 27 (.call 9) [.t 26],
 ox 25 .mv [.t 27],
 ox 28 (.extract 0) [.t 25],
 ox 29 (.extract 1) [.t 25],
 ox 8 .mv [.t 28],
 ox 9 .mv [.t 29]])
 (.seq
 (.ops [1, 5, 6, 7, 8, 9, 10, 11] [
 ox 31 .mv [.t 5],
 ox 32 .mv [.t 1],
 ox 33 .len [.t 32],
 ox 34 (.slice 1 false true false) [.t 31, .t 33],
 ox 35 (.call 10) [.t 34],
 ox 30 .mv [.t 35],
 ox 36 (.extract 0) [.t 30],
 ox 37 (.extract 1) [.t 30],
 ox 10 (.alloc [.int .i64 0, .int .i64 0, .int .i64 0]) [],
 oy (.store 3) [.t 10, .t 36],
 ox 11 .mv [.t 37]])
 (.seq
 (.ops [1, 5, 6, 7, 8, 9, 10, 11, 12, 13] [
 ox 39 .mv [.t 1],
 ox 40 (.call 11) [.t 39],
 ox 38 .mv [.t 40],
 ox 41 (.extract 0) [.t 38],
 ox 42 (.extract 1) [.t 38],
 ox 12 (.alloc [.int .i64 0, .int .i64 0, .int .i64 0]) [],
 oy (.store 3) [.t 12, .t 41],
 ox 13 .mv [.t 42]])
 (.seq
 (.ops [4] [
 ox 43 .mv [.t 7],
 ox 44 .mv [.t 9],
 ox 45 (.eq false .int) [.t 43, .t 44],
 ox 46 .mv [.t 45],
 og 47 .mv [.t 11] 46 true,
 og 48 .mv [.t 13] 46 true,
 og 49 (.eq false .int) [.t 47, .t 48] 46 true,
 ox 50 .pick [.t 46, .t 49, .c (.bool false)],
 ox 51 .mv [.t 50],
 og 52 .mv [.t 6] 51 true,
 og 53 .mv [.t 8] 51 true,
 og 54 (.call 12) [.t 52, .t 53] 51 true,
 ox 55 .pick [.t 51, .t 54, .c (.bool false)],
 ox 56 .mv [.t 55],
 og 57 (.load true 3) [.t 10] 56 true,
 og 58 (.load true 3) [.t 12] 56 true,
 og 59 (.eqAgg false [.i, .i, .i]) [.t 57, .t 58] 56 true,
 ox 60 .pick [.t 56, .t 59, .c (.bool false)],
 ox 61 .mv [.t 60],
 og 62 .mv [.t 5] 61 true,
 og 63 .mv [.t 1] 61 true,
 og 64 (.call 13) [.t 62, .t 63] 61 true,
 ox 65 .pick [.t 61, .t 64, .c (.bool false)],
 ox 66 .mv [.t 65],
 og 67 (.call 6) [] 66 true,
 ox 68 .pick [.t 66, .t 67, .c (.bool false)],
 ox 4 .mv [.t 68]])
 .ret))))))))
def r3 : List ARes := [.tmp 4]
/-- rill/rilllaw15.SuperFound -/
def c4 : ACode :=
 (.seq
 (.ops [0, 1, 2, 3] [
 ox 8 .mv [.c (.bool false)]])
 (.seq
 (.ops [0, 1, 2, 3, 9, 10] [
 ox 30 (.call 14) [.c (.int .i64 5)],
 ox 29 .mv [.t 30],
 ox 31 (.extract 0) [.t 29],
 ox 32 (.extract 1) [.t 29],
 ox 9 .mv [.t 31],
 ox 10 .mv [.t 32]])
 (.seq
 (.ops [0, 1, 2, 3, 9, 10, 11] [
 ox 33 (.call 15) [],
 ox 11 .mv [.t 33]])
 (.seq
 (.seq
 (.ops [0, 1, 2, 3, 9, 11, 40] [
 ox 34 .mv [.t 10],
 ox 35 (.eq true .int) [.t 34, .c (.int .i64 0)],
 ox 36 .mv [.t 35],
 og 37 .mv [.t 2] 36 false,
 og 38 .len [.t 37] 36 false,
 og 39 (.cmp .gtr) [.t 38, .c (.int .i64 2048)] 36 false,
 ox 40 .pick [.t 36, .c (.bool true), .t 39]])
 (.cond (.t 40)
 (.seq
 (.ops [8] [
 ox 41 (.call 6) [],
 ox 8 .mv [.t 41]])
 .ret)
 .skip))
 (.seq
 (.ops [0, 1, 2, 3, 9, 11, 12] [
 ox 12 .mv [.c .nils]])
 (.seq
 (.ops [0, 1, 2, 3, 9, 11, 12, 13] [
 ox 13 .mv [.c .nils]])
 (.seq
 (.ops [0, 1, 2, 3, 9, 11, 12, 13, 14] [
 ox 14 .mv [.c .nils]])
 (.seq
 (.seq
 (.ops [0, 1, 2, 3, 9, 11, 12, 13, 14, 15] [
 ox 15 .mv [.c (.int .i64 0)]])
 (.block 0
 (.loop [0, 1, 2, 3, 9, 11, 12, 13, 14, 15]
 (.seq
 (.seq
 (.ops [0, 1, 2, 3, 9, 11, 12, 13, 14, 15, 49] [
 ox 42 .mv [.t 15],
 ox 43 .mv [.t 0],
 ox 44 .len [.t 43],
 ox 45 (.cmp .lss) [.t 42, .t 44],
 ox 46 .mv [.t 45],
 og 47 .mv [.t 15] 46 true,
 og 48 (.cmp .lss) [.t 47, .c (.int .i64 20)] 46 true,
 ox 49 .pick [.t 46, .t 48, .c (.bool false)]])
 (.cond (.t 49)
 .skip
 (.exit 0)))
 (.seq
 (.block 1
 (.seq
 (.ops [0, 1, 2, 3, 9, 11, 12, 13, 14, 15, 16] [
 ox 52 .mv [.t 15],
 ox 16 .mv [.t 52]])
 (.seq
 (.seq
 (.ops [0, 1, 2, 3, 9, 11, 12, 13, 14, 15, 16, 56] [
 ox 53 .mv [.t 15],
 ox 54 .mv [.t 1],
 ox 55 .len [.t 54],
 ox 56 (.cmp .lss) [.t 53, .t 55]])
 (.cond (.t 56)
 (.ops [0, 1, 2, 3, 9, 11, 12, 13, 14, 15, 16] [
 ox 57 .mv [.t 1],
 ox 58 .mv [.t 15],
 ox 59 (.idxAddr 1) [.t 57, .t 58],
 ox 60 (.load false 1) [.t 59],
 ox 16 .mv [.t 60]])
 .skip))
 (.seq
 (.ops [0, 1, 2, 3, 9, 11, 12, 13, 14, 15, 17, 18] [
 ox 62 .mv [.t 9],
 ox 63 .mv [.t 11],
 ox 64 (.iface 39) [.t 63],
 ox 65 .mv [.t 16],
 ox 66 .mv [.t 0],
 ox 67 .mv [.t 15],
 ox 68 (.idxAddr 3) [.t 66, .t 67],
 ox 69 (.load true 3) [.t 68],
 ox 70 (.call 16) [.t 62, .t 64, .t 65, .t 69],
 ox 61 .mv [.t 70],
 ox 71 (.extract 0) [.t 61],
 ox 72 (.extract 1) [.t 61],
 ox 17 (.alloc (List.replicate 32 (.int .u8 0))) [],
 oy (.store 32) [.t 17, .t 71],
 ox 18 .mv [.t 72]])
 (.seq
 (.seq
 (.ops [0, 1, 2, 3, 9, 11, 12, 13, 14, 15, 17, 74] [
 ox 73 .mv [.t 18],
 ox 74 (.eq true .int) [.t 73, .c (.int .i64 0)]])
 (.cond (.t 74)
 (.exit 1)
 .skip))
 (.seq
 (.ops [0, 1, 2, 3, 9, 11, 12, 13, 14, 15, 17, 19] [
 ox 76 .mv [.t 9],
 ox 77 (.call 17) [.t 76, .c (.int .i64 0)],
 ox 75 .mv [.t 77],
 ox 78 (.extract 0) [.t 75],
 ox 79 (.extract 1) [.t 75],
 ox 19 .mv [.t 78],
 ox 20 .mv [.t 79]])
 (.seq
 (.ops [0, 1, 2, 3, 9, 11, 12, 13, 14, 15, 17, 19, 21, 22, 23] [
 ox 81 .mv [.t 9],
 ox 82 .mv [.t 11],
 ox 83 (.iface 39) [.t 82],
 ox 84 (.call 18) [.t 81, .t 83],
 ox 80 .mv [.t 84],
 ox 85 (.extract 0) [.t 80],
 ox 86 (.extract 1) [.t 80],
 ox 87 (.extract 2) [.t 80],
 ox 21 (.alloc [.int .i64 0, .int .i64 0, .int .i64 0]) [],
 ox 22 (.alloc (List.replicate 32 (.int .u8 0))) [],
 oy (.store 3) [.t 21, .t 85],
 oy (.store 32) [.t 22, .t 86],
 ox 23 .mv [.t 87]])
 (.seq
 (.seq
 (.drawn [0, 1, 2, 3, 9, 11, 12, 13, 14, 15, 17, 19, 21, 102] [
 ox 88 .mv [.t 23],
 ox 89 (.eq true .int) [.t 88, .c (.int .i64 0)],
 ox 90 .mv [.t 89],
 og 91 (.load true 3) [.t 21] 90 false,
 og 92 .mv [.t 0] 90 false,
 og 93 .mv [.t 15] 90 false,
 og 94 (.idxAddr 3) [.t 92, .t 93] 90 false,
 og 95 (.load true 3) [.t 94] 90 false,
 og 96 (.eqAgg true [.i, .i, .i]) [.t 91, .t 95] 90 false,
 ox 97 .pick [.t 90, .c (.bool true), .t 96],
 ox 98 .mv [.t 97],
 og 99 (.load true 32) [.t 22] 98 false,
 og 100 (.load true 32) [.t 17] 98 false,
 og 101 (.eqAgg true (List.replicate 32 .i)) [.t 99, .t 100] 98 false,
 ox 102 .pick [.t 98, .c (.bool true), .t 101]])
 (.cond (.t 102)
 (.seq
 (.ops [8] [
 ox 8 .mv [.c (.bool false)]])
 .ret)
 .skip))
 (.seq
 (.ops [0, 1, 2, 3, 9, 11, 12, 13, 14, 15, 17, 21] [
 ox 103 .mv [.t 12],
 ox 104 .mv [.t 19],
 ox 105 (.mkSl 1 [.nils] [(0, 1)]) [.t 104],
 ox 106 (.append 1 24) [.t 103, .t 105],
 ox 12 .mv [.t 106]])
 (.seq
 (.ops [0, 1, 2, 3, 9, 11, 12, 13, 14, 15, 17] [
 ox 107 .mv [.t 13],
 ox 108 (.load true 3) [.t 21],
 ox 109 (.mkSl 1 [.int .i64 0, .int .i64 0, .int .i64 0] [(0, 3)]) [.t 108],
 ox 110 (.append 3 24) [.t 107, .t 109],
 ox 13 .mv [.t 110]])
 (.ops [0, 1, 2, 3, 9, 11, 12, 13, 14, 15] [
 ox 111 .mv [.t 14],
 ox 112 (.load true 32) [.t 17],
 ox 113 (.mkSl 1 (List.replicate 32 (.int .u8 0)) [(0, 32)]) [.t 112],
 ox 114 (.append 32 32) [.t 111, .t 113],
 ox 14 .mv [.t 114]])))))))))))
 (.ops [0, 1, 2, 3, 9, 11, 12, 13, 14, 15] [
 ox 50 .mv [.t 15],
 ox 51 (.arith .add) [.t 50, .c (.int .i64 1)],
 ox 15 .mv [.t 51]]))))))
 (.seq
 (.ops [3, 9, 11, 12, 13, 14, 24] [
 ox 115 .mv [.t 2],
 ox 116 (.call 19) [.t 115],
 ox 24 .mv [.t 116]])
 (.seq
 (.seq
 (.ops [3, 9, 11, 12, 13, 14, 24, 124] [
 ox 117 .mv [.t 12],
 ox 118 .len [.t 117],
 ox 119 (.cmp .gtr) [.t 118, .c (.int .i64 0)],
 ox 120 .mv [.t 119],
 og 121 .mv [.t 3] 120 true,
 og 122 (.arith .rem) [.t 121, .c (.int .i64 2)] 120 true,
 og 123 (.eq false .int) [.t 122, .c (.int .i64 0)] 120 true,
 ox 124 .pick [.t 120, .t 123, .c (.bool false)]])
 (.cond (.t 124)
 (.ops [9, 11, 12, 13, 14, 24] [
 ox 125 .mv [.t 12],
 ox 126 .mv [.t 3],
 ox 127 (.arith .quo) [.t 126, .c (.int .i64 2)],
 ox 128 .mv [.t 12],
 ox 129 .len [.t 128],
 ox 130 (.call 20) [.t 127, .t 129],
 ox 131 (.idxAddr 1) [.t 125, .t 130],
 ox 132 (.load false 1) [.t 131],
 ox 24 .mv [.t 132]])
 .skip))
 (.seq
 (.seq
 (.ops [9, 11, 12, 13, 14, 24, 135] [
 ox 133 .mv [.t 24],
 ox 134 .len [.t 133],
 ox 135 (.cmp .gtr) [.t 134, .c (.int .i64 1024)]])
 (.cond (.t 135)
 (.seq
 (.ops [8] [
 ox 136 (.call 6) [],
 ox 8 .mv [.t 136]])
 .ret)
 .skip))
 (.seq
 (.ops [9, 11, 12, 13, 14, 24] [
 ox 137 .mv [.t 9],
 ox 138 .mv [.t 24],
 ox 139 (.call 21) [.t 137, .c (.int .i64 0), .t 138]])
 (.seq
 (.ops [12, 13, 14, 24, 25, 26, 27] [
 ox 141 .mv [.t 9],
 ox 142 .mv [.t 11],
 ox 143 (.iface 39) [.t 142],
 ox 144 (.call 18) [.t 141, .t 143],
 ox 140 .mv [.t 144],
 ox 145 (.extract 0) [.t 140],
 ox 146 (.extract 1) [.t 140],
 ox 147 (.extract 2) [.t 140],
 ox 25 (.alloc [.int .i64 0, .int .i64 0, .int .i64 0]) [],
 ox 26 (.alloc (List.replicate 32 (.int .u8 0))) [],
 oy (.store 3) [.t 25, .t 145],
 oy (.store 32) [.t 26, .t 146],
 ox 27 .mv [.t 147]])
 (.seq
 (.seq
 (.ops [12, 13, 14, 24, 25, 26, 27, 150] [
 ox 148 .mv [.t 24],
 ox 149 .len [.t 148],
 ox 150 (.eq false .int) [.t 149, .c (.int .i64 0)]])
 (.cond (.t 150)
 (.seq
 (.ops [8] [
 ox 151 .mv [.t 27],
 ox 152 (.eq false .int) [.t 151, .c (.int .i64 9)],
 ox 153 .mv [.t 152],
 og 154 (.call 6) [] 153 true,
 ox 155 .pick [.t 153, .t 154, .c (.bool false)],
 ox 8 .mv [.t 155]])
 .ret)
 .skip))
 (.seq
 (.seq
 (.ops [12, 13, 14, 24, 25, 26, 27, 28] [
 ox 28 .mv [.c (.int .i64 0)]])
 (.block 2
 (.loop [12, 13, 14, 24, 25, 26, 27, 28]
 (.seq
 (.seq
 (.ops [12, 13, 14, 24, 25, 26, 27, 28, 159] [
 ox 156 .mv [.t 28],
 ox 157 .mv [.t 12],
 ox 158 .len [.t 157],
 ox 159 (.cmp .lss) [.t 156, .t 158]])
 (.cond (.t 159)
 .skip
 (.exit 2)))
 (.seq
 (.block 3
 (.seq
 (.ops [12, 13, 14, 24, 25, 26, 27, 28, 167] [
 ox 162 .mv [.t 12],
 ox 163 .mv [.t 28],
 ox 164 (.idxAddr 1) [.t 162, .t 163],
 ox 165 (.load false 1) [.t 164],
 ox 166 .mv [.t 24],
 ox 167 (.call 12) [.t 165, .t 166]])
 (.cond (.t 167)
 (.seq
 (.drawn [8] [
 ox 168 .mv [.t 27],
 ox 169 (.eq false .int) [.t 168, .c (.int .i64 0)],
 ox 170 .mv [.t 169],
 og 171 (.load true 3) [.t 25] 170 true,
 og 172 .mv [.t 13] 170 true,
 og 173 .mv [.t 28] 170 true,
 og 174 (.idxAddr 3) [.t 172, .t 173] 170 true,
 og 175 (.load true 3) [.t 174] 170 true,
 og 176 (.eqAgg false [.i, .i, .i]) [.t 171, .t 175] 170 true,
 ox 177 .pick [.t 170, .t 176, .c (.bool false)],
 ox 178 .mv [.t 177],
 og 179 (.load true 32) [.t 26] 178 true,
 og 180 .mv [.t 14] 178 true,
 og 181 .mv [.t 28] 178 true,
 og 182 (.idxAddr 32) [.t 180, .t 181] 178 true,
 og 183 (.load true 32) [.t 182] 178 true,
 og 184 (.eqAgg false (List.replicate 32 .i)) [.t 179, .t 183] 178 true,
 ox 185 .pick [.t 178, .t 184, .c (.bool false)],
 ox 186 .mv [.t 185],
 oh 187 (.call 6) [] 186 true 0 1,
 od 188 .pick [.t 186, .t 187, .c (.bool false)] 1 1,
 od 8 .mv [.t 188] 1 1])
 .ret)
 .skip)))
 (.ops [12, 13, 14, 24, 25, 26, 27, 28] [
 ox 160 .mv [.t 28],
 ox 161 (.arith .add) [.t 160, .c (.int .i64 1)],
 ox 28 .mv [.t 161]]))))))
 (.seq
 (.ops [8] [
 ox 189 .mv [.t 27],
 ox 190 (.eq false .int) [.t 189, .c (.int .i64 14)],
 ox 191 .mv [.t 190],
 og 192 (.load true 3) [.t 25] 191 true,
 og 193 (.build [.int .i64 0, .int .i64 0, .int .i64 0] []) [] 191 true,
 og 194 (.eqAgg false [.i, .i, .i]) [.t 192, .t 193] 191 true,
 ox 195 .pick [.t 191, .t 194, .c (.bool false)],
 ox 196 .mv [.t 195],
 og 197 (.load true 32) [.t 26] 196 true,
 og 198 (.build (List.replicate 32 (.int .u8 0)) []) [] 196 true,
 og 199 (.eqAgg false (List.replicate 32 .i)) [.t 197, .t 198] 196 true,
 ox 200 .pick [.t 196, .t 199, .c (.bool false)],
 ox 201 .mv [.t 200],
 og 202 (.call 6) [] 201 true,
 ox 203 .pick [.t 201, .t 202, .c (.bool false)],
 ox 8 .mv [.t 203]])
 .ret))))))))))))))))
def r4 : List ARes := [.tmp 8]
theorem ok4 : FnOk Try.prog 4 c4 r4 :=
  ⟨Try.f4, _, Try.func4, by kernel_rfl, rfl, by kernel_rfl, by kernel_rfl⟩
/-- rill/rilllaw15.SuperKnown -/
def c5 : ACode :=
 (.seq
 (.ops [] [
 ox 0 .mv [.c (.bool false)]])
 (.seq
 (.ops [1, 2] [
 ox 14 (.call 22) [],
 ox 15 (.call 8) [.t 14],
 ox 13 .mv [.t 15],
 ox 16 (.extract 0) [.t 13],
 ox 17 (.extract 1) [.t 13],
 ox 1 .mv [.t 16],
 ox 2 .mv [.t 17]])
 (.seq
 (.ops [1, 2, 4] [
 ox 19 (.build [.int .i64 0, .int .i64 0, .int .i64 0] [(0, 1), (1, 1), (2, 1)]) [.c (.int .i64 1), .c (.int .i64 1), .c (.int .i64 1)],
 ox 20 (.call 8) [.t 19],
 ox 18 .mv [.t 20],
 ox 21 (.extract 0) [.t 18],
 ox 22 (.extract 1) [.t 18],
 ox 3 .mv [.t 21],
 ox 4 .mv [.t 22]])
 (.seq
 (.seq
 (.ops [1, 33] [
 ox 23 .mv [.t 2],
 ox 24 (.eq true .int) [.t 23, .c (.int .i64 0)],
 ox 25 .mv [.t 24],
 og 26 .mv [.t 1] 25 false,
 og 27 .len [.t 26] 25 false,
 og 28 (.eq true .int) [.t 27, .c (.int .i64 24)] 25 false,
 ox 29 .pick [.t 25, .c (.bool true), .t 28],
 ox 30 .mv [.t 29],
 og 31 .mv [.t 4] 30 false,
 og 32 (.eq true .int) [.t 31, .c (.int .i64 15)] 30 false,
 ox 33 .pick [.t 30, .c (.bool true), .t 32]])
 (.cond (.t 33)
 (.seq
 (.ops [0] [
 ox 0 .mv [.c (.bool false)]])
 .ret)
 .skip))
 (.seq
 (.ops [1, 6] [
 ox 35 .mv [.t 1],
 ox 36 (.slice 1 false true false) [.t 35, .c (.int .i64 23)],
 ox 37 (.call 10) [.t 36],
 ox 34 .mv [.t 37],
 ox 38 (.extract 0) [.t 34],
 ox 39 (.extract 1) [.t 34],
 ox 5 (.alloc [.int .i64 0, .int .i64 0, .int .i64 0]) [],
 oy (.store 3) [.t 5, .t 38],
 ox 6 .mv [.t 39]])
 (.seq
 (.ops [1, 6, 8] [
 ox 41 .mv [.t 1],
 ox 42 (.call 19) [.t 41],
 ox 43 (.mkSl 1 [.int .u8 0] [(0, 1)]) [.c (.int .u8 0)],
 ox 44 (.append 1 1) [.t 42, .t 43],
 ox 45 (.call 10) [.t 44],
 ox 40 .mv [.t 45],
 ox 46 (.extract 0) [.t 40],
 ox 47 (.extract 1) [.t 40],
 ox 7 (.alloc [.int .i64 0, .int .i64 0, .int .i64 0]) [],
 oy (.store 3) [.t 7, .t 46],
 ox 8 .mv [.t 47]])
 (.seq
 (.ops [1, 6, 8, 10] [
 ox 49 (.mkSlice [.int .u8 0] 1) [.c (.int .i64 24), .c (.int .i64 24)],
 ox 50 (.call 10) [.t 49],
 ox 48 .mv [.t 50],
 ox 51 (.extract 0) [.t 48],
 ox 52 (.extract 1) [.t 48],
 ox 9 (.alloc [.int .i64 0, .int .i64 0, .int .i64 0]) [],
 oy (.store 3) [.t 9, .t 51],
 ox 10 .mv [.t 52]])
 (.seq
 (.ops [6, 8, 10, 11, 12] [
 ox 54 .mv [.t 1],
 ox 55 (.call 10) [.t 54],
 ox 53 .mv [.t 55],
 ox 56 (.extract 0) [.t 53],
 ox 57 (.extract 1) [.t 53],
 ox 11 (.alloc [.int .i64 0, .int .i64 0, .int .i64 0]) [],
 oy (.store 3) [.t 11, .t 56],
 ox 12 .mv [.t 57]])
 (.seq
 (.drawn [0] [
 ox 58 .mv [.t 6],
 ox 59 (.eq false .int) [.t 58, .c (.int .i64 4)],
 ox 60 .mv [.t 59],
 og 61 .mv [.t 8] 60 true,
 og 62 (.eq false .int) [.t 61, .c (.int .i64 3)] 60 true,
 ox 63 .pick [.t 60, .t 62, .c (.bool false)],
 ox 64 .mv [.t 63],
 og 65 .mv [.t 10] 64 true,
 og 66 (.eq false .int) [.t 65, .c (.int .i64 15)] 64 true,
 ox 67 .pick [.t 64, .t 66, .c (.bool false)],
 ox 68 .mv [.t 67],
 og 69 .mv [.t 12] 68 true,
 og 70 (.eq false .int) [.t 69, .c (.int .i64 0)] 68 true,
 ox 71 .pick [.t 68, .t 70, .c (.bool false)],
 ox 72 .mv [.t 71],
 oh 73 (.load true 3) [.t 11] 72 true 0 1,
 oh 74 (.call 22) [] 72 true 0 1,
 oh 75 (.eqAgg false [.i, .i, .i]) [.t 73, .t 74] 72 true 1 1,
 od 76 .pick [.t 72, .t 75, .c (.bool false)] 1 1,
 od 77 .mv [.t 76] 1 1,
 oh 78 (.call 22) [] 77 true 1 2,
 oh 79 (.build [.int .i64 0, .int .i64 0, .int .i64 0] [(0, 1), (1, 1), (2, 1)]) [.c (.int .i64 32), .c (.int .i64 64), .c (.int .i64 64)] 77 true 1 2,
 oh 80 (.mkSl 2 [.int .i64 0, .int .i64 0, .int .i64 0, .int .i64 0, .int .i64 0, .int .i64 0] [(0, 3), (3, 3)]) [.t 78, .t 79] 77 true 2 2,
 oh 81 (.call 4) [.t 80, .c .nils, .c .nils, .c (.int .i64 0)] 77 true 2 3,
 od 82 .pick [.t 77, .t 81, .c (.bool false)] 3 3,
 od 83 .mv [.t 82] 3 3,
 oh 84 (.call 22) [] 83 true 3 4,
 oh 85 (.mkSl 1 [.int .i64 0, .int .i64 0, .int .i64 0] [(0, 3)]) [.t 84] 83 true 4 4,
 oh 86 (.mkSl 1 [.int .i64 0] [(0, 1)]) [.c (.int .i64 (-1))] 83 true 3 4,
 oh 87 (.mkSl 1 [.int .u8 0] [(0, 1)]) [.c (.int .u8 1)] 83 true 3 4,
 oh 88 (.call 4) [.t 85, .t 86, .t 87, .c (.int .i64 1)] 83 true 4 5,
 od 89 .pick [.t 83, .t 88, .c (.bool false)] 5 5,
 od 90 .mv [.t 89] 5 5,
 oh 91 (.call 6) [] 90 true 5 6,
 od 92 .pick [.t 90, .t 91, .c (.bool false)] 6 6,
 od 0 .mv [.t 92] 6 6])
 .ret)))))))))
def r5 : List ARes := [.tmp 0]
theorem ok5 : FnOk Try.prog 5 c5 r5 :=
  ⟨Try.f5, _, Try.func5, by kernel_rfl, rfl, by kernel_rfl, by kernel_rfl⟩
/-- rill/rilllaw15.known -/
def c6 : ACode :=
 (.seq
 (.ops [] [
 ox 0 .mv [.c (.bool false)]])
 (.seq
 (.ops [1, 2] [
 ox 13 (.call 14) [.c (.int .i64 5)],
 ox 12 .mv [.t 13],
 ox 14 (.extract 0) [.t 12],
 ox 15 (.extract 1) [.t 12],
 ox 1 .mv [.t 14],
 ox 2 .mv [.t 15]])
 (.seq
 (.ops [1, 2, 3] [
 ox 16 (.call 15) [],
 ox 3 .mv [.t 16]])
 (.seq
 (.seq
 (.ops [1, 3, 18] [
 ox 17 .mv [.t 2],
 ox 18 (.eq true .int) [.t 17, .c (.int .i64 0)]])
 (.cond (.t 18)
 (.seq
 (.ops [0] [
 ox 0 .mv [.c (.bool false)]])
 .ret)
 .skip))
 (.seq
 (.ops [1, 3, 6] [
 ox 20 .mv [.t 1],
 ox 21 .mv [.t 3],
 ox 22 (.iface 39) [.t 21],
 ox 23 (.call 18) [.t 20, .t 22],
 ox 19 .mv [.t 23],
 ox 24 (.extract 0) [.t 19],
 ox 25 (.extract 1) [.t 19],
 ox 26 (.extract 2) [.t 19],
 ox 4 (.alloc [.int .i64 0, .int .i64 0, .int .i64 0]) [],
 ox 5 (.alloc (List.replicate 32 (.int .u8 0))) [],
 oy (.store 3) [.t 4, .t 24],
 oy (.store 32) [.t 5, .t 25],
 ox 6 .mv [.t 26]])
 (.seq
 (.ops [1, 3, 6, 7, 8] [
 ox 28 .mv [.t 1],
 ox 29 .mv [.t 3],
 ox 30 (.iface 39) [.t 29],
 ox 31 (.call 22) [],
 ox 32 (.call 16) [.t 28, .t 30, .c (.int .i64 1), .t 31],
 ox 27 .mv [.t 32],
 ox 33 (.extract 0) [.t 27],
 ox 34 (.extract 1) [.t 27],
 ox 7 (.alloc (List.replicate 32 (.int .u8 0))) [],
 oy (.store 32) [.t 7, .t 33],
 ox 8 .mv [.t 34]])
 (.seq
 (.ops [6, 7, 8, 9, 10, 11] [
 ox 36 .mv [.t 1],
 ox 37 .mv [.t 3],
 ox 38 (.iface 39) [.t 37],
 ox 39 (.call 18) [.t 36, .t 38],
 ox 35 .mv [.t 39],
 ox 40 (.extract 0) [.t 35],
 ox 41 (.extract 1) [.t 35],
 ox 42 (.extract 2) [.t 35],
 ox 9 (.alloc [.int .i64 0, .int .i64 0, .int .i64 0]) [],
 ox 10 (.alloc (List.replicate 32 (.int .u8 0))) [],
 oy (.store 3) [.t 9, .t 40],
 oy (.store 32) [.t 10, .t 41],
 ox 11 .mv [.t 42]])
 (.seq
 (.drawn [0] [
 ox 43 .mv [.t 6],
 ox 44 (.eq false .int) [.t 43, .c (.int .i64 9)],
 ox 45 .mv [.t 44],
 og 46 .mv [.t 8] 45 true,
 og 47 (.eq false .int) [.t 46, .c (.int .i64 0)] 45 true,
 ox 48 .pick [.t 45, .t 47, .c (.bool false)],
 ox 49 .mv [.t 48],
 og 50 .mv [.t 11] 49 true,
 og 51 (.eq false .int) [.t 50, .c (.int .i64 0)] 49 true,
 ox 52 .pick [.t 49, .t 51, .c (.bool false)],
 ox 53 .mv [.t 52],
 oh 54 (.load true 3) [.t 9] 53 true 0 1,
 oh 55 (.call 22) [] 53 true 0 1,
 oh 56 (.eqAgg false [.i, .i, .i]) [.t 54, .t 55] 53 true 1 1,
 od 57 .pick [.t 53, .t 56, .c (.bool false)] 1 1,
 od 58 .mv [.t 57] 1 1,
 oh 59 (.load true 32) [.t 7] 58 true 1 1,
 oh 60 (.load true 32) [.t 10] 58 true 1 1,
 oh 61 (.eqAgg false (List.replicate 32 .i)) [.t 59, .t 60] 58 true 1 1,
 od 62 .pick [.t 58, .t 61, .c (.bool false)] 1 1,
 od 0 .mv [.t 62] 1 1])
 .ret))))))))
def r6 : List ARes := [.tmp 0]
theorem ok6 : FnOk Try.prog 6 c6 r6 :=
  ⟨Try.f6, _, Try.func6, by kernel_rfl, rfl, by kernel_rfl, by kernel_rfl⟩
def r7 : List ARes := [.tmp 2]
/-- rill/super.Put -/
def c8 : ACode :=
 (.seq
 (.ops [1] [
 ox 1 .box [.t 0],
 ox 2 .mv [.c .nils],
 ox 3 .mv [.c (.int .i64 0)]])
 (.seq
 (.seq
 (.ops [1, 4] [
 ox 5 (.load true 3) [.t 1],
 ox 6 (.call 23) [.t 5],
 ox 4 .mv [.t 6]])
 (.seq
 (.ops [1, 4, 8] [
 ox 7 .mv [.t 4],
 ox 8 (.eq true .int) [.t 7, .c (.int .i64 0)]])
 (.cond (.t 8)
 (.seq
 (.ops [2, 3] [
 ox 9 .mv [.t 4],
 ox 2 .mv [.c .nils],
 ox 3 .mv [.t 9]])
 .ret)
 .skip)))
 (.seq
 (.drawn [2, 3] [
 ox 10 (.fieldAddr 0) [.t 1],
 ox 11 (.load false 1) [.t 10],
 od 12 (.call 24) [.c .nils, .t 11] 0 1,
 od 13 (.fieldAddr 1) [.t 1] 0 1,
 od 14 (.load false 1) [.t 13] 0 1,
 od 15 (.call 24) [.t 12, .t 14] 1 2,
 od 16 (.fieldAddr 2) [.t 1] 0 2,
 od 17 (.load false 1) [.t 16] 0 2,
 od 18 (.call 24) [.t 15, .t 17] 2 3,
 od 2 .mv [.t 18] 3 3,
 od 3 .mv [.c (.int .i64 0)] 3 3])
 .ret)))
def r8 : List ARes := [.tmp 2, .tmp 3]
theorem ok8 : FnOk Try.prog 8 c8 r8 :=
  ⟨Try.f8, _, Try.func8, by kernel_rfl, rfl, by kernel_rfl, by kernel_rfl⟩
/-- rill/super.Get -/
def c10 : ACode :=
 (.seq
 (.ops [0, 2] [
 ox 2 (.alloc [.int .i64 0, .int .i64 0, .int .i64 0]) [],
 ox 3 .mv [.c (.int .i64 0)]])
 (.seq
 (.ops [2, 4] [
 ox 7 .mv [.t 0],
 ox 8 (.call 27) [.t 7],
 ox 4 .mv [.t 8]])
 (.seq
 (.ops [2, 4, 5] [
 ox 9 .mv [.t 4],
 ox 10 (.call 28) [.t 9],
 ox 11 .mv [.t 4],
 ox 12 (.call 28) [.t 11],
 ox 13 .mv [.t 4],
 ox 14 (.call 28) [.t 13],
 ox 15 (.build [.int .i64 0, .int .i64 0, .int .i64 0] [(0, 1), (1, 1), (2, 1)]) [.t 10, .t 12, .t 14],
 ox 5 (.alloc [.int .i64 0, .int .i64 0, .int .i64 0]) [],
 oy (.store 3) [.t 5, .t 15]])
 (.seq
 (.ops [2, 5, 6] [
 ox 16 .mv [.t 4],
 ox 17 (.call 29) [.t 16],
 ox 6 .mv [.t 17]])
 (.seq
 (.seq
 (.ops [2, 5, 6, 19] [
 ox 18 .mv [.t 6],
 ox 19 (.eq false .int) [.t 18, .c (.int .i64 0)]])
 (.cond (.t 19)
 (.ops [2, 5, 6] [
 ox 20 (.load true 3) [.t 5],
 ox 21 (.call 23) [.t 20],
 ox 6 .mv [.t 21]])
 .skip))
 (.seq
 (.seq
 (.ops [2, 5, 6, 23] [
 ox 22 .mv [.t 6],
 ox 23 (.eq true .int) [.t 22, .c (.int .i64 0)]])
 (.cond (.t 23)
 (.seq
 (.ops [2, 3] [
 ox 24 (.build [.int .i64 0, .int .i64 0, .int .i64 0] []) [],
 ox 25 .mv [.t 6],
 oy (.store 3) [.t 2, .t 24],
 ox 3 .mv [.t 25]])
 .ret)
 .skip))
 (.seq
 (.ops [2, 3] [
 ox 26 (.load true 3) [.t 5],
 oy (.store 3) [.t 2, .t 26],
 ox 3 .mv [.c (.int .i64 0)]])
 .ret)))))))
def r10 : List ARes := [.cell 2 true 3, .tmp 3]
theorem ok10 : FnOk Try.prog 10 c10 r10 :=
  ⟨Try.f10, _, Try.func10, by kernel_rfl, rfl, by kernel_rfl, by kernel_rfl⟩
/-- rill/rillkit.SameBytes -/
def c12 : ACode :=
 (.seq
 (.ops [0, 1] [
 ox 4 .mv [.c (.bool false)]])
 (.seq
 (.seq
 (.ops [0, 1, 10] [
 ox 6 .mv [.t 0],
 ox 7 .len [.t 6],
 ox 8 .mv [.t 1],
 ox 9 .len [.t 8],
 ox 10 (.eq true .int) [.t 7, .t 9]])
 (.cond (.t 10)
 (.seq
 (.ops [4] [
 ox 4 .mv [.c (.bool false)]])
 .ret)
 .skip))
 (.seq
 (.seq
 (.ops [0, 1, 5] [
 ox 5 .mv [.c (.int .i64 0)]])
 (.block 0
 (.loop [0, 1, 5]
 (.seq
 (.seq
 (.ops [0, 1, 5, 14] [
 ox 11 .mv [.t 5],
 ox 12 .mv [.t 0],
 ox 13 .len [.t 12],
 ox 14 (.cmp .lss) [.t 11, .t 13]])
 (.cond (.t 14)
 .skip
 (.exit 0)))
 (.seq
 (.block 1
 (.seq
 (.drawn [0, 1, 5, 25] [
 ox 17 .mv [.t 0],
 ox 18 .mv [.t 5],
 ox 19 (.idxAddr 1) [.t 17, .t 18],
 ox 20 (.load false 1) [.t 19],
 ox 21 .mv [.t 1],
 ox 22 .mv [.t 5],
 ox 23 (.idxAddr 1) [.t 21, .t 22],
 ox 24 (.load false 1) [.t 23],
 ox 25 (.eq true .int) [.t 20, .t 24]])
 (.cond (.t 25)
 (.seq
 (.ops [4] [
 ox 4 .mv [.c (.bool false)]])
 .ret)
 .skip)))
 (.ops [0, 1, 5] [
 ox 15 .mv [.t 5],
 ox 16 (.arith .add) [.t 15, .c (.int .i64 1)],
 ox 5 .mv [.t 16]]))))))
 (.seq
 (.ops [4] [
 ox 4 .mv [.c (.bool true)]])
 .ret))))
def r12 : List ARes := [.tmp 4]
theorem ok12 : FnOk Try.prog 12 c12 r12 :=
  ⟨Try.f12, _, Try.func12, by kernel_rfl, rfl, by kernel_rfl, by kernel_rfl⟩
/-- rill/rillkit.KeptBytes -/
def c13 : ACode :=
 (.seq
 (.ops [0, 1] [
 ox 4 .mv [.c (.bool false)]])
 (.seq
 (.seq
 (.ops [0, 1, 20] [
 ox 6 .mv [.t 0],
 ox 7 .len [.t 6],
 ox 8 .mv [.t 1],
 ox 9 .len [.t 8],
 ox 10 (.arith .add) [.t 9, .c (.int .i64 5)],
 ox 11 (.eq true .int) [.t 7, .t 10],
 ox 12 .mv [.t 11],
 og 13 .mv [.t 0] 12 false,
 og 14 .mv [.t 1] 12 false,
 og 15 .len [.t 14] 12 false,
 og 16 (.slice 1 false true false) [.t 13, .t 15] 12 false,
 og 17 .mv [.t 1] 12 false,
 og 18 (.call 12) [.t 16, .t 17] 12 false,
 og 19 .not [.t 18] 12 false,
 ox 20 .pick [.t 12, .c (.bool true), .t 19]])
 (.cond (.t 20)
 (.seq
 (.ops [4] [
 ox 4 .mv [.c (.bool false)]])
 .ret)
 .skip))
 (.seq
 (.seq
 (.ops [0, 5] [
 ox 21 .mv [.t 1],
 ox 22 .len [.t 21],
 ox 5 .mv [.t 22]])
 (.block 0
 (.loop [0, 5]
 (.seq
 (.seq
 (.ops [0, 5, 26] [
 ox 23 .mv [.t 5],
 ox 24 .mv [.t 0],
 ox 25 .len [.t 24],
 ox 26 (.cmp .lss) [.t 23, .t 25]])
 (.cond (.t 26)
 .skip
 (.exit 0)))
 (.seq
 (.block 1
 (.seq
 (.ops [0, 5, 33] [
 ox 29 .mv [.t 0],
 ox 30 .mv [.t 5],
 ox 31 (.idxAddr 1) [.t 29, .t 30],
 ox 32 (.load false 1) [.t 31],
 ox 33 (.eq true .int) [.t 32, .c (.int .u8 165)]])
 (.cond (.t 33)
 (.seq
 (.ops [4] [
 ox 4 .mv [.c (.bool false)]])
 .ret)
 .skip)))
 (.ops [0, 5] [
 ox 27 .mv [.t 5],
 ox 28 (.arith .add) [.t 27, .c (.int .i64 1)],
 ox 5 .mv [.t 28]]))))))
 (.seq
 (.ops [4] [
 ox 4 .mv [.c (.bool true)]])
 .ret))))
/-- rill/disk.New -/
def c14 : ACode :=
 (.seq
 (.ops [0] [
 ox 2 .mv [.c .nilp],
 ox 3 .mv [.c (.int .i64 0)]])
 (.seq
 (.seq
 (.ops [0, 9] [
 ox 4 .mv [.t 0],
 ox 5 (.cmp .lss) [.t 4, .c (.int .i64 1)],
 ox 6 .mv [.t 5],
 og 7 .mv [.t 0] 6 false,
 og 8 (.cmp .gtr) [.t 7, .c (.int .i64 4096)] 6 false,
 ox 9 .pick [.t 6, .c (.bool true), .t 8]])
 (.cond (.t 9)
 (.seq
 (.ops [2, 3] [
 ox 2 .mv [.c .nilp],
 ox 3 .mv [.c (.int .i64 7)]])
 .ret)
 .skip))
 (.seq
 (.drawn [2, 3] [
 ox 10 .mv [.t 0],
 ox 11 (.mkSlice [.nils] 24) [.t 10, .t 10],
 ox 12 .mkMap [],
 ox 13 .mv [.t 0],
 ox 14 (.mkSlice [.int .i64 0] 8) [.t 13, .t 13],
 ox 15 (.build [.nils, .mapn, .bool false, .int .i64 0, .bool false, .int .i64 0, .nils] [(0, 1), (1, 1), (6, 1)]) [.t 11, .t 12, .t 14],
 ox 16 .box [.t 15],
 ox 2 .mv [.t 16],
 ox 3 .mv [.c (.int .i64 0)]])
 .ret)))
def r14 : List ARes := [.tmp 2, .tmp 3]
theorem ok14 : FnOk Try.prog 14 c14 r14 :=
  ⟨Try.f14, _, Try.func14, by kernel_rfl, rfl, by kernel_rfl, by kernel_rfl⟩
/-- rill/names.New -/
def c15 : ACode :=
 (.seq
 (.ops [] [
 ox 0 .mv [.c .nilp]])
 (.seq
 (.ops [0] [
 ox 1 .mkMap [],
 ox 2 .mkMap [],
 ox 3 (.build [.mapn, .nils, .mapn] [(0, 1), (2, 1)]) [.t 1, .t 2],
 ox 4 .box [.t 3],
 ox 0 .mv [.t 4]])
 .ret))
def r15 : List ARes := [.tmp 0]
theorem ok15 : FnOk Try.prog 15 c15 r15 :=
  ⟨Try.f15, _, Try.func15, by kernel_rfl, rfl, by kernel_rfl, by kernel_rfl⟩
/-- rill/super.Write -/
def c16 : ACode :=
 (.seq
 (.ops [0, 1, 2, 7, 8] [
 ox 7 .box [.t 3],
 ox 8 (.alloc (List.replicate 32 (.int .u8 0))) [],
 ox 9 .mv [.c (.int .i64 0)]])
 (.seq
 (.ops [0, 1, 2, 8, 10, 11] [
 ox 14 (.load true 3) [.t 7],
 ox 15 (.call 8) [.t 14],
 ox 13 .mv [.t 15],
 ox 16 (.extract 0) [.t 13],
 ox 17 (.extract 1) [.t 13],
 ox 10 .mv [.t 16],
 ox 11 .mv [.t 17]])
 (.seq
 (.seq
 (.ops [0, 1, 2, 8, 10, 11, 19] [
 ox 18 .mv [.t 11],
 ox 19 (.eq true .int) [.t 18, .c (.int .i64 0)]])
 (.cond (.t 19)
 (.seq
 (.ops [8, 9] [
 ox 20 (.build (List.replicate 32 (.int .u8 0)) []) [],
 ox 21 .mv [.t 11],
 oy (.store 32) [.t 8, .t 20],
 ox 9 .mv [.t 21]])
 .ret)
 .skip))
 (.seq
 (.ops [0, 1, 8, 11, 12] [
 ox 23 .mv [.t 1],
 ox 24 .mv [.t 2],
 ox 25 .mv [.t 10],
 ox 26 (.build [.int .i64 0, .int .i64 0, .int .i64 0, .int .i64 0, .nils] [(0, 1), (1, 1), (4, 1)]) [.c (.int .i64 1), .t 24, .t 25],
 ox 27 (.call 33) [.t 23, .t 26],
 ox 22 .mv [.t 27],
 ox 28 (.extract 0) [.t 22],
 ox 29 (.extract 1) [.t 22],
 ox 12 .mv [.t 28],
 ox 11 .mv [.t 29]])
 (.seq
 (.seq
 (.ops [0, 1, 8, 11, 12, 31] [
 ox 30 .mv [.t 11],
 ox 31 (.eq false .int) [.t 30, .c (.int .i64 0)]])
 (.cond (.t 31)
 (.ops [1, 8, 11, 12] [
 ox 32 .mv [.t 0],
 ox 33 .mv [.t 12],
 ox 34 (.call 34) [.t 32, .c (.int .i64 0), .t 33],
 ox 11 .mv [.t 34]])
 .skip))
 (.seq
 (.seq
 (.ops [1, 8, 11, 12, 36] [
 ox 35 .mv [.t 11],
 ox 36 (.eq true .int) [.t 35, .c (.int .i64 0)]])
 (.cond (.t 36)
 (.seq
 (.ops [8, 9] [
 ox 37 (.build (List.replicate 32 (.int .u8 0)) []) [],
 ox 38 .mv [.t 11],
 oy (.store 32) [.t 8, .t 37],
 ox 9 .mv [.t 38]])
 .ret)
 .skip))
 (.seq
 (.ops [8, 9] [
 ox 39 .mv [.t 1],
 ox 40 .mv [.t 12],
 ox 41 (.invoke "Sum") [.t 39, .t 40],
 oy (.store 32) [.t 8, .t 41],
 ox 9 .mv [.c (.int .i64 0)]])
 .ret)))))))
def r16 : List ARes := [.cell 8 true 32, .tmp 9]
theorem ok16 : FnOk Try.prog 16 c16 r16 :=
  ⟨Try.f16, _, Try.func16, by kernel_rfl, rfl, by kernel_rfl, by kernel_rfl⟩
/-- (*rill/disk.Disk).Read -/
def c17 : ACode :=
 (.seq
 (.ops [0, 1] [
 ox 4 .mv [.c .nils],
 ox 5 .mv [.c (.int .i64 0)]])
 (.seq
 (.seq
 (.ops [0, 1, 11] [
 ox 8 .mv [.t 0],
 ox 9 .mv [.t 1],
 ox 10 (.call 35) [.t 8, .t 9],
 ox 11 .not [.t 10]])
 (.cond (.t 11)
 (.seq
 (.ops [4, 5] [
 ox 4 .mv [.c .nils],
 ox 5 .mv [.c (.int .i64 7)]])
 .ret)
 .skip))
 (.seq
 (.ops [0, 1] [
 ox 12 .mv [.t 0],
 ox 13 .nilCheck [.t 12],
 ox 14 (.fieldAddr 6) [.t 13],
 ox 15 (.load false 1) [.t 14],
 ox 16 .mv [.t 1],
 ox 17 (.idxAddr 1) [.t 15, .t 16],
 ox 18 (.load false 1) [.t 17],
 ox 19 (.arith .add) [.t 18, .c (.int .i64 1)],
 ox 20 (.idxAddr 1) [.t 15, .t 16],
 oy (.store 1) [.t 20, .t 19]])
 (.seq
 (.seq
 (.ops [0, 1, 6, 7] [
 ox 22 .mv [.t 0],
 ox 23 .nilCheck [.t 22],
 ox 24 (.fieldAddr 1) [.t 23],
 ox 25 (.load false 1) [.t 24],
 ox 26 .mv [.t 1],
 ox 27 (.lookup (.one .i) .nils true) [.t 25, .t 26],
 ox 21 .mv [.t 27],
 ox 28 (.extract 0) [.t 21],
 ox 29 (.extract 1) [.t 21],
 ox 6 .mv [.t 28],
 ox 7 .mv [.t 29]])
 (.seq
 (.ops [0, 1, 6, 30] [
 ox 30 .mv [.t 7]])
 (.cond (.t 30)
 (.seq
 (.ops [4, 5] [
 ox 31 .mv [.t 6],
 ox 32 (.call 36) [.t 31],
 ox 4 .mv [.t 32],
 ox 5 .mv [.c (.int .i64 0)]])
 .ret)
 .skip)))
 (.seq
 (.ops [4, 5] [
 ox 33 .mv [.t 0],
 ox 34 .nilCheck [.t 33],
 ox 35 (.fieldAddr 0) [.t 34],
 ox 36 (.load false 1) [.t 35],
 ox 37 .mv [.t 1],
 ox 38 (.idxAddr 1) [.t 36, .t 37],
 ox 39 (.load false 1) [.t 38],
 ox 40 (.call 36) [.t 39],
 ox 4 .mv [.t 40],
 ox 5 .mv [.c (.int .i64 0)]])
 .ret)))))
def r17 : List ARes := [.tmp 4, .tmp 5]
theorem ok17 : FnOk Try.prog 17 c17 r17 :=
  ⟨Try.f17, _, Try.func17, by kernel_rfl, rfl, by kernel_rfl, by kernel_rfl⟩
/-- rill/super.Read -/
def c18 : ACode :=
 (.seq
 (.ops [0, 1, 4, 5] [
 ox 4 (.alloc [.int .i64 0, .int .i64 0, .int .i64 0]) [],
 ox 5 (.alloc (List.replicate 32 (.int .u8 0))) [],
 ox 6 .mv [.c (.int .i64 0)]])
 (.seq
 (.ops [1, 4, 5, 7] [
 ox 14 .mv [.t 0],
 ox 15 (.call 17) [.t 14, .c (.int .i64 0)],
 ox 13 .mv [.t 15],
 ox 16 (.extract 0) [.t 13],
 ox 17 (.extract 1) [.t 13],
 ox 7 .mv [.t 16],
 ox 8 .mv [.t 17]])
 (.seq
 (.seq
 (.ops [1, 4, 5, 7, 20] [
 ox 18 .mv [.t 7],
 ox 19 .len [.t 18],
 ox 20 (.eq false .int) [.t 19, .c (.int .i64 0)]])
 (.cond (.t 20)
 (.seq
 (.ops [4, 5, 6] [
 ox 21 (.build [.int .i64 0, .int .i64 0, .int .i64 0] []) [],
 ox 22 (.build (List.replicate 32 (.int .u8 0)) []) [],
 oy (.store 3) [.t 4, .t 21],
 oy (.store 32) [.t 5, .t 22],
 ox 6 .mv [.c (.int .i64 9)]])
 .ret)
 .skip))
 (.seq
 (.ops [1, 4, 5, 7, 9, 10] [
 ox 24 .mv [.t 1],
 ox 25 .mv [.t 7],
 ox 26 (.call 37) [.t 24, .c (.int .i64 1), .c (.int .i64 0), .t 25],
 ox 23 .mv [.t 26],
 ox 27 (.extract 0) [.t 23],
 ox 28 (.extract 1) [.t 23],
 ox 9 (.alloc [.int .i64 0, .int .i64 0, .int .i64 0, .int .i64 0, .nils]) [],
 oy (.store 5) [.t 9, .t 27],
 ox 10 .mv [.t 28]])
 (.seq
 (.ops [1, 4, 5, 7, 9, 10, 11, 12] [
 ox 30 (.fieldAddr 4) [.t 9],
 ox 31 (.load false 1) [.t 30],
 ox 32 (.call 10) [.t 31],
 ox 29 .mv [.t 32],
 ox 33 (.extract 0) [.t 29],
 ox 34 (.extract 1) [.t 29],
 ox 11 (.alloc [.int .i64 0, .int .i64 0, .int .i64 0]) [],
 oy (.store 3) [.t 11, .t 33],
 ox 12 .mv [.t 34]])
 (.seq
 (.seq
 (.ops [1, 4, 5, 7, 11, 45] [
 ox 35 .mv [.t 10],
 ox 36 (.eq true .int) [.t 35, .c (.int .i64 0)],
 ox 37 .mv [.t 36],
 og 38 .mv [.t 12] 37 false,
 og 39 (.eq true .int) [.t 38, .c (.int .i64 0)] 37 false,
 ox 40 .pick [.t 37, .c (.bool true), .t 39],
 ox 41 .mv [.t 40],
 og 42 (.fieldAddr 2) [.t 9] 41 false,
 og 43 (.load false 1) [.t 42] 41 false,
 og 44 (.eq true .int) [.t 43, .c (.int .i64 0)] 41 false,
 ox 45 .pick [.t 41, .c (.bool true), .t 44]])
 (.cond (.t 45)
 (.seq
 (.ops [4, 5, 6] [
 ox 46 (.build [.int .i64 0, .int .i64 0, .int .i64 0] []) [],
 ox 47 (.build (List.replicate 32 (.int .u8 0)) []) [],
 oy (.store 3) [.t 4, .t 46],
 oy (.store 32) [.t 5, .t 47],
 ox 6 .mv [.c (.int .i64 14)]])
 .ret)
 .skip))
 (.seq
 (.drawn [4, 5, 6] [
 od 48 (.load true 3) [.t 11] 0 1,
 ox 49 .mv [.t 1],
 ox 50 .mv [.t 7],
 od 51 (.invoke "Sum") [.t 49, .t 50] 0 1,
 oe (.store 3) [.t 4, .t 48] 1 2,
 oe (.store 32) [.t 5, .t 51] 2 3,
 od 6 .mv [.c (.int .i64 0)] 3 3])
 .ret)))))))
def r18 : List ARes := [.cell 4 true 3, .cell 5 true 32, .tmp 6]
theorem ok18 : FnOk Try.prog 18 c18 r18 :=
  ⟨Try.f18, _, Try.func18, by kernel_rfl, rfl, by kernel_rfl, by kernel_rfl⟩
/-- rill/rillkit.CopyBytes -/
def c19 : ACode :=
 (.seq
 (.ops [0] [
 ox 2 .mv [.c .nils]])
 (.seq
 (.ops [0, 3] [
 ox 3 .mv [.c .nils]])
 (.seq
 (.seq
 (.ops [0, 3, 4] [
 ox 4 .mv [.c (.int .i64 0)]])
 (.block 0
 (.loop [0, 3, 4]
 (.seq
 (.seq
 (.ops [0, 3, 4, 8] [
 ox 5 .mv [.t 4],
 ox 6 .mv [.t 0],
 ox 7 .len [.t 6],
 ox 8 (.cmp .lss) [.t 5, .t 7]])
 (.cond (.t 8)
 .skip
 (.exit 0)))
 (.seq
 (.block 1
 (.ops [0, 3, 4] [
 ox 11 .mv [.t 3],
 ox 12 .mv [.t 0],
 ox 13 .mv [.t 4],
 ox 14 (.idxAddr 1) [.t 12, .t 13],
 ox 15 (.load false 1) [.t 14],
 ox 16 (.mkSl 1 [.int .u8 0] [(0, 1)]) [.t 15],
 ox 17 (.append 1 1) [.t 11, .t 16],
 ox 3 .mv [.t 17]]))
 (.ops [0, 3, 4] [
 ox 9 .mv [.t 4],
 ox 10 (.arith .add) [.t 9, .c (.int .i64 1)],
 ox 4 .mv [.t 10]]))))))
 (.seq
 (.ops [2] [
 ox 18 .mv [.t 3],
 ox 2 .mv [.t 18]])
 .ret))))
def r19 : List ARes := [.tmp 2]
theorem ok19 : FnOk Try.prog 19 c19 r19 :=
  ⟨Try.f19, _, Try.func19, by kernel_rfl, rfl, by kernel_rfl, by kernel_rfl⟩
/-- rill/rillkit.Pick -/
def c20 : ACode :=
 (.seq
 (.ops [0, 1] [
 ox 4 .mv [.c (.int .i64 0)]])
 (.seq
 (.seq
 (.ops [0, 1, 6] [
 ox 5 .mv [.t 1],
 ox 6 (.cmp .lss) [.t 5, .c (.int .i64 1)]])
 (.cond (.t 6)
 (.seq
 (.ops [4] [
 ox 4 .mv [.c (.int .i64 0)]])
 .ret)
 .skip))
 (.seq
 (.ops [0, 1] [
 ox 7 .mv [.t 0],
 ox 8 .mv [.t 1],
 ox 9 (.arith .rem) [.t 7, .t 8],
 ox 0 .mv [.t 9]])
 (.seq
 (.seq
 (.ops [0, 1, 11] [
 ox 10 .mv [.t 0],
 ox 11 (.cmp .lss) [.t 10, .c (.int .i64 0)]])
 (.cond (.t 11)
 (.ops [0] [
 ox 12 .mv [.t 0],
 ox 13 .mv [.t 1],
 ox 14 (.arith .add) [.t 12, .t 13],
 ox 0 .mv [.t 14]])
 .skip))
 (.seq
 (.ops [4] [
 ox 15 .mv [.t 0],
 ox 4 .mv [.t 15]])
 .ret)))))
def r20 : List ARes := [.tmp 4]
theorem ok20 : FnOk Try.prog 20 c20 r20 :=
  ⟨Try.f20, _, Try.func20, by kernel_rfl, rfl, by kernel_rfl, by kernel_rfl⟩
/-- (*rill/disk.Disk).Tamper -/
def c21 : ACode :=
 (.seq
 (.ops [0, 1, 2] [
 ox 6 .mv [.c (.int .i64 0)]])
 (.seq
 (.seq
 (.ops [0, 1, 2, 7] [
 ox 8 .mv [.t 0],
 ox 9 .mv [.t 1],
 ox 10 .mv [.t 2],
 ox 11 (.call 38) [.t 8, .t 9, .t 10],
 ox 7 .mv [.t 11]])
 (.seq
 (.ops [0, 1, 2, 7, 13] [
 ox 12 .mv [.t 7],
 ox 13 (.eq true .int) [.t 12, .c (.int .i64 0)]])
 (.cond (.t 13)
 (.seq
 (.ops [6] [
 ox 14 .mv [.t 7],
 ox 6 .mv [.t 14]])
 .ret)
 .skip)))
 (.seq
 (.drawn [0, 1] [
 od 15 .mv [.t 0] 0 1,
 od 16 .nilCheck [.t 15] 0 1,
 od 17 (.fieldAddr 0) [.t 16] 0 1,
 od 18 (.load false 1) [.t 17] 0 1,
 od 19 .mv [.t 1] 0 1,
 ox 20 .mv [.t 2],
 od 21 (.call 36) [.t 20] 0 1,
 od 22 (.idxAddr 1) [.t 18, .t 19] 1 1,
 oe (.store 1) [.t 22, .t 21] 1 2])
 (.seq
 (.ops [] [
 ox 23 .mv [.t 0],
 ox 24 .nilCheck [.t 23],
 ox 25 (.fieldAddr 1) [.t 24],
 ox 26 (.load false 1) [.t 25],
 ox 27 .mv [.t 1],
 oy (.mapDel (.one .i)) [.t 26, .t 27]])
 (.seq
 (.ops [6] [
 ox 6 .mv [.c (.int .i64 0)]])
 .ret)))))
def r21 : List ARes := [.tmp 6]
theorem ok21 : FnOk Try.prog 21 c21 r21 :=
  ⟨Try.f21, _, Try.func21, by kernel_rfl, rfl, by kernel_rfl, by kernel_rfl⟩
/-- rill/rillkit.Small -/
def c22 : ACode :=
 (.seq
 (.ops [0] [
 ox 0 (.alloc [.int .i64 0, .int .i64 0, .int .i64 0]) []])
 (.seq
 (.ops [0] [
 ox 1 (.build [.int .i64 0, .int .i64 0, .int .i64 0] [(0, 1), (1, 1), (2, 1)]) [.c (.int .i64 18), .c (.int .i64 32), .c (.int .i64 4)],
 oy (.store 3) [.t 0, .t 1]])
 .ret))
def r22 : List ARes := [.cell 0 true 3]
theorem ok22 : FnOk Try.prog 22 c22 r22 :=
  ⟨Try.f22, _, Try.func22, by kernel_rfl, rfl, by kernel_rfl, by kernel_rfl⟩
/-- rill/geo.Check -/
def c23 : ACode :=
 (.seq
 (.ops [1] [
 ox 1 .box [.t 0],
 ox 2 .mv [.c (.int .i64 0)]])
 (.seq
 (.seq
 (.ops [5] [
 ox 3 (.load true 3) [.t 1],
 ox 4 (.call 39) [.t 3],
 ox 5 .not [.t 4]])
 (.cond (.t 5)
 (.seq
 (.ops [2] [
 ox 2 .mv [.c (.int .i64 15)]])
 .ret)
 .skip))
 (.seq
 (.ops [2] [
 ox 2 .mv [.c (.int .i64 0)]])
 .ret)))
def r23 : List ARes := [.tmp 2]
theorem ok23 : FnOk Try.prog 23 c23 r23 :=
  ⟨Try.f23, _, Try.func23, by kernel_rfl, rfl, by kernel_rfl, by kernel_rfl⟩
/-- rill/pack.Int -/
def c24 : ACode :=
 (.seq
 (.ops [0, 1] [
 ox 4 .mv [.c .nils]])
 (.seq
 (.ops [4] [
 ox 5 .mv [.t 0],
 ox 6 .mv [.t 1],
 ox 7 (.call 41) [.t 6],
 ox 8 (.call 40) [.t 5, .t 7],
 ox 4 .mv [.t 8]])
 .ret))
def r24 : List ARes := [.tmp 4]
theorem ok24 : FnOk Try.prog 24 c24 r24 :=
  ⟨Try.f24, _, Try.func24, by kernel_rfl, rfl, by kernel_rfl, by kernel_rfl⟩
/-- rill/pack.Read -/
def c27 : ACode :=
 (.seq
 (.ops [0] [
 ox 2 .mv [.c .nilp]])
 (.seq
 (.ops [2] [
 ox 3 .mv [.t 0],
 ox 4 (.call 40) [.t 3, .c .nils],
 ox 5 (.build [.nils, .bool false] [(0, 1)]) [.t 4],
 ox 6 .box [.t 5],
 ox 2 .mv [.t 6]])
 .ret))
def r27 : List ARes := [.tmp 2]
theorem ok27 : FnOk Try.prog 27 c27 r27 :=
  ⟨Try.f27, _, Try.func27, by kernel_rfl, rfl, by kernel_rfl, by kernel_rfl⟩
/-- (*rill/pack.Reader).Int -/
def c28 : ACode :=
 (.seq
 (.ops [0] [
 ox 2 .mv [.c (.int .i64 0)]])
 (.seq
 (.ops [2] [
 ox 3 .mv [.t 0],
 ox 4 (.call 43) [.t 3, .c (.int .i64 8), .c (.fn (.func 44) [] [])],
 ox 2 .mv [.t 4]])
 .ret))
def r28 : List ARes := [.tmp 2]
theorem ok28 : FnOk Try.prog 28 c28 r28 :=
  ⟨Try.f28, _, Try.func28, by kernel_rfl, rfl, by kernel_rfl, by kernel_rfl⟩
/-- (*rill/pack.Reader).End -/
def c29 : ACode :=
 (.seq
 (.ops [0] [
 ox 2 .mv [.c (.int .i64 0)]])
 (.seq
 (.block 0
 (.seq
 (.ops [0, 3] [
 ox 4 .mv [.t 0],
 ox 5 .nilCheck [.t 4],
 ox 6 (.fieldAddr 1) [.t 5],
 ox 7 (.load false 1) [.t 6],
 ox 3 .mv [.t 7]])
 (.cond (.t 3)
 (.seq
 (.ops [2] [
 ox 2 .mv [.c (.int .i64 4)]])
 .ret)
 (.seq
 (.ops [8] [
 ox 9 .mv [.t 0],
 ox 10 .nilCheck [.t 9],
 ox 11 (.fieldAddr 0) [.t 10],
 ox 12 (.load false 1) [.t 11],
 ox 13 .len [.t 12],
 ox 14 (.cmp .gtr) [.t 13, .c (.int .i64 0)],
 ox 8 .mv [.t 14]])
 (.cond (.t 8)
 (.seq
 (.ops [2] [
 ox 2 .mv [.c (.int .i64 3)]])
 .ret)
 .skip)))))
 (.seq
 (.ops [2] [
 ox 2 .mv [.c (.int .i64 0)]])
 .ret)))
def r29 : List ARes := [.tmp 2]
theorem ok29 : FnOk Try.prog 29 c29 r29 :=
  ⟨Try.f29, _, Try.func29, by kernel_rfl, rfl, by kernel_rfl, by kernel_rfl⟩
/-- rill/sector.Put -/
def c33 : ACode :=
 (.seq
 (.ops [0, 3] [
 ox 3 .box [.t 1],
 ox 4 .mv [.c .nils],
 ox 5 .mv [.c (.int .i64 0)]])
 (.seq
 (.block 0
 (.seq
 (.seq
 (.ops [0, 3, 7] [
 ox 8 (.fieldAddr 0) [.t 3],
 ox 9 (.load false 1) [.t 8],
 ox 10 (.cmp .lss) [.t 9, .c (.int .i64 1)],
 ox 7 .mv [.t 10]])
 (.cond (.t 7)
 .skip
 (.ops [0, 3, 7] [
 ox 11 (.fieldAddr 0) [.t 3],
 ox 12 (.load false 1) [.t 11],
 ox 13 (.cmp .gtr) [.t 12, .c (.int .i64 5)],
 ox 7 .mv [.t 13]])))
 (.cond (.t 7)
 (.seq
 (.ops [4, 5] [
 ox 4 .mv [.c .nils],
 ox 5 .mv [.c (.int .i64 5)]])
 .ret)
 (.seq
 (.ops [0, 3, 14] [
 ox 15 (.fieldAddr 1) [.t 3],
 ox 16 (.load false 1) [.t 15],
 ox 17 (.fieldAddr 2) [.t 3],
 ox 18 (.load false 1) [.t 17],
 ox 19 (.fieldAddr 3) [.t 3],
 ox 20 (.load false 1) [.t 19],
 ox 21 (.call 47) [.t 16, .t 18, .t 20],
 ox 22 .not [.t 21],
 ox 14 .mv [.t 22]])
 (.cond (.t 14)
 (.seq
 (.ops [4, 5] [
 ox 4 .mv [.c .nils],
 ox 5 .mv [.c (.int .i64 7)]])
 .ret)
 (.seq
 (.ops [0, 3, 23] [
 ox 24 (.fieldAddr 4) [.t 3],
 ox 25 (.load false 1) [.t 24],
 ox 26 .len [.t 25],
 ox 27 (.cmp .gtr) [.t 26, .c (.int .i64 975)],
 ox 23 .mv [.t 27]])
 (.cond (.t 23)
 (.seq
 (.ops [4, 5] [
 ox 4 .mv [.c .nils],
 ox 5 .mv [.c (.int .i64 3)]])
 .ret)
 .skip)))))))
 (.seq
 (.drawn [0, 3, 6] [
 ox 28 (.fieldAddr 0) [.t 3],
 ox 29 (.load false 1) [.t 28],
 ox 30 (.conv .u8) [.t 29],
 ox 31 (.mkSl 1 [.int .u8 0] [(0, 1)]) [.t 30],
 ox 32 (.fieldAddr 1) [.t 3],
 ox 33 (.load false 1) [.t 32],
 od 34 (.call 24) [.t 31, .t 33] 0 1,
 od 35 (.fieldAddr 2) [.t 3] 0 1,
 od 36 (.load false 1) [.t 35] 0 1,
 od 37 (.call 24) [.t 34, .t 36] 1 2,
 od 6 .mv [.t 37] 2 2])
 (.seq
 (.drawn [4, 5] [
 od 38 .mv [.t 6] 0 2,
 od 39 .mv [.t 0] 0 1,
 od 40 (.fieldAddr 1) [.t 3] 0 1,
 od 41 (.load false 1) [.t 40] 0 1,
 od 42 (.fieldAddr 2) [.t 3] 0 1,
 od 43 (.load false 1) [.t 42] 0 1,
 ox 44 (.fieldAddr 0) [.t 3],
 ox 45 (.load false 1) [.t 44],
 ox 46 (.fieldAddr 3) [.t 3],
 ox 47 (.load false 1) [.t 46],
 od 48 (.call 48) [.t 45, .t 47] 0 1,
 od 49 (.fieldAddr 4) [.t 3] 0 1,
 od 50 (.load false 1) [.t 49] 0 1,
 od 51 (.mkFn (.method "Seal") 1) [.t 39] 0 1,
 od 52 .nilCheck [.t 51] 0 1,
 od 53 .mv [.t 39] 0 1,
 od 54 (.invoke "Seal") [.t 53, .t 41, .t 43, .t 48, .t 50] 1 2,
 od 55 (.append 1 1) [.t 38, .t 54] 2 3,
 od 4 .mv [.t 55] 3 3,
 od 5 .mv [.c (.int .i64 0)] 3 3])
 .ret))))
def r33 : List ARes := [.tmp 4, .tmp 5]
theorem ok33 : FnOk Try.prog 33 c33 r33 :=
  ⟨Try.f33, _, Try.func33, by kernel_rfl, rfl, by kernel_rfl, by kernel_rfl⟩
/-- (*rill/disk.Disk).Write -/
def c34 : ACode :=
 (.seq
 (.ops [0, 1, 2] [
 ox 6 .mv [.c (.int .i64 0)]])
 (.seq
 (.seq
 (.ops [0, 1, 2, 12] [
 ox 9 .mv [.t 0],
 ox 10 .nilCheck [.t 9],
 ox 11 (.fieldAddr 4) [.t 10],
 ox 12 (.load false 1) [.t 11]])
 (.cond (.t 12)
 (.seq
 (.ops [6] [
 ox 6 .mv [.c (.int .i64 12)]])
 .ret)
 .skip))
 (.seq
 (.seq
 (.ops [0, 1, 2, 7] [
 ox 13 .mv [.t 0],
 ox 14 .mv [.t 1],
 ox 15 .mv [.t 2],
 ox 16 (.call 38) [.t 13, .t 14, .t 15],
 ox 7 .mv [.t 16]])
 (.seq
 (.ops [0, 1, 2, 7, 18] [
 ox 17 .mv [.t 7],
 ox 18 (.eq true .int) [.t 17, .c (.int .i64 0)]])
 (.cond (.t 18)
 (.seq
 (.ops [6] [
 ox 19 .mv [.t 7],
 ox 6 .mv [.t 19]])
 .ret)
 .skip)))
 (.seq
 (.seq
 (.ops [0, 1, 2, 8] [
 ox 20 .mv [.t 0],
 ox 21 (.call 49) [.t 20],
 ox 8 .mv [.t 21]])
 (.seq
 (.ops [0, 1, 2, 8, 23] [
 ox 22 .mv [.t 8],
 ox 23 (.eq true .int) [.t 22, .c (.int .i64 0)]])
 (.cond (.t 23)
 (.seq
 (.ops [6] [
 ox 24 .mv [.t 8],
 ox 6 .mv [.t 24]])
 .ret)
 .skip)))
 (.seq
 (.drawn [0] [
 od 25 .mv [.t 0] 0 1,
 od 26 .nilCheck [.t 25] 0 1,
 od 27 (.fieldAddr 1) [.t 26] 0 1,
 od 28 (.load false 1) [.t 27] 0 1,
 od 29 .mv [.t 1] 0 1,
 ox 30 .mv [.t 2],
 od 31 (.call 36) [.t 30] 0 1,
 oe (.mapSet (.one .i)) [.t 28, .t 29, .t 31] 1 2])
 (.seq
 (.ops [] [
 ox 32 .mv [.t 0],
 ox 33 .nilCheck [.t 32],
 ox 34 (.fieldAddr 5) [.t 33],
 ox 35 (.load false 1) [.t 34],
 ox 36 (.arith .add) [.t 35, .c (.int .i64 1)],
 ox 37 .nilCheck [.t 32],
 ox 38 (.fieldAddr 5) [.t 37],
 oy (.store 1) [.t 38, .t 36]])
 (.seq
 (.ops [6] [
 ox 6 .mv [.c (.int .i64 0)]])
 .ret)))))))
def r34 : List ARes := [.tmp 6]
theorem ok34 : FnOk Try.prog 34 c34 r34 :=
  ⟨Try.f34, _, Try.func34, by kernel_rfl, rfl, by kernel_rfl, by kernel_rfl⟩
/-- (*rill/disk.Disk).there -/
def c35 : ACode :=
 (.seq
 (.ops [0, 1] [
 ox 4 .mv [.c (.bool false)]])
 (.seq
 (.ops [4] [
 ox 5 .mv [.t 1],
 ox 6 (.cmp .geq) [.t 5, .c (.int .i64 0)],
 ox 7 .mv [.t 6],
 og 8 .mv [.t 1] 7 true,
 og 9 .mv [.t 0] 7 true,
 og 10 .nilCheck [.t 9] 7 true,
 og 11 (.fieldAddr 0) [.t 10] 7 true,
 og 12 (.load false 1) [.t 11] 7 true,
 og 13 .len [.t 12] 7 true,
 og 14 (.cmp .lss) [.t 8, .t 13] 7 true,
 ox 15 .pick [.t 7, .t 14, .c (.bool false)],
 ox 4 .mv [.t 15]])
 .ret))
def r35 : List ARes := [.tmp 4]
theorem ok35 : FnOk Try.prog 35 c35 r35 :=
  ⟨Try.f35, _, Try.func35, by kernel_rfl, rfl, by kernel_rfl, by kernel_rfl⟩
/-- slices.Clone[[]byte,byte] -/
def c36 : ACode :=
 (.seq
 (.ops [0] [
 ox 2 .mv [.c .nils]])
 (.seq
 (.seq
 (.ops [0, 4] [
 ox 3 .mv [.t 0],
 ox 4 (.eq false .slice) [.t 3, .c .nils]])
 (.cond (.t 4)
 (.seq
 (.ops [2] [
 ox 2 .mv [.c .nils]])
 .ret)
 .skip))
 (.seq
 (.ops [2] [
 ox 5 (.mkSl 0 [] []) [],
 ox 6 .mv [.t 0],
 ox 7 (.append 1 1) [.t 5, .t 6],
 ox 2 .mv [.t 7]])
 .ret)))
def r36 : List ARes := [.tmp 2]
theorem ok36 : FnOk Try.prog 36 c36 r36 :=
  ⟨Try.f36, _, Try.func36, by kernel_rfl, rfl, by kernel_rfl, by kernel_rfl⟩
/-- rill/sector.Get -/
def c37 : ACode :=
 (.seq
 (.ops [0, 1, 2, 3, 8] [
 ox 8 (.alloc [.int .i64 0, .int .i64 0, .int .i64 0, .int .i64 0, .nils]) [],
 ox 9 .mv [.c (.int .i64 0)]])
 (.seq
 (.block 0
 (.seq
 (.ops [0, 1, 2, 3, 8, 14] [
 ox 15 .mv [.t 3],
 ox 16 .len [.t 15],
 ox 17 (.cmp .lss) [.t 16, .c (.int .i64 17)],
 ox 14 .mv [.t 17]])
 (.cond (.t 14)
 (.seq
 (.ops [8, 9] [
 ox 18 (.build [.int .i64 0, .int .i64 0, .int .i64 0, .int .i64 0, .nils] []) [],
 oy (.store 5) [.t 8, .t 18],
 ox 9 .mv [.c (.int .i64 2)]])
 .ret)
 (.seq
 (.ops [0, 1, 2, 3, 8, 19] [
 ox 20 .mv [.t 3],
 ox 21 .len [.t 20],
 ox 22 (.cmp .gtr) [.t 21, .c (.int .i64 1024)],
 ox 19 .mv [.t 22]])
 (.cond (.t 19)
 (.seq
 (.ops [8, 9] [
 ox 23 (.build [.int .i64 0, .int .i64 0, .int .i64 0, .int .i64 0, .nils] []) [],
 oy (.store 5) [.t 8, .t 23],
 ox 9 .mv [.c (.int .i64 3)]])
 .ret)
 (.seq
 (.ops [0, 1, 2, 3, 8, 24] [
 ox 25 .mv [.t 1],
 ox 26 (.eq false .int) [.t 25, .c (.int .i64 0)],
 ox 27 .mv [.t 26],
 og 28 .mv [.t 3] 27 false,
 og 29 (.call 50) [.t 28] 27 false,
 og 30 .mv [.t 1] 27 false,
 og 31 (.eq true .int) [.t 29, .t 30] 27 false,
 ox 32 .pick [.t 27, .c (.bool true), .t 31],
 ox 24 .mv [.t 32]])
 (.cond (.t 24)
 (.seq
 (.ops [8, 9] [
 ox 33 (.build [.int .i64 0, .int .i64 0, .int .i64 0, .int .i64 0, .nils] []) [],
 oy (.store 5) [.t 8, .t 33],
 ox 9 .mv [.c (.int .i64 5)]])
 .ret)
 .skip)))))))
 (.seq
 (.ops [0, 1, 2, 3, 8, 10] [
 ox 34 .mv [.t 3],
 ox 35 (.slice 1 true true false) [.t 34, .c (.int .i64 1), .c (.int .i64 17)],
 ox 36 (.call 27) [.t 35],
 ox 10 .mv [.t 36]])
 (.seq
 (.ops [0, 1, 2, 3, 8, 11] [
 ox 37 .mv [.t 1],
 ox 38 .mv [.t 10],
 ox 39 (.call 28) [.t 38],
 ox 40 .mv [.t 10],
 ox 41 (.call 28) [.t 40],
 ox 42 .mv [.t 2],
 ox 43 (.build [.int .i64 0, .int .i64 0, .int .i64 0, .int .i64 0, .nils] [(0, 1), (1, 1), (2, 1), (3, 1)]) [.t 37, .t 39, .t 41, .t 42],
 ox 11 (.alloc [.int .i64 0, .int .i64 0, .int .i64 0, .int .i64 0, .nils]) [],
 oy (.store 5) [.t 11, .t 43]])
 (.seq
 (.seq
 (.ops [0, 1, 2, 3, 8, 11, 50] [
 ox 44 (.fieldAddr 1) [.t 11],
 ox 45 (.load false 1) [.t 44],
 ox 46 (.fieldAddr 2) [.t 11],
 ox 47 (.load false 1) [.t 46],
 ox 48 .mv [.t 2],
 ox 49 (.call 47) [.t 45, .t 47, .t 48],
 ox 50 .not [.t 49]])
 (.cond (.t 50)
 (.seq
 (.ops [8, 9] [
 ox 51 (.build [.int .i64 0, .int .i64 0, .int .i64 0, .int .i64 0, .nils] []) [],
 oy (.store 5) [.t 8, .t 51],
 ox 9 .mv [.c (.int .i64 7)]])
 .ret)
 .skip))
 (.seq
 (.drawn [8, 11, 12, 13] [
 od 53 .mv [.t 0] 0 1,
 od 54 (.fieldAddr 1) [.t 11] 0 1,
 od 55 (.load false 1) [.t 54] 0 1,
 od 56 (.fieldAddr 2) [.t 11] 0 1,
 od 57 (.load false 1) [.t 56] 0 1,
 ox 58 .mv [.t 1],
 ox 59 .mv [.t 2],
 od 60 (.call 48) [.t 58, .t 59] 0 1,
 od 61 .mv [.t 3] 0 1,
 od 62 (.slice 1 true false false) [.t 61, .c (.int .i64 17)] 0 1,
 od 63 (.mkFn (.method "Open") 1) [.t 53] 0 1,
 od 64 .nilCheck [.t 63] 0 1,
 od 65 .mv [.t 53] 0 1,
 od 66 (.invoke "Open") [.t 65, .t 55, .t 57, .t 60, .t 62] 1 2,
 od 52 .mv [.t 66] 2 2,
 od 67 (.extract 0) [.t 52] 2 2,
 od 68 (.extract 1) [.t 52] 2 2,
 od 12 .mv [.t 67] 2 2,
 od 13 .mv [.t 68] 2 2])
 (.seq
 (.seq
 (.ops [8, 11, 12, 70] [
 ox 69 .mv [.t 13],
 ox 70 .not [.t 69]])
 (.cond (.t 70)
 (.seq
 (.ops [8, 9] [
 ox 71 (.build [.int .i64 0, .int .i64 0, .int .i64 0, .int .i64 0, .nils] []) [],
 oy (.store 5) [.t 8, .t 71],
 ox 9 .mv [.c (.int .i64 19)]])
 .ret)
 .skip))
 (.seq
 (.ops [8, 11] [
 ox 72 .mv [.t 12],
 ox 73 (.fieldAddr 4) [.t 11],
 oy (.store 1) [.t 73, .t 72]])
 (.seq
 (.ops [8, 9] [
 ox 74 (.load true 5) [.t 11],
 oy (.store 5) [.t 8, .t 74],
 ox 9 .mv [.c (.int .i64 0)]])
 .ret)))))))))
def r37 : List ARes := [.cell 8 true 5, .tmp 9]
theorem ok37 : FnOk Try.prog 37 c37 r37 :=
  ⟨Try.f37, _, Try.func37, by kernel_rfl, rfl, by kernel_rfl, by kernel_rfl⟩
/-- (*rill/disk.Disk).wrong -/
def c38 : ACode :=
 (.seq
 (.ops [0, 1, 2] [
 ox 6 .mv [.c (.int .i64 0)]])
 (.seq
 (.block 0
 (.seq
 (.ops [2, 7] [
 ox 8 .mv [.t 0],
 ox 9 .mv [.t 1],
 ox 10 (.call 35) [.t 8, .t 9],
 ox 11 .not [.t 10],
 ox 7 .mv [.t 11]])
 (.cond (.t 7)
 (.seq
 (.ops [6] [
 ox 6 .mv [.c (.int .i64 7)]])
 .ret)
 (.seq
 (.ops [12] [
 ox 13 .mv [.t 2],
 ox 14 .len [.t 13],
 ox 15 (.cmp .gtr) [.t 14, .c (.int .i64 1024)],
 ox 12 .mv [.t 15]])
 (.cond (.t 12)
 (.seq
 (.ops [6] [
 ox 6 .mv [.c (.int .i64 3)]])
 .ret)
 .skip)))))
 (.seq
 (.ops [6] [
 ox 6 .mv [.c (.int .i64 0)]])
 .ret)))
def r38 : List ARes := [.tmp 6]
theorem ok38 : FnOk Try.prog 38 c38 r38 :=
  ⟨Try.f38, _, Try.func38, by kernel_rfl, rfl, by kernel_rfl, by kernel_rfl⟩
/-- rill/geo.may -/
def c39 : ACode :=
 (.seq
 (.ops [1] [
 ox 1 .box [.t 0],
 ox 2 .mv [.c (.bool false)]])
 (.seq
 (.drawn [2] [
 ox 3 (.fieldAddr 0) [.t 1],
 ox 4 (.load false 1) [.t 3],
 ox 5 (.build [.int .i64 0, .int .i64 0, .int .i64 0] [(0, 1), (1, 1), (2, 1)]) [.t 4, .c (.int .i64 16), .c (.int .i64 32)],
 ox 6 (.fieldAddr 1) [.t 1],
 ox 7 (.load false 1) [.t 6],
 ox 8 (.build [.int .i64 0, .int .i64 0, .int .i64 0] [(0, 1), (1, 1), (2, 1)]) [.t 7, .c (.int .i64 32), .c (.int .i64 64)],
 ox 9 (.fieldAddr 2) [.t 1],
 ox 10 (.load false 1) [.t 9],
 ox 11 (.build [.int .i64 0, .int .i64 0, .int .i64 0] [(0, 1), (1, 1), (2, 1)]) [.t 10, .c (.int .i64 1), .c (.int .i64 64)],
 ox 12 (.mkSl 3 (List.replicate 9 (.int .i64 0)) [(0, 3), (3, 3), (6, 3)]) [.t 5, .t 8, .t 11],
 od 13 (.call 51) [.t 12] 0 1,
 od 14 .mv [.t 13] 1 1,
 oh 15 (.fieldAddr 2) [.t 1] 14 true 1 3,
 oh 16 (.load false 1) [.t 15] 14 true 1 3,
 oh 17 (.arith .add) [.t 16, .c (.int .i64 9)] 14 true 1 3,
 oh 18 (.fieldAddr 0) [.t 1] 14 true 1 3,
 oh 19 (.load false 1) [.t 18] 14 true 1 3,
 oh 20 (.load true 3) [.t 1] 14 true 1 1,
 oh 21 (.fieldAddr 2) [.t 1] 14 true 1 1,
 oh 22 (.load false 1) [.t 21] 14 true 1 1,
 oh 23 (.call 52) [.t 20, .t 22] 14 true 1 2,
 oh 24 (.arith .sub) [.t 19, .t 23] 14 true 2 3,
 oh 25 (.arith .sub) [.t 24, .c (.int .i64 14)] 14 true 2 3,
 oh 26 (.load true 3) [.t 1] 14 true 1 2,
 oh 27 (.call 53) [.t 26] 14 true 2 3,
 oh 28 (.arith .add) [.t 27, .c (.int .i64 1)] 14 true 3 3,
 oh 29 (.arith .mul) [.t 25, .t 28] 14 true 3 3,
 oh 30 (.cmp .lss) [.t 17, .t 29] 14 true 3 3,
 od 31 .pick [.t 14, .t 30, .c (.bool false)] 3 3,
 od 2 .mv [.t 31] 3 3])
 .ret))
def r39 : List ARes := [.tmp 2]
theorem ok39 : FnOk Try.prog 39 c39 r39 :=
  ⟨Try.f39, _, Try.func39, by kernel_rfl, rfl, by kernel_rfl, by kernel_rfl⟩
/-- rill/pack.behind -/
def c40 : ACode :=
 (.seq
 (.ops [0, 1] [
 ox 4 .mv [.c .nils]])
 (.seq
 (.ops [4] [
 ox 5 .mv [.t 0],
 ox 6 .len [.t 5],
 ox 7 .mv [.t 1],
 ox 8 .len [.t 7],
 ox 9 (.arith .add) [.t 6, .t 8],
 ox 10 (.mkSlice [.int .u8 0] 1) [.c (.int .i64 0), .t 9],
 ox 11 .mv [.t 0],
 ox 12 (.append 1 1) [.t 10, .t 11],
 ox 13 .mv [.t 1],
 ox 14 (.append 1 1) [.t 12, .t 13],
 ox 4 .mv [.t 14]])
 .ret))
def r40 : List ARes := [.tmp 4]
theorem ok40 : FnOk Try.prog 40 c40 r40 :=
  ⟨Try.f40, _, Try.func40, by kernel_rfl, rfl, by kernel_rfl, by kernel_rfl⟩
/-- rill/pack.eight -/
def c41 : ACode :=
 (.seq
 (.ops [0] [
 ox 2 .mv [.c .nils]])
 (.seq
 (.ops [3] [
 ox 4 .mv [.t 0],
 ox 5 (.conv .u64) [.t 4],
 ox 3 .mv [.t 5]])
 (.seq
 (.ops [2] [
 ox 6 .mv [.t 3],
 ox 7 (.shift .shr) [.t 6, .c (.int .u64 56)],
 ox 8 (.conv .u8) [.t 7],
 ox 9 .mv [.t 3],
 ox 10 (.shift .shr) [.t 9, .c (.int .u64 48)],
 ox 11 (.conv .u8) [.t 10],
 ox 12 .mv [.t 3],
 ox 13 (.shift .shr) [.t 12, .c (.int .u64 40)],
 ox 14 (.conv .u8) [.t 13],
 ox 15 .mv [.t 3],
 ox 16 (.shift .shr) [.t 15, .c (.int .u64 32)],
 ox 17 (.conv .u8) [.t 16],
 ox 18 .mv [.t 3],
 ox 19 (.shift .shr) [.t 18, .c (.int .u64 24)],
 ox 20 (.conv .u8) [.t 19],
 ox 21 .mv [.t 3],
 ox 22 (.shift .shr) [.t 21, .c (.int .u64 16)],
 ox 23 (.conv .u8) [.t 22],
 ox 24 .mv [.t 3],
 ox 25 (.shift .shr) [.t 24, .c (.int .u64 8)],
 ox 26 (.conv .u8) [.t 25],
 ox 27 .mv [.t 3],
 ox 28 (.conv .u8) [.t 27],
 ox 29 (.mkSl 8 [.int .u8 0, .int .u8 0, .int .u8 0, .int .u8 0, .int .u8 0, .int .u8 0, .int .u8 0, .int .u8 0] [(0, 1), (1, 1), (2, 1), (3, 1), (4, 1), (5, 1), (6, 1), (7, 1)]) [.t 8, .t 11, .t 14, .t 17, .t 20, .t 23, .t 26, .t 28],
 ox 2 .mv [.t 29]])
 .ret)))
def r41 : List ARes := [.tmp 2]
theorem ok41 : FnOk Try.prog 41 c41 r41 :=
  ⟨Try.f41, _, Try.func41, by kernel_rfl, rfl, by kernel_rfl, by kernel_rfl⟩
/-- rill/pack.take[int] -/
def c43 : ACode :=
 (.seq
 (.ops [0, 1, 2] [
 ox 6 .mv [.c (.int .i64 0)]])
 (.seq
 (.seq
 (.ops [0, 1, 2, 21] [
 ox 9 .mv [.t 0],
 ox 10 .nilCheck [.t 9],
 ox 11 (.fieldAddr 1) [.t 10],
 ox 12 (.load false 1) [.t 11],
 ox 13 .mv [.t 12],
 og 14 .mv [.t 0] 13 false,
 og 15 .nilCheck [.t 14] 13 false,
 og 16 (.fieldAddr 0) [.t 15] 13 false,
 og 17 (.load false 1) [.t 16] 13 false,
 og 18 .len [.t 17] 13 false,
 og 19 .mv [.t 1] 13 false,
 og 20 (.cmp .lss) [.t 18, .t 19] 13 false,
 ox 21 .pick [.t 13, .c (.bool true), .t 20]])
 (.cond (.t 21)
 (.seq
 (.ops [] [
 ox 22 .mv [.t 0],
 ox 23 .nilCheck [.t 22],
 ox 24 (.fieldAddr 1) [.t 23],
 oy (.store 1) [.t 24, .c (.bool true)]])
 (.seq
 (.ops [7] [
 ox 7 .mv [.c (.int .i64 0)]])
 (.seq
 (.ops [6] [
 ox 25 .mv [.t 7],
 ox 6 .mv [.t 25]])
 .ret)))
 .skip))
 (.seq
 (.ops [0, 1, 2, 8] [
 ox 26 .mv [.t 0],
 ox 27 .nilCheck [.t 26],
 ox 28 (.fieldAddr 0) [.t 27],
 ox 29 (.load false 1) [.t 28],
 ox 30 .mv [.t 1],
 ox 31 (.slice 1 false true false) [.t 29, .t 30],
 ox 8 .mv [.t 31]])
 (.seq
 (.ops [2, 8] [
 ox 32 .mv [.t 0],
 ox 33 .mv [.t 0],
 ox 34 .nilCheck [.t 33],
 ox 35 (.fieldAddr 0) [.t 34],
 ox 36 (.load false 1) [.t 35],
 ox 37 .mv [.t 1],
 ox 38 (.slice 1 true false false) [.t 36, .t 37],
 ox 39 .nilCheck [.t 32],
 ox 40 (.fieldAddr 0) [.t 39],
 oy (.store 1) [.t 40, .t 38]])
 (.seq
 (.ops [6] [
 ox 41 .mv [.t 2],
 ox 42 .mv [.t 8],
 ox 43 .callv [.t 41, .t 42],
 ox 6 .mv [.t 43]])
 .ret)))))
def r43 : List ARes := [.tmp 6]
theorem ok43 : FnOk Try.prog 43 c43 r43 :=
  ⟨Try.f43, _, Try.func43, by kernel_rfl, rfl, by kernel_rfl, by kernel_rfl⟩
/-- rill/pack.number -/
def c44 : ACode :=
 (.seq
 (.ops [0] [
 ox 2 .mv [.c (.int .i64 0)]])
 (.seq
 (.ops [0, 3] [
 ox 3 .mv [.c (.int .u64 0)]])
 (.seq
 (.seq
 (.ops [3, 6, 7, 8] [
 ox 6 .mv [.t 0],
 ox 7 .len [.t 6],
 ox 8 .mv [.c (.int .i64 0)]])
 (.block 0
 (.loop [3, 6, 7, 8]
 (.seq
 (.ops [3, 6, 7, 8, 9] [
 ox 9 (.cmp .lss) [.t 8, .t 7]])
 (.seq
 (.cond (.t 9)
 .skip
 (.exit 0))
 (.seq
 (.block 1
 (.seq
 (.ops [3, 5, 6, 7, 8] [
 ox 10 (.idxAddr 1) [.t 6, .t 8],
 ox 11 (.load false 1) [.t 10],
 ox 5 .mv [.t 11]])
 (.ops [3, 6, 7, 8] [
 ox 12 .mv [.t 3],
 ox 13 (.shift .shl) [.t 12, .c (.int .u64 8)],
 ox 14 .mv [.t 5],
 ox 15 (.conv .u64) [.t 14],
 ox 16 (.arith .or) [.t 13, .t 15],
 ox 3 .mv [.t 16]])))
 (.ops [3, 6, 7, 8] [
 ox 17 (.arith .add) [.t 8, .c (.int .i64 1)],
 ox 8 .mv [.t 17]])))))))
 (.seq
 (.ops [2] [
 ox 18 .mv [.t 3],
 ox 19 (.conv .i64) [.t 18],
 ox 2 .mv [.t 19]])
 .ret))))
def r44 : List ARes := [.tmp 2]
theorem ok44 : FnOk Try.prog 44 c44 r44 :=
  ⟨Try.f44, _, Try.func44, by kernel_rfl, rfl, by kernel_rfl, by kernel_rfl⟩
/-- rill/sector.right -/
def c47 : ACode :=
 (.seq
 (.ops [0, 1, 2] [
 ox 6 .mv [.c (.bool false)]])
 (.seq
 (.ops [6] [
 ox 7 .mv [.t 0],
 ox 8 .mv [.t 1],
 ox 9 .mv [.t 2],
 ox 10 .min [.t 7, .t 8, .t 9],
 ox 11 (.cmp .geq) [.t 10, .c (.int .i64 0)],
 ox 12 .mv [.t 11],
 og 13 .mv [.t 0] 12 true,
 og 14 .mv [.t 1] 12 true,
 og 15 .max [.t 13, .t 14] 12 true,
 og 16 (.cmp .leq) [.t 15, .c (.int .i64 1099511627776)] 12 true,
 ox 17 .pick [.t 12, .t 16, .c (.bool false)],
 ox 18 .mv [.t 17],
 og 19 .mv [.t 2] 18 true,
 og 20 (.cmp .lss) [.t 19, .c (.int .i64 4096)] 18 true,
 ox 21 .pick [.t 18, .t 20, .c (.bool false)],
 ox 6 .mv [.t 21]])
 .ret))
def r47 : List ARes := [.tmp 6]
theorem ok47 : FnOk Try.prog 47 c47 r47 :=
  ⟨Try.f47, _, Try.func47, by kernel_rfl, rfl, by kernel_rfl, by kernel_rfl⟩
/-- rill/sector.head -/
def c48 : ACode :=
 (.seq
 (.ops [0, 1] [
 ox 4 .mv [.c .nils]])
 (.seq
 (.ops [4] [
 ox 5 .mv [.t 0],
 ox 6 (.conv .u8) [.t 5],
 ox 7 (.mkSl 1 [.int .u8 0] [(0, 1)]) [.t 6],
 ox 8 .mv [.t 1],
 ox 9 (.call 24) [.t 7, .t 8],
 ox 4 .mv [.t 9]])
 .ret))
def r48 : List ARes := [.tmp 4]
theorem ok48 : FnOk Try.prog 48 c48 r48 :=
  ⟨Try.f48, _, Try.func48, by kernel_rfl, rfl, by kernel_rfl, by kernel_rfl⟩
/-- (*rill/disk.Disk).Spend -/
def c49 : ACode :=
 (.seq
 (.ops [0] [
 ox 2 .mv [.c (.int .i64 0)]])
 (.seq
 (.block 0
 (.seq
 (.ops [0, 3] [
 ox 4 .mv [.t 0],
 ox 5 .nilCheck [.t 4],
 ox 6 (.fieldAddr 4) [.t 5],
 ox 7 (.load false 1) [.t 6],
 ox 3 .mv [.t 7]])
 (.cond (.t 3)
 (.seq
 (.ops [2] [
 ox 2 .mv [.c (.int .i64 12)]])
 .ret)
 (.seq
 (.ops [0, 8] [
 ox 9 .mv [.t 0],
 ox 10 .nilCheck [.t 9],
 ox 11 (.fieldAddr 2) [.t 10],
 ox 12 (.load false 1) [.t 11],
 ox 13 .mv [.t 12],
 og 14 .mv [.t 0] 13 true,
 og 15 .nilCheck [.t 14] 13 true,
 og 16 (.fieldAddr 3) [.t 15] 13 true,
 og 17 (.load false 1) [.t 16] 13 true,
 og 18 (.eq false .int) [.t 17, .c (.int .i64 0)] 13 true,
 ox 19 .pick [.t 13, .t 18, .c (.bool false)],
 ox 8 .mv [.t 19]])
 (.cond (.t 8)
 (.seq
 (.ops [] [
 ox 20 .mv [.t 0],
 ox 21 .nilCheck [.t 20],
 ox 22 (.fieldAddr 4) [.t 21],
 oy (.store 1) [.t 22, .c (.bool true)]])
 (.seq
 (.ops [2] [
 ox 2 .mv [.c (.int .i64 12)]])
 .ret))
 .skip)))))
 (.seq
 (.ops [] [
 ox 23 .mv [.t 0],
 ox 24 .nilCheck [.t 23],
 ox 25 (.fieldAddr 3) [.t 24],
 ox 26 (.load false 1) [.t 25],
 ox 27 (.arith .sub) [.t 26, .c (.int .i64 1)],
 ox 28 .nilCheck [.t 23],
 ox 29 (.fieldAddr 3) [.t 28],
 oy (.store 1) [.t 29, .t 27]])
 (.seq
 (.ops [2] [
 ox 2 .mv [.c (.int .i64 0)]])
 .ret))))
def r49 : List ARes := [.tmp 2]
theorem ok49 : FnOk Try.prog 49 c49 r49 :=
  ⟨Try.f49, _, Try.func49, by kernel_rfl, rfl, by kernel_rfl, by kernel_rfl⟩
/-- rill/sector.Kind -/
def c50 : ACode :=
 (.seq
 (.ops [0] [
 ox 2 .mv [.c (.int .i64 0)]])
 (.seq
 (.seq
 (.ops [0, 17] [
 ox 3 .mv [.t 0],
 ox 4 .len [.t 3],
 ox 5 (.cmp .lss) [.t 4, .c (.int .i64 17)],
 ox 6 .mv [.t 5],
 og 7 .mv [.t 0] 6 false,
 og 8 (.idxAddr 1) [.t 7, .c (.int .i64 0)] 6 false,
 og 9 (.load false 1) [.t 8] 6 false,
 og 10 (.cmp .lss) [.t 9, .c (.int .u8 1)] 6 false,
 ox 11 .pick [.t 6, .c (.bool true), .t 10],
 ox 12 .mv [.t 11],
 og 13 .mv [.t 0] 12 false,
 og 14 (.idxAddr 1) [.t 13, .c (.int .i64 0)] 12 false,
 og 15 (.load false 1) [.t 14] 12 false,
 og 16 (.cmp .gtr) [.t 15, .c (.int .u8 5)] 12 false,
 ox 17 .pick [.t 12, .c (.bool true), .t 16]])
 (.cond (.t 17)
 (.seq
 (.ops [2] [
 ox 2 .mv [.c (.int .i64 0)]])
 .ret)
 .skip))
 (.seq
 (.ops [2] [
 ox 18 .mv [.t 0],
 ox 19 (.idxAddr 1) [.t 18, .c (.int .i64 0)],
 ox 20 (.load false 1) [.t 19],
 ox 21 (.conv .i64) [.t 20],
 ox 2 .mv [.t 21]])
 .ret)))
def r50 : List ARes := [.tmp 2]
theorem ok50 : FnOk Try.prog 50 c50 r50 :=
  ⟨Try.f50, _, Try.func50, by kernel_rfl, rfl, by kernel_rfl, by kernel_rfl⟩
/-- rill/geo.within -/
def c51 : ACode :=
 (.seq
 (.ops [0] [
 ox 2 .mv [.c (.bool false)]])
 (.seq
 (.seq
 (.ops [5, 6, 7] [
 ox 5 .mv [.t 0],
 ox 6 .len [.t 5],
 ox 7 .mv [.c (.int .i64 0)]])
 (.block 0
 (.loop [5, 6, 7]
 (.seq
 (.ops [5, 6, 7, 8] [
 ox 8 (.cmp .lss) [.t 7, .t 6]])
 (.seq
 (.cond (.t 8)
 .skip
 (.exit 0))
 (.seq
 (.block 1
 (.seq
 (.ops [4, 5, 6, 7] [
 ox 9 (.idxAddr 3) [.t 5, .t 7],
 ox 10 (.load true 3) [.t 9],
 ox 4 (.alloc [.int .i64 0, .int .i64 0, .int .i64 0]) [],
 oy (.store 3) [.t 4, .t 10]])
 (.seq
 (.ops [5, 6, 7, 22] [
 ox 11 (.fieldAddr 0) [.t 4],
 ox 12 (.load false 1) [.t 11],
 ox 13 (.fieldAddr 1) [.t 4],
 ox 14 (.load false 1) [.t 13],
 ox 15 (.cmp .lss) [.t 12, .t 14],
 ox 16 .mv [.t 15],
 og 17 (.fieldAddr 0) [.t 4] 16 false,
 og 18 (.load false 1) [.t 17] 16 false,
 og 19 (.fieldAddr 2) [.t 4] 16 false,
 og 20 (.load false 1) [.t 19] 16 false,
 og 21 (.cmp .gtr) [.t 18, .t 20] 16 false,
 ox 22 .pick [.t 16, .c (.bool true), .t 21]])
 (.cond (.t 22)
 (.seq
 (.ops [2] [
 ox 2 .mv [.c (.bool false)]])
 .ret)
 .skip))))
 (.ops [5, 6, 7] [
 ox 23 (.arith .add) [.t 7, .c (.int .i64 1)],
 ox 7 .mv [.t 23]])))))))
 (.seq
 (.ops [2] [
 ox 2 .mv [.c (.bool true)]])
 .ret)))
def r51 : List ARes := [.tmp 2]
theorem ok51 : FnOk Try.prog 51 c51 r51 :=
  ⟨Try.f51, _, Try.func51, by kernel_rfl, rfl, by kernel_rfl, by kernel_rfl⟩
/-- rill/geo.need -/
def c52 : ACode :=
 (.seq
 (.ops [1, 2] [
 ox 2 .box [.t 0],
 ox 4 .mv [.c (.int .i64 0)]])
 (.seq
 (.ops [4] [
 ox 5 .mv [.t 1],
 ox 6 (.arith .mul) [.t 5, .c (.int .i64 4)],
 ox 7 (.fieldAddr 1) [.t 2],
 ox 8 (.load false 1) [.t 7],
 ox 9 (.arith .add) [.t 6, .t 8],
 ox 10 (.arith .sub) [.t 9, .c (.int .i64 2)],
 ox 11 (.fieldAddr 1) [.t 2],
 ox 12 (.load false 1) [.t 11],
 ox 13 (.arith .sub) [.t 12, .c (.int .i64 1)],
 ox 14 (.arith .quo) [.t 10, .t 13],
 ox 4 .mv [.t 14]])
 .ret))
def r52 : List ARes := [.tmp 4]
theorem ok52 : FnOk Try.prog 52 c52 r52 :=
  ⟨Try.f52, _, Try.func52, by kernel_rfl, rfl, by kernel_rfl, by kernel_rfl⟩
/-- rill/geo.lean -/
def c53 : ACode :=
 (.seq
 (.ops [1] [
 ox 1 .box [.t 0],
 ox 2 .mv [.c (.int .i64 0)]])
 (.seq
 (.ops [2] [
 ox 3 (.fieldAddr 1) [.t 1],
 ox 4 (.load false 1) [.t 3],
 ox 5 (.arith .sub) [.t 4, .c (.int .i64 1)],
 ox 6 (.arith .quo) [.t 5, .c (.int .i64 5)],
 ox 2 .mv [.t 6]])
 .ret))
def r53 : List ARes := [.tmp 2]
theorem ok53 : FnOk Try.prog 53 c53 r53 :=
  ⟨Try.f53, _, Try.func53, by kernel_rfl, rfl, by kernel_rfl, by kernel_rfl⟩
/-- (*rill/names.Names).Open -/
def c71 : ACode :=
 (.seq
 (.ops [0, 1, 2, 3, 4] [
 ox 10 .mv [.c .nils],
 ox 11 .mv [.c (.bool false)]])
 (.seq
 (.seq
 (.ops [0, 1, 2, 3, 4, 18] [
 ox 16 .mv [.t 4],
 ox 17 .len [.t 16],
 ox 18 (.cmp .lss) [.t 17, .c (.int .i64 32)]])
 (.cond (.t 18)
 (.seq
 (.ops [10, 11] [
 ox 10 .mv [.c .nils],
 ox 11 .mv [.c (.bool false)]])
 .ret)
 .skip))
 (.seq
 (.drawn [0, 1, 2, 3, 12, 13] [
 ox 19 .mv [.t 4],
 ox 20 .mv [.t 4],
 ox 21 .len [.t 20],
 ox 22 (.arith .sub) [.t 21, .c (.int .i64 32)],
 ox 23 (.slice 1 false true false) [.t 19, .t 22],
 ox 24 .mv [.t 4],
 ox 25 .mv [.t 4],
 ox 26 .len [.t 25],
 ox 27 (.arith .sub) [.t 26, .c (.int .i64 32)],
 ox 28 (.slice 1 true false false) [.t 24, .t 27],
 ox 12 .mv [.t 23],
 ox 13 .mv [.t 28]])
 (.seq
 (.drawn [12, 13, 14, 15] [
 ox 30 .mv [.t 0],
 ox 31 .nilCheck [.t 30],
 ox 32 (.fieldAddr 0) [.t 31],
 ox 33 (.load false 1) [.t 32],
 ox 34 .mv [.t 1],
 ox 35 .mv [.t 2],
 ox 36 .mv [.t 3],
 ox 37 .b2s [.t 36],
 ox 38 .mv [.t 12],
 ox 39 .b2s [.t 38],
 ox 40 (.build [.int .i64 0, .int .i64 0, .str ⟨#[]⟩, .str ⟨#[]⟩] [(0, 1), (1, 1), (2, 1), (3, 1)]) [.t 34, .t 35, .t 37, .t 39],
 ox 41 (.lookup (.agg [.i, .i, .s, .s]) (.int .i64 0) true) [.t 33, .t 40],
 ox 29 .mv [.t 41],
 ox 42 (.extract 0) [.t 29],
 ox 43 (.extract 1) [.t 29],
 ox 14 .mv [.t 42],
 ox 15 .mv [.t 43]])
 (.seq
 (.seq
 (.drawn [12, 55] [
 ox 44 .mv [.t 15],
 ox 45 .not [.t 44],
 ox 46 .mv [.t 45],
 oh 47 .mv [.t 13] 46 false 0 2,
 oh 48 (.mkSlice [.int .u8 0] 1) [.c (.int .i64 24), .c (.int .i64 24)] 46 false 0 1,
 og 49 .mv [.t 14] 46 false,
 oh 50 (.call 76) [.t 49] 46 false 0 1,
 oh 51 (.mkSl 2 [.nils, .nils] [(0, 1), (1, 1)]) [.t 48, .t 50] 46 false 1 1,
 oh 52 (.call 75) [.t 51] 46 false 1 2,
 oh 53 (.call 74) [.t 47, .t 52] 46 false 2 3,
 oh 54 .not [.t 53] 46 false 3 3,
 od 55 .pick [.t 46, .c (.bool true), .t 54] 3 3])
 (.cond (.t 55)
 (.seq
 (.ops [10, 11] [
 ox 10 .mv [.c .nils],
 ox 11 .mv [.c (.bool false)]])
 .ret)
 .skip))
 (.seq
 (.ops [10, 11] [
 ox 56 .mv [.t 12],
 ox 57 (.call 36) [.t 56],
 ox 10 .mv [.t 57],
 ox 11 .mv [.c (.bool true)]])
 .ret))))))
def r71 : List ARes := [.tmp 10, .tmp 11]
theorem ok71 : FnOk Try.prog 71 c71 r71 :=
  ⟨Try.f71, _, Try.func71, by kernel_rfl, rfl, by kernel_rfl, by kernel_rfl⟩
/-- (*rill/names.Names).Seal -/
def c72 : ACode :=
 (.seq
 (.ops [0, 1, 2, 3, 4] [
 ox 10 .mv [.c .nils]])
 (.seq
 (.seq
 (.ops [0, 1, 2, 3, 4, 21] [
 ox 14 .mv [.t 1],
 ox 15 (.call 77) [.t 14],
 ox 16 .not [.t 15],
 ox 17 .mv [.t 16],
 og 18 .mv [.t 2] 17 false,
 og 19 (.call 77) [.t 18] 17 false,
 og 20 .not [.t 19] 17 false,
 ox 21 .pick [.t 17, .c (.bool true), .t 20]])
 (.cond (.t 21)
 (.seq
 (.ops [10] [
 ox 10 .mv [.c .nils]])
 .ret)
 .skip))
 (.seq
 (.ops [0, 4, 11] [
 ox 22 .mv [.t 1],
 ox 23 .mv [.t 2],
 ox 24 .mv [.t 3],
 ox 25 .b2s [.t 24],
 ox 26 .mv [.t 4],
 ox 27 .b2s [.t 26],
 ox 28 (.build [.int .i64 0, .int .i64 0, .str ⟨#[]⟩, .str ⟨#[]⟩] [(0, 1), (1, 1), (2, 1), (3, 1)]) [.t 22, .t 23, .t 25, .t 27],
 ox 11 (.alloc [.int .i64 0, .int .i64 0, .str ⟨#[]⟩, .str ⟨#[]⟩]) [],
 oy (.store 4) [.t 11, .t 28]])
 (.seq
 (.drawn [0, 4, 11, 12, 13] [
 ox 30 .mv [.t 0],
 ox 31 .nilCheck [.t 30],
 ox 32 (.fieldAddr 0) [.t 31],
 ox 33 (.load false 1) [.t 32],
 ox 34 (.load true 4) [.t 11],
 ox 35 (.lookup (.agg [.i, .i, .s, .s]) (.int .i64 0) true) [.t 33, .t 34],
 ox 29 .mv [.t 35],
 ox 36 (.extract 0) [.t 29],
 ox 37 (.extract 1) [.t 29],
 ox 12 .mv [.t 36],
 ox 13 .mv [.t 37]])
 (.seq
 (.seq
 (.ops [0, 4, 11, 12, 39] [
 ox 38 .mv [.t 13],
 ox 39 .not [.t 38]])
 (.cond (.t 39)
 (.seq
 (.drawn [0, 4, 11] [
 od 40 .mv [.t 0] 0 1,
 ox 41 .mv [.t 0],
 ox 42 .nilCheck [.t 41],
 ox 43 (.fieldAddr 1) [.t 42],
 ox 44 (.load false 1) [.t 43],
 ox 45 (.load true 4) [.t 11],
 ox 46 (.mkSl 1 [.int .i64 0, .int .i64 0, .str ⟨#[]⟩, .str ⟨#[]⟩] [(0, 4)]) [.t 45],
 od 47 (.append 4 48) [.t 44, .t 46] 0 1,
 od 48 .nilCheck [.t 40] 1 1,
 od 49 (.fieldAddr 1) [.t 48] 1 1,
 oe (.store 1) [.t 49, .t 47] 1 2])
 (.seq
 (.ops [0, 4, 11, 12] [
 ox 50 .mv [.t 0],
 ox 51 .nilCheck [.t 50],
 ox 52 (.fieldAddr 1) [.t 51],
 ox 53 (.load false 1) [.t 52],
 ox 54 .len [.t 53],
 ox 12 .mv [.t 54]])
 (.drawn [4, 12] [
 ox 55 .mv [.t 0],
 ox 56 .nilCheck [.t 55],
 ox 57 (.fieldAddr 0) [.t 56],
 ox 58 (.load false 1) [.t 57],
 ox 59 (.load true 4) [.t 11],
 ox 60 .mv [.t 12],
 oe (.mapSet (.agg [.i, .i, .s, .s])) [.t 58, .t 59, .t 60] 0 1])))
 .skip))
 (.seq
 (.drawn [10] [
 od 61 .mv [.t 4] 0 1,
 od 62 (.mkSlice [.int .u8 0] 1) [.c (.int .i64 24), .c (.int .i64 24)] 0 1,
 ox 63 .mv [.t 12],
 od 64 (.call 76) [.t 63] 0 1,
 od 65 (.mkSl 3 [.nils, .nils, .nils] [(0, 1), (1, 1), (2, 1)]) [.t 61, .t 62, .t 64] 1 1,
 od 66 (.call 75) [.t 65] 1 2,
 od 10 .mv [.t 66] 2 2])
 .ret))))))
def r72 : List ARes := [.tmp 10]
theorem ok72 : FnOk Try.prog 72 c72 r72 :=
  ⟨Try.f72, _, Try.func72, by kernel_rfl, rfl, by kernel_rfl, by kernel_rfl⟩
/-- (*rill/names.Names).Sum -/
def c73 : ACode :=
 (.seq
 (.ops [0, 1, 4] [
 ox 4 (.alloc (List.replicate 32 (.int .u8 0))) []])
 (.seq
 (.drawn [0, 1, 4, 5, 6] [
 ox 10 .mv [.t 0],
 ox 11 .nilCheck [.t 10],
 ox 12 (.fieldAddr 2) [.t 11],
 ox 13 (.load false 1) [.t 12],
 ox 14 .mv [.t 1],
 ox 15 .b2s [.t 14],
 ox 16 (.lookup (.one .s) (.int .i64 0) true) [.t 13, .t 15],
 ox 9 .mv [.t 16],
 ox 17 (.extract 0) [.t 9],
 ox 18 (.extract 1) [.t 9],
 ox 5 .mv [.t 17],
 ox 6 .mv [.t 18]])
 (.seq
 (.seq
 (.ops [0, 1, 4, 5, 20] [
 ox 19 .mv [.t 6],
 ox 20 .not [.t 19]])
 (.cond (.t 20)
 (.seq
 (.ops [0, 1, 4, 5] [
 ox 21 .mv [.t 0],
 ox 22 .nilCheck [.t 21],
 ox 23 (.fieldAddr 2) [.t 22],
 ox 24 (.load false 1) [.t 23],
 ox 25 .lenMap [.t 24],
 ox 26 (.arith .add) [.t 25, .c (.int .i64 1)],
 ox 5 .mv [.t 26]])
 (.drawn [4, 5] [
 ox 27 .mv [.t 0],
 ox 28 .nilCheck [.t 27],
 ox 29 (.fieldAddr 2) [.t 28],
 ox 30 (.load false 1) [.t 29],
 ox 31 .mv [.t 1],
 ox 32 .b2s [.t 31],
 ox 33 .mv [.t 5],
 oe (.mapSet (.one .s)) [.t 30, .t 32, .t 33] 0 1]))
 .skip))
 (.seq
 (.ops [4, 5, 7] [
 ox 7 (.alloc (List.replicate 32 (.int .u8 0))) []])
 (.seq
 (.seq
 (.ops [4, 5, 7, 34] [
 ox 34 .mv [.c (.int .i64 0)]])
 (.block 0
 (.loop [4, 5, 7, 34]
 (.seq
 (.ops [4, 5, 7, 34, 35] [
 ox 35 (.cmp .lss) [.t 34, .c (.int .i64 32)]])
 (.seq
 (.cond (.t 35)
 .skip
 (.exit 0))
 (.seq
 (.block 1
 (.seq
 (.ops [4, 5, 7, 8, 34] [
 ox 36 .mv [.t 34],
 ox 8 .mv [.t 36]])
 (.ops [4, 5, 7, 34] [
 ox 37 .mv [.t 8],
 ox 38 (.idxAddrArr 32 1) [.t 7, .t 37],
 oy (.store 1) [.t 38, .c (.int .u8 1)]])))
 (.ops [4, 5, 7, 34] [
 ox 39 (.arith .add) [.t 34, .c (.int .i64 1)],
 ox 34 .mv [.t 39]])))))))
 (.seq
 (.drawn [4, 7] [
 od 40 (.sliceArr 32 1 true false false) [.t 7, .c (.int .i64 24)] 0 1,
 ox 41 .mv [.t 5],
 od 42 (.call 76) [.t 41] 0 1,
 od 43 (.copy 1) [.t 40, .t 42] 1 2])
 (.seq
 (.ops [4] [
 ox 44 (.load true 32) [.t 7],
 oy (.store 32) [.t 4, .t 44]])
 .ret)))))))
def r73 : List ARes := [.cell 4 true 32]
theorem ok73 : FnOk Try.prog 73 c73 r73 :=
  ⟨Try.f73, _, Try.func73, by kernel_rfl, rfl, by kernel_rfl, by kernel_rfl⟩
/-- slices.Equal[[]byte,byte] -/
def c74 : ACode :=
 (.seq
 (.ops [0, 1] [
 ox 4 .mv [.c (.bool false)]])
 (.seq
 (.seq
 (.ops [0, 1, 10] [
 ox 6 .mv [.t 0],
 ox 7 .len [.t 6],
 ox 8 .mv [.t 1],
 ox 9 .len [.t 8],
 ox 10 (.eq true .int) [.t 7, .t 9]])
 (.cond (.t 10)
 (.seq
 (.ops [4] [
 ox 4 .mv [.c (.bool false)]])
 .ret)
 .skip))
 (.seq
 (.seq
 (.ops [0, 1, 12, 13] [
 ox 11 .mv [.t 0],
 ox 12 .len [.t 11],
 ox 13 .mv [.c (.int .i64 0)]])
 (.block 0
 (.loop [0, 1, 12, 13]
 (.seq
 (.ops [0, 1, 12, 13, 14] [
 ox 14 (.cmp .lss) [.t 13, .t 12]])
 (.seq
 (.cond (.t 14)
 .skip
 (.exit 0))
 (.seq
 (.block 1
 (.seq
 (.ops [0, 1, 5, 12, 13] [
 ox 15 .mv [.t 13],
 ox 5 .mv [.t 15]])
 (.seq
 (.drawn [0, 1, 12, 13, 24] [
 ox 16 .mv [.t 0],
 ox 17 .mv [.t 5],
 ox 18 (.idxAddr 1) [.t 16, .t 17],
 ox 19 (.load false 1) [.t 18],
 ox 20 .mv [.t 1],
 ox 21 .mv [.t 5],
 ox 22 (.idxAddr 1) [.t 20, .t 21],
 ox 23 (.load false 1) [.t 22],
 ox 24 (.eq true .int) [.t 19, .t 23]])
 (.cond (.t 24)
 (.seq
 (.ops [4] [
 ox 4 .mv [.c (.bool false)]])
 .ret)
 .skip))))
 (.ops [0, 1, 12, 13] [
 ox 25 (.arith .add) [.t 13, .c (.int .i64 1)],
 ox 13 .mv [.t 25]])))))))
 (.seq
 (.ops [4] [
 ox 4 .mv [.c (.bool true)]])
 .ret))))
def r74 : List ARes := [.tmp 4]
theorem ok74 : FnOk Try.prog 74 c74 r74 :=
  ⟨Try.f74, _, Try.func74, by kernel_rfl, rfl, by kernel_rfl, by kernel_rfl⟩
/-- slices.Concat[[]byte,byte] -/
def c75 : ACode :=
 (.seq
 (.ops [0] [
 ox 2 .mv [.c .nils]])
 (.seq
 (.ops [0, 3] [
 ox 3 .mv [.c (.int .i64 0)]])
 (.seq
 (.seq
 (.ops [0, 3, 9, 10, 11] [
 ox 9 .mv [.t 0],
 ox 10 .len [.t 9],
 ox 11 .mv [.c (.int .i64 0)]])
 (.block 0
 (.loop [0, 3, 9, 10, 11]
 (.seq
 (.ops [0, 3, 9, 10, 11, 12] [
 ox 12 (.cmp .lss) [.t 11, .t 10]])
 (.seq
 (.cond (.t 12)
 .skip
 (.exit 0))
 (.seq
 (.block 1
 (.seq
 (.ops [0, 3, 5, 9, 10, 11] [
 ox 13 (.idxAddr 1) [.t 9, .t 11],
 ox 14 (.load false 1) [.t 13],
 ox 5 .mv [.t 14]])
 (.seq
 (.ops [0, 3, 9, 10, 11] [
 ox 15 .mv [.t 3],
 ox 16 .mv [.t 5],
 ox 17 .len [.t 16],
 ox 18 (.arith .add) [.t 15, .t 17],
 ox 3 .mv [.t 18]])
 (.seq
 (.ops [0, 3, 9, 10, 11, 20] [
 ox 19 .mv [.t 3],
 ox 20 (.cmp .lss) [.t 19, .c (.int .i64 0)]])
 (.cond (.t 20)
 (.ops [0, 3, 9, 10, 11] [
 ox 21 (.iface 9) [.c (.str ⟨#[108, 101, 110, 32, 111, 117, 116, 32, 111, 102, 32, 114, 97, 110, 103, 101]⟩)],
 oy .no [.t 21]])
 .skip)))))
 (.ops [0, 3, 9, 10, 11] [
 ox 22 (.arith .add) [.t 11, .c (.int .i64 1)],
 ox 11 .mv [.t 22]])))))))
 (.seq
 (.ops [0, 6] [
 ox 23 .mv [.t 3],
 ox 24 (.call 78) [.c .nils, .t 23],
 ox 6 .mv [.t 24]])
 (.seq
 (.seq
 (.ops [6, 25, 26, 27] [
 ox 25 .mv [.t 0],
 ox 26 .len [.t 25],
 ox 27 .mv [.c (.int .i64 0)]])
 (.block 2
 (.loop [6, 25, 26, 27]
 (.seq
 (.ops [6, 25, 26, 27, 28] [
 ox 28 (.cmp .lss) [.t 27, .t 26]])
 (.seq
 (.cond (.t 28)
 .skip
 (.exit 2))
 (.seq
 (.block 3
 (.seq
 (.ops [6, 8, 25, 26, 27] [
 ox 29 (.idxAddr 1) [.t 25, .t 27],
 ox 30 (.load false 1) [.t 29],
 ox 8 .mv [.t 30]])
 (.ops [6, 25, 26, 27] [
 ox 31 .mv [.t 6],
 ox 32 .mv [.t 8],
 ox 33 (.append 1 1) [.t 31, .t 32],
 ox 6 .mv [.t 33]])))
 (.ops [6, 25, 26, 27] [
 ox 34 (.arith .add) [.t 27, .c (.int .i64 1)],
 ox 27 .mv [.t 34]])))))))
 (.seq
 (.ops [2] [
 ox 35 .mv [.t 6],
 ox 2 .mv [.t 35]])
 .ret))))))
def r75 : List ARes := [.tmp 2]
theorem ok75 : FnOk Try.prog 75 c75 r75 :=
  ⟨Try.f75, _, Try.func75, by kernel_rfl, rfl, by kernel_rfl, by kernel_rfl⟩
/-- rill/names.number -/
def c76 : ACode :=
 (.seq
 (.ops [0] [
 ox 2 .mv [.c .nils]])
 (.seq
 (.ops [0, 3] [
 ox 5 (.mkSlice [.int .u8 0] 1) [.c (.int .i64 8), .c (.int .i64 8)],
 ox 3 .mv [.t 5]])
 (.seq
 (.seq
 (.ops [0, 3, 7, 8] [
 ox 6 .mv [.t 3],
 ox 7 .len [.t 6],
 ox 8 .mv [.c (.int .i64 0)]])
 (.block 0
 (.loop [0, 3, 7, 8]
 (.seq
 (.ops [0, 3, 7, 8, 9] [
 ox 9 (.cmp .lss) [.t 8, .t 7]])
 (.seq
 (.cond (.t 9)
 .skip
 (.exit 0))
 (.seq
 (.block 1
 (.seq
 (.ops [0, 3, 4, 7, 8] [
 ox 10 .mv [.t 8],
 ox 4 .mv [.t 10]])
 (.ops [0, 3, 7, 8] [
 ox 11 .mv [.t 3],
 ox 12 .mv [.t 4],
 ox 13 .mv [.t 0],
 ox 14 (.conv .u64) [.t 13],
 ox 15 .mv [.t 4],
 ox 16 (.arith .sub) [.c (.int .i64 7), .t 15],
 ox 17 (.arith .mul) [.c (.int .i64 8), .t 16],
 ox 18 (.shift .shr) [.t 14, .t 17],
 ox 19 (.conv .u8) [.t 18],
 ox 20 (.idxAddr 1) [.t 11, .t 12],
 oy (.store 1) [.t 20, .t 19]])))
 (.ops [0, 3, 7, 8] [
 ox 21 (.arith .add) [.t 8, .c (.int .i64 1)],
 ox 8 .mv [.t 21]])))))))
 (.seq
 (.ops [2] [
 ox 22 .mv [.t 3],
 ox 2 .mv [.t 22]])
 .ret))))
def r76 : List ARes := [.tmp 2]
theorem ok76 : FnOk Try.prog 76 c76 r76 :=
  ⟨Try.f76, _, Try.func76, by kernel_rfl, rfl, by kernel_rfl, by kernel_rfl⟩
/-- rill/names.within -/
def c77 : ACode :=
 (.seq
 (.ops [0] [
 ox 2 .mv [.c (.bool false)]])
 (.seq
 (.ops [2] [
 ox 3 .mv [.t 0],
 ox 4 (.cmp .geq) [.t 3, .c (.int .i64 0)],
 ox 5 .mv [.t 4],
 og 6 .mv [.t 0] 5 true,
 og 7 (.cmp .leq) [.t 6, .c (.int .i64 1099511627776)] 5 true,
 ox 8 .pick [.t 5, .t 7, .c (.bool false)],
 ox 2 .mv [.t 8]])
 .ret))
def r77 : List ARes := [.tmp 2]
theorem ok77 : FnOk Try.prog 77 c77 r77 :=
  ⟨Try.f77, _, Try.func77, by kernel_rfl, rfl, by kernel_rfl, by kernel_rfl⟩
/-- slices.Grow[[]byte,byte] -/
def c78 : ACode :=
 (.seq
 (.ops [0, 1] [
 ox 4 .mv [.c .nils]])
 (.seq
 (.seq
 (.ops [0, 1, 6] [
 ox 5 .mv [.t 1],
 ox 6 (.cmp .lss) [.t 5, .c (.int .i64 0)]])
 (.cond (.t 6)
 (.ops [0, 1] [
 ox 7 (.iface 9) [.c (.str ⟨#[99, 97, 110, 110, 111, 116, 32, 98, 101, 32, 110, 101, 103, 97, 116, 105, 118, 101]⟩)],
 oy .no [.t 7]])
 .skip))
 (.seq
 (.seq
 (.ops [0, 1] [
 ox 8 .mv [.t 1],
 ox 9 .mv [.t 0],
 ox 10 .cap [.t 9],
 ox 11 .mv [.t 0],
 ox 12 .len [.t 11],
 ox 13 (.arith .sub) [.t 10, .t 12],
 ox 14 (.arith .sub) [.t 8, .t 13],
 ox 1 .mv [.t 14]])
 (.seq
 (.ops [0, 1, 16] [
 ox 15 .mv [.t 1],
 ox 16 (.cmp .gtr) [.t 15, .c (.int .i64 0)]])
 (.cond (.t 16)
 (.ops [0] [
 ox 17 .mv [.t 0],
 ox 18 .mv [.t 0],
 ox 19 .cap [.t 18],
 ox 20 (.slice 1 false true false) [.t 17, .t 19],
 ox 21 .mv [.t 1],
 ox 22 (.appendZ [.int .u8 0] 1) [.t 20, .t 21],
 ox 23 .mv [.t 0],
 ox 24 .len [.t 23],
 ox 25 (.slice 1 false true false) [.t 22, .t 24],
 ox 0 .mv [.t 25]])
 .skip)))
 (.seq
 (.ops [4] [
 ox 26 .mv [.t 0],
 ox 4 .mv [.t 26]])
 .ret))))
def r78 : List ARes := [.tmp 4]
theorem ok78 : FnOk Try.prog 78 c78 r78 :=
  ⟨Try.f78, _, Try.func78, by kernel_rfl, rfl, by kernel_rfl, by kernel_rfl⟩
end Go.Proofs.Ytoegmnnecanhfaa
end
section
/- Parts of the abstract code, under names of their own: if-statements, and what is behind them (printed by gencode.py). -/
namespace Go.Proofs.Ytoegmnnecanhfaa
open Go.Adm
/-- rill/rilllaw15.SuperPuts -/
def d3_2 : ACode :=
 (.seq
 (.ops [1, 2, 5] [
 ox 18 .mv [.t 1],
 ox 19 (.call 7) [.t 18],
 ox 5 .mv [.t 19]])
 (.seq
 (.ops [1, 2, 5, 6, 7] [
 ox 21 (.load true 3) [.t 2],
 ox 22 (.call 8) [.t 21],
 ox 20 .mv [.t 22],
 ox 23 (.extract 0) [.t 20],
 ox 24 (.extract 1) [.t 20],
 ox 6 .mv [.t 23],
 ox 7 .mv [.t 24]])
 (.seq
 (.ops [1, 5, 6, 7, 8, 9] [
 ox 26 (.load true 3) [.t 2],
 ox 27 (.call 9) [.t 26],
 ox 25 .mv [.t 27],
 ox 28 (.extract 0) [.t 25],
 ox 29 (.extract 1) [.t 25],
 ox 8 .mv [.t 28],
 ox 9 .mv [.t 29]])
 (.seq
 (.ops [1, 5, 6, 7, 8, 9, 10, 11] [
 ox 31 .mv [.t 5],
 ox 32 .mv [.t 1],
 ox 33 .len [.t 32],
 ox 34 (.slice 1 false true false) [.t 31, .t 33],
 ox 35 (.call 10) [.t 34],
 ox 30 .mv [.t 35],
 ox 36 (.extract 0) [.t 30],
 ox 37 (.extract 1) [.t 30],
 ox 10 (.alloc [.int .i64 0, .int .i64 0, .int .i64 0]) [],
 oy (.store 3) [.t 10, .t 36],
 ox 11 .mv [.t 37]])
 (.seq
 (.ops [1, 5, 6, 7, 8, 9, 10, 11, 12, 13] [
 ox 39 .mv [.t 1],
 ox 40 (.call 11) [.t 39],
 ox 38 .mv [.t 40],
 ox 41 (.extract 0) [.t 38],
 ox 42 (.extract 1) [.t 38],
 ox 12 (.alloc [.int .i64 0, .int .i64 0, .int .i64 0]) [],
 oy (.store 3) [.t 12, .t 41],
 ox 13 .mv [.t 42]])
 (.seq
 (.ops [4] [
 ox 43 .mv [.t 7],
 ox 44 .mv [.t 9],
 ox 45 (.eq false .int) [.t 43, .t 44],
 ox 46 .mv [.t 45],
 og 47 .mv [.t 11] 46 true,
 og 48 .mv [.t 13] 46 true,
 og 49 (.eq false .int) [.t 47, .t 48] 46 true,
 ox 50 .pick [.t 46, .t 49, .c (.bool false)],
 ox 51 .mv [.t 50],
 og 52 .mv [.t 6] 51 true,
 og 53 .mv [.t 8] 51 true,
 og 54 (.call 12) [.t 52, .t 53] 51 true,
 ox 55 .pick [.t 51, .t 54, .c (.bool false)],
 ox 56 .mv [.t 55],
 og 57 (.load true 3) [.t 10] 56 true,
 og 58 (.load true 3) [.t 12] 56 true,
 og 59 (.eqAgg false [.i, .i, .i]) [.t 57, .t 58] 56 true,
 ox 60 .pick [.t 56, .t 59, .c (.bool false)],
 ox 61 .mv [.t 60],
 og 62 .mv [.t 5] 61 true,
 og 63 .mv [.t 1] 61 true,
 og 64 (.call 13) [.t 62, .t 63] 61 true,
 ox 65 .pick [.t 61, .t 64, .c (.bool false)],
 ox 66 .mv [.t 65],
 og 67 (.call 6) [] 66 true,
 ox 68 .pick [.t 66, .t 67, .c (.bool false)],
 ox 4 .mv [.t 68]])
 .ret))))))
def d3_1 : ACode :=
 (.seq
 (.ops [1, 2, 16] [
 ox 14 .mv [.t 1],
 ox 15 .len [.t 14],
 ox 16 (.cmp .gtr) [.t 15, .c (.int .i64 4096)]])
 (.cond (.t 16)
 (.seq
 (.ops [4] [
 ox 17 (.call 6) [],
 ox 4 .mv [.t 17]])
 .ret)
 .skip))
theorem q3 : c3 =
 (.seq
 (.ops [1, 2] [
 ox 2 .box [.t 0],
 ox 4 .mv [.c (.bool false)]])
 (.seq d3_1 d3_2)) := rfl
/-- rill/rilllaw15.SuperFound -/
def c4_4 : ACode :=
 (.seq
 (.seq
 (.ops [9, 11, 12, 13, 14, 24, 135] [
 ox 133 .mv [.t 24],
 ox 134 .len [.t 133],
 ox 135 (.cmp .gtr) [.t 134, .c (.int .i64 1024)]])
 (.cond (.t 135)
 (.seq
 (.ops [8] [
 ox 136 (.call 6) [],
 ox 8 .mv [.t 136]])
 .ret)
 .skip))
 (.seq
 (.ops [9, 11, 12, 13, 14, 24] [
 ox 137 .mv [.t 9],
 ox 138 .mv [.t 24],
 ox 139 (.call 21) [.t 137, .c (.int .i64 0), .t 138]])
 (.seq
 (.ops [12, 13, 14, 24, 25, 26, 27] [
 ox 141 .mv [.t 9],
 ox 142 .mv [.t 11],
 ox 143 (.iface 39) [.t 142],
 ox 144 (.call 18) [.t 141, .t 143],
 ox 140 .mv [.t 144],
 ox 145 (.extract 0) [.t 140],
 ox 146 (.extract 1) [.t 140],
 ox 147 (.extract 2) [.t 140],
 ox 25 (.alloc [.int .i64 0, .int .i64 0, .int .i64 0]) [],
 ox 26 (.alloc (List.replicate 32 (.int .u8 0))) [],
 oy (.store 3) [.t 25, .t 145],
 oy (.store 32) [.t 26, .t 146],
 ox 27 .mv [.t 147]])
 (.seq
 (.seq
 (.ops [12, 13, 14, 24, 25, 26, 27, 150] [
 ox 148 .mv [.t 24],
 ox 149 .len [.t 148],
 ox 150 (.eq false .int) [.t 149, .c (.int .i64 0)]])
 (.cond (.t 150)
 (.seq
 (.ops [8] [
 ox 151 .mv [.t 27],
 ox 152 (.eq false .int) [.t 151, .c (.int .i64 9)],
 ox 153 .mv [.t 152],
 og 154 (.call 6) [] 153 true,
 ox 155 .pick [.t 153, .t 154, .c (.bool false)],
 ox 8 .mv [.t 155]])
 .ret)
 .skip))
 (.seq
 (.seq
 (.ops [12, 13, 14, 24, 25, 26, 27, 28] [
 ox 28 .mv [.c (.int .i64 0)]])
 (.block 2
 (.loop [12, 13, 14, 24, 25, 26, 27, 28]
 (.seq
 (.seq
 (.ops [12, 13, 14, 24, 25, 26, 27, 28, 159] [
 ox 156 .mv [.t 28],
 ox 157 .mv [.t 12],
 ox 158 .len [.t 157],
 ox 159 (.cmp .lss) [.t 156, .t 158]])
 (.cond (.t 159)
 .skip
 (.exit 2)))
 (.seq
 (.block 3
 (.seq
 (.ops [12, 13, 14, 24, 25, 26, 27, 28, 167] [
 ox 162 .mv [.t 12],
 ox 163 .mv [.t 28],
 ox 164 (.idxAddr 1) [.t 162, .t 163],
 ox 165 (.load false 1) [.t 164],
 ox 166 .mv [.t 24],
 ox 167 (.call 12) [.t 165, .t 166]])
 (.cond (.t 167)
 (.seq
 (.drawn [8] [
 ox 168 .mv [.t 27],
 ox 169 (.eq false .int) [.t 168, .c (.int .i64 0)],
 ox 170 .mv [.t 169],
 og 171 (.load true 3) [.t 25] 170 true,
 og 172 .mv [.t 13] 170 true,
 og 173 .mv [.t 28] 170 true,
 og 174 (.idxAddr 3) [.t 172, .t 173] 170 true,
 og 175 (.load true 3) [.t 174] 170 true,
 og 176 (.eqAgg false [.i, .i, .i]) [.t 171, .t 175] 170 true,
 ox 177 .pick [.t 170, .t 176, .c (.bool false)],
 ox 178 .mv [.t 177],
 og 179 (.load true 32) [.t 26] 178 true,
 og 180 .mv [.t 14] 178 true,
 og 181 .mv [.t 28] 178 true,
 og 182 (.idxAddr 32) [.t 180, .t 181] 178 true,
 og 183 (.load true 32) [.t 182] 178 true,
 og 184 (.eqAgg false (List.replicate 32 .i)) [.t 179, .t 183] 178 true,
 ox 185 .pick [.t 178, .t 184, .c (.bool false)],
 ox 186 .mv [.t 185],
 oh 187 (.call 6) [] 186 true 0 1,
 od 188 .pick [.t 186, .t 187, .c (.bool false)] 1 1,
 od 8 .mv [.t 188] 1 1])
 .ret)
 .skip)))
 (.ops [12, 13, 14, 24, 25, 26, 27, 28] [
 ox 160 .mv [.t 28],
 ox 161 (.arith .add) [.t 160, .c (.int .i64 1)],
 ox 28 .mv [.t 161]]))))))
 (.seq
 (.ops [8] [
 ox 189 .mv [.t 27],
 ox 190 (.eq false .int) [.t 189, .c (.int .i64 14)],
 ox 191 .mv [.t 190],
 og 192 (.load true 3) [.t 25] 191 true,
 og 193 (.build [.int .i64 0, .int .i64 0, .int .i64 0] []) [] 191 true,
 og 194 (.eqAgg false [.i, .i, .i]) [.t 192, .t 193] 191 true,
 ox 195 .pick [.t 191, .t 194, .c (.bool false)],
 ox 196 .mv [.t 195],
 og 197 (.load true 32) [.t 26] 196 true,
 og 198 (.build (List.replicate 32 (.int .u8 0)) []) [] 196 true,
 og 199 (.eqAgg false (List.replicate 32 .i)) [.t 197, .t 198] 196 true,
 ox 200 .pick [.t 196, .t 199, .c (.bool false)],
 ox 201 .mv [.t 200],
 og 202 (.call 6) [] 201 true,
 ox 203 .pick [.t 201, .t 202, .c (.bool false)],
 ox 8 .mv [.t 203]])
 .ret))))))
def c4_3 : ACode :=
 (.seq
 (.ops [3, 9, 11, 12, 13, 14, 24, 124] [
 ox 117 .mv [.t 12],
 ox 118 .len [.t 117],
 ox 119 (.cmp .gtr) [.t 118, .c (.int .i64 0)],
 ox 120 .mv [.t 119],
 og 121 .mv [.t 3] 120 true,
 og 122 (.arith .rem) [.t 121, .c (.int .i64 2)] 120 true,
 og 123 (.eq false .int) [.t 122, .c (.int .i64 0)] 120 true,
 ox 124 .pick [.t 120, .t 123, .c (.bool false)]])
 (.cond (.t 124)
 (.ops [9, 11, 12, 13, 14, 24] [
 ox 125 .mv [.t 12],
 ox 126 .mv [.t 3],
 ox 127 (.arith .quo) [.t 126, .c (.int .i64 2)],
 ox 128 .mv [.t 12],
 ox 129 .len [.t 128],
 ox 130 (.call 20) [.t 127, .t 129],
 ox 131 (.idxAddr 1) [.t 125, .t 130],
 ox 132 (.load false 1) [.t 131],
 ox 24 .mv [.t 132]])
 .skip))
def c4_2 : ACode :=
 (.seq
 (.ops [0, 1, 2, 3, 9, 11, 12, 13, 14, 15, 17, 18] [
 ox 62 .mv [.t 9],
 ox 63 .mv [.t 11],
 ox 64 (.iface 39) [.t 63],
 ox 65 .mv [.t 16],
 ox 66 .mv [.t 0],
 ox 67 .mv [.t 15],
 ox 68 (.idxAddr 3) [.t 66, .t 67],
 ox 69 (.load true 3) [.t 68],
 ox 70 (.call 16) [.t 62, .t 64, .t 65, .t 69],
 ox 61 .mv [.t 70],
 ox 71 (.extract 0) [.t 61],
 ox 72 (.extract 1) [.t 61],
 ox 17 (.alloc (List.replicate 32 (.int .u8 0))) [],
 oy (.store 32) [.t 17, .t 71],
 ox 18 .mv [.t 72]])
 (.seq
 (.seq
 (.ops [0, 1, 2, 3, 9, 11, 12, 13, 14, 15, 17, 74] [
 ox 73 .mv [.t 18],
 ox 74 (.eq true .int) [.t 73, .c (.int .i64 0)]])
 (.cond (.t 74)
 (.exit 1)
 .skip))
 (.seq
 (.ops [0, 1, 2, 3, 9, 11, 12, 13, 14, 15, 17, 19] [
 ox 76 .mv [.t 9],
 ox 77 (.call 17) [.t 76, .c (.int .i64 0)],
 ox 75 .mv [.t 77],
 ox 78 (.extract 0) [.t 75],
 ox 79 (.extract 1) [.t 75],
 ox 19 .mv [.t 78],
 ox 20 .mv [.t 79]])
 (.seq
 (.ops [0, 1, 2, 3, 9, 11, 12, 13, 14, 15, 17, 19, 21, 22, 23] [
 ox 81 .mv [.t 9],
 ox 82 .mv [.t 11],
 ox 83 (.iface 39) [.t 82],
 ox 84 (.call 18) [.t 81, .t 83],
 ox 80 .mv [.t 84],
 ox 85 (.extract 0) [.t 80],
 ox 86 (.extract 1) [.t 80],
 ox 87 (.extract 2) [.t 80],
 ox 21 (.alloc [.int .i64 0, .int .i64 0, .int .i64 0]) [],
 ox 22 (.alloc (List.replicate 32 (.int .u8 0))) [],
 oy (.store 3) [.t 21, .t 85],
 oy (.store 32) [.t 22, .t 86],
 ox 23 .mv [.t 87]])
 (.seq
 (.seq
 (.drawn [0, 1, 2, 3, 9, 11, 12, 13, 14, 15, 17, 19, 21, 102] [
 ox 88 .mv [.t 23],
 ox 89 (.eq true .int) [.t 88, .c (.int .i64 0)],
 ox 90 .mv [.t 89],
 og 91 (.load true 3) [.t 21] 90 false,
 og 92 .mv [.t 0] 90 false,
 og 93 .mv [.t 15] 90 false,
 og 94 (.idxAddr 3) [.t 92, .t 93] 90 false,
 og 95 (.load true 3) [.t 94] 90 false,
 og 96 (.eqAgg true [.i, .i, .i]) [.t 91, .t 95] 90 false,
 ox 97 .pick [.t 90, .c (.bool true), .t 96],
 ox 98 .mv [.t 97],
 og 99 (.load true 32) [.t 22] 98 false,
 og 100 (.load true 32) [.t 17] 98 false,
 og 101 (.eqAgg true (List.replicate 32 .i)) [.t 99, .t 100] 98 false,
 ox 102 .pick [.t 98, .c (.bool true), .t 101]])
 (.cond (.t 102)
 (.seq
 (.ops [8] [
 ox 8 .mv [.c (.bool false)]])
 .ret)
 .skip))
 (.seq
 (.ops [0, 1, 2, 3, 9, 11, 12, 13, 14, 15, 17, 21] [
 ox 103 .mv [.t 12],
 ox 104 .mv [.t 19],
 ox 105 (.mkSl 1 [.nils] [(0, 1)]) [.t 104],
 ox 106 (.append 1 24) [.t 103, .t 105],
 ox 12 .mv [.t 106]])
 (.seq
 (.ops [0, 1, 2, 3, 9, 11, 12, 13, 14, 15, 17] [
 ox 107 .mv [.t 13],
 ox 108 (.load true 3) [.t 21],
 ox 109 (.mkSl 1 [.int .i64 0, .int .i64 0, .int .i64 0] [(0, 3)]) [.t 108],
 ox 110 (.append 3 24) [.t 107, .t 109],
 ox 13 .mv [.t 110]])
 (.ops [0, 1, 2, 3, 9, 11, 12, 13, 14, 15] [
 ox 111 .mv [.t 14],
 ox 112 (.load true 32) [.t 17],
 ox 113 (.mkSl 1 (List.replicate 32 (.int .u8 0)) [(0, 32)]) [.t 112],
 ox 114 (.append 32 32) [.t 111, .t 113],
 ox 14 .mv [.t 114]]))))))))
def c4_1 : ACode :=
 (.seq
 (.ops [0, 1, 2, 3, 9, 11, 12, 13, 14, 15, 16, 56] [
 ox 53 .mv [.t 15],
 ox 54 .mv [.t 1],
 ox 55 .len [.t 54],
 ox 56 (.cmp .lss) [.t 53, .t 55]])
 (.cond (.t 56)
 (.ops [0, 1, 2, 3, 9, 11, 12, 13, 14, 15, 16] [
 ox 57 .mv [.t 1],
 ox 58 .mv [.t 15],
 ox 59 (.idxAddr 1) [.t 57, .t 58],
 ox 60 (.load false 1) [.t 59],
 ox 16 .mv [.t 60]])
 .skip))
theorem p4 : c4 =
 (.seq
 (.ops [0, 1, 2, 3] [
 ox 8 .mv [.c (.bool false)]])
 (.seq
 (.ops [0, 1, 2, 3, 9, 10] [
 ox 30 (.call 14) [.c (.int .i64 5)],
 ox 29 .mv [.t 30],
 ox 31 (.extract 0) [.t 29],
 ox 32 (.extract 1) [.t 29],
 ox 9 .mv [.t 31],
 ox 10 .mv [.t 32]])
 (.seq
 (.ops [0, 1, 2, 3, 9, 10, 11] [
 ox 33 (.call 15) [],
 ox 11 .mv [.t 33]])
 (.seq
 (.seq
 (.ops [0, 1, 2, 3, 9, 11, 40] [
 ox 34 .mv [.t 10],
 ox 35 (.eq true .int) [.t 34, .c (.int .i64 0)],
 ox 36 .mv [.t 35],
 og 37 .mv [.t 2] 36 false,
 og 38 .len [.t 37] 36 false,
 og 39 (.cmp .gtr) [.t 38, .c (.int .i64 2048)] 36 false,
 ox 40 .pick [.t 36, .c (.bool true), .t 39]])
 (.cond (.t 40)
 (.seq
 (.ops [8] [
 ox 41 (.call 6) [],
 ox 8 .mv [.t 41]])
 .ret)
 .skip))
 (.seq
 (.ops [0, 1, 2, 3, 9, 11, 12] [
 ox 12 .mv [.c .nils]])
 (.seq
 (.ops [0, 1, 2, 3, 9, 11, 12, 13] [
 ox 13 .mv [.c .nils]])
 (.seq
 (.ops [0, 1, 2, 3, 9, 11, 12, 13, 14] [
 ox 14 .mv [.c .nils]])
 (.seq
 (.seq
 (.ops [0, 1, 2, 3, 9, 11, 12, 13, 14, 15] [
 ox 15 .mv [.c (.int .i64 0)]])
 (.block 0
 (.loop [0, 1, 2, 3, 9, 11, 12, 13, 14, 15]
 (.seq
 (.seq
 (.ops [0, 1, 2, 3, 9, 11, 12, 13, 14, 15, 49] [
 ox 42 .mv [.t 15],
 ox 43 .mv [.t 0],
 ox 44 .len [.t 43],
 ox 45 (.cmp .lss) [.t 42, .t 44],
 ox 46 .mv [.t 45],
 og 47 .mv [.t 15] 46 true,
 og 48 (.cmp .lss) [.t 47, .c (.int .i64 20)] 46 true,
 ox 49 .pick [.t 46, .t 48, .c (.bool false)]])
 (.cond (.t 49)
 .skip
 (.exit 0)))
 (.seq
 (.block 1
 (.seq
 (.ops [0, 1, 2, 3, 9, 11, 12, 13, 14, 15, 16] [
 ox 52 .mv [.t 15],
 ox 16 .mv [.t 52]])
 (.seq c4_1 c4_2)))
 (.ops [0, 1, 2, 3, 9, 11, 12, 13, 14, 15] [
 ox 50 .mv [.t 15],
 ox 51 (.arith .add) [.t 50, .c (.int .i64 1)],
 ox 15 .mv [.t 51]]))))))
 (.seq
 (.ops [3, 9, 11, 12, 13, 14, 24] [
 ox 115 .mv [.t 2],
 ox 116 (.call 19) [.t 115],
 ox 24 .mv [.t 116]])
 (.seq c4_3 c4_4)))))))))) := rfl
def d4_18 : ACode :=
 (.seq
 (.block 3
 (.seq
 (.ops [12, 13, 14, 24, 25, 26, 27, 28, 167] [
 ox 162 .mv [.t 12],
 ox 163 .mv [.t 28],
 ox 164 (.idxAddr 1) [.t 162, .t 163],
 ox 165 (.load false 1) [.t 164],
 ox 166 .mv [.t 24],
 ox 167 (.call 12) [.t 165, .t 166]])
 (.cond (.t 167)
 (.seq
 (.drawn [8] [
 ox 168 .mv [.t 27],
 ox 169 (.eq false .int) [.t 168, .c (.int .i64 0)],
 ox 170 .mv [.t 169],
 og 171 (.load true 3) [.t 25] 170 true,
 og 172 .mv [.t 13] 170 true,
 og 173 .mv [.t 28] 170 true,
 og 174 (.idxAddr 3) [.t 172, .t 173] 170 true,
 og 175 (.load true 3) [.t 174] 170 true,
 og 176 (.eqAgg false [.i, .i, .i]) [.t 171, .t 175] 170 true,
 ox 177 .pick [.t 170, .t 176, .c (.bool false)],
 ox 178 .mv [.t 177],
 og 179 (.load true 32) [.t 26] 178 true,
 og 180 .mv [.t 14] 178 true,
 og 181 .mv [.t 28] 178 true,
 og 182 (.idxAddr 32) [.t 180, .t 181] 178 true,
 og 183 (.load true 32) [.t 182] 178 true,
 og 184 (.eqAgg false (List.replicate 32 .i)) [.t 179, .t 183] 178 true,
 ox 185 .pick [.t 178, .t 184, .c (.bool false)],
 ox 186 .mv [.t 185],
 oh 187 (.call 6) [] 186 true 0 1,
 od 188 .pick [.t 186, .t 187, .c (.bool false)] 1 1,
 od 8 .mv [.t 188] 1 1])
 .ret)
 .skip)))
 (.ops [12, 13, 14, 24, 25, 26, 27, 28] [
 ox 160 .mv [.t 28],
 ox 161 (.arith .add) [.t 160, .c (.int .i64 1)],
 ox 28 .mv [.t 161]]))
def d4_17 : ACode :=
 (.seq
 (.ops [12, 13, 14, 24, 25, 26, 27, 28, 159] [
 ox 156 .mv [.t 28],
 ox 157 .mv [.t 12],
 ox 158 .len [.t 157],
 ox 159 (.cmp .lss) [.t 156, .t 158]])
 (.cond (.t 159)
 .skip
 (.exit 2)))
def d4_16 : ACode :=
 (.seq
 (.seq
 (.ops [12, 13, 14, 24, 25, 26, 27, 28] [
 ox 28 .mv [.c (.int .i64 0)]])
 (.block 2
 (.loop [12, 13, 14, 24, 25, 26, 27, 28]
 (.seq d4_17 d4_18))))
 (.seq
 (.ops [8] [
 ox 189 .mv [.t 27],
 ox 190 (.eq false .int) [.t 189, .c (.int .i64 14)],
 ox 191 .mv [.t 190],
 og 192 (.load true 3) [.t 25] 191 true,
 og 193 (.build [.int .i64 0, .int .i64 0, .int .i64 0] []) [] 191 true,
 og 194 (.eqAgg false [.i, .i, .i]) [.t 192, .t 193] 191 true,
 ox 195 .pick [.t 191, .t 194, .c (.bool false)],
 ox 196 .mv [.t 195],
 og 197 (.load true 32) [.t 26] 196 true,
 og 198 (.build (List.replicate 32 (.int .u8 0)) []) [] 196 true,
 og 199 (.eqAgg false (List.replicate 32 .i)) [.t 197, .t 198] 196 true,
 ox 200 .pick [.t 196, .t 199, .c (.bool false)],
 ox 201 .mv [.t 200],
 og 202 (.call 6) [] 201 true,
 ox 203 .pick [.t 201, .t 202, .c (.bool false)],
 ox 8 .mv [.t 203]])
 .ret))
def d4_15 : ACode :=
 (.seq
 (.ops [12, 13, 14, 24, 25, 26, 27, 150] [
 ox 148 .mv [.t 24],
 ox 149 .len [.t 148],
 ox 150 (.eq false .int) [.t 149, .c (.int .i64 0)]])
 (.cond (.t 150)
 (.seq
 (.ops [8] [
 ox 151 .mv [.t 27],
 ox 152 (.eq false .int) [.t 151, .c (.int .i64 9)],
 ox 153 .mv [.t 152],
 og 154 (.call 6) [] 153 true,
 ox 155 .pick [.t 153, .t 154, .c (.bool false)],
 ox 8 .mv [.t 155]])
 .ret)
 .skip))
def d4_14 : ACode :=
 (.seq
 (.ops [9, 11, 12, 13, 14, 24] [
 ox 137 .mv [.t 9],
 ox 138 .mv [.t 24],
 ox 139 (.call 21) [.t 137, .c (.int .i64 0), .t 138]])
 (.seq
 (.ops [12, 13, 14, 24, 25, 26, 27] [
 ox 141 .mv [.t 9],
 ox 142 .mv [.t 11],
 ox 143 (.iface 39) [.t 142],
 ox 144 (.call 18) [.t 141, .t 143],
 ox 140 .mv [.t 144],
 ox 145 (.extract 0) [.t 140],
 ox 146 (.extract 1) [.t 140],
 ox 147 (.extract 2) [.t 140],
 ox 25 (.alloc [.int .i64 0, .int .i64 0, .int .i64 0]) [],
 ox 26 (.alloc (List.replicate 32 (.int .u8 0))) [],
 oy (.store 3) [.t 25, .t 145],
 oy (.store 32) [.t 26, .t 146],
 ox 27 .mv [.t 147]])
 (.seq d4_15 d4_16)))
def d4_13 : ACode :=
 (.seq
 (.ops [9, 11, 12, 13, 14, 24, 135] [
 ox 133 .mv [.t 24],
 ox 134 .len [.t 133],
 ox 135 (.cmp .gtr) [.t 134, .c (.int .i64 1024)]])
 (.cond (.t 135)
 (.seq
 (.ops [8] [
 ox 136 (.call 6) [],
 ox 8 .mv [.t 136]])
 .ret)
 .skip))
def d4_12 : ACode :=
 (.seq d4_13 d4_14)
def d4_11 : ACode :=
 (.seq
 (.ops [3, 9, 11, 12, 13, 14, 24, 124] [
 ox 117 .mv [.t 12],
 ox 118 .len [.t 117],
 ox 119 (.cmp .gtr) [.t 118, .c (.int .i64 0)],
 ox 120 .mv [.t 119],
 og 121 .mv [.t 3] 120 true,
 og 122 (.arith .rem) [.t 121, .c (.int .i64 2)] 120 true,
 og 123 (.eq false .int) [.t 122, .c (.int .i64 0)] 120 true,
 ox 124 .pick [.t 120, .t 123, .c (.bool false)]])
 (.cond (.t 124)
 (.ops [9, 11, 12, 13, 14, 24] [
 ox 125 .mv [.t 12],
 ox 126 .mv [.t 3],
 ox 127 (.arith .quo) [.t 126, .c (.int .i64 2)],
 ox 128 .mv [.t 12],
 ox 129 .len [.t 128],
 ox 130 (.call 20) [.t 127, .t 129],
 ox 131 (.idxAddr 1) [.t 125, .t 130],
 ox 132 (.load false 1) [.t 131],
 ox 24 .mv [.t 132]])
 .skip))
def d4_10 : ACode :=
 (.seq
 (.ops [0, 1, 2, 3, 9, 11, 12, 13, 14, 15, 17, 21] [
 ox 103 .mv [.t 12],
 ox 104 .mv [.t 19],
 ox 105 (.mkSl 1 [.nils] [(0, 1)]) [.t 104],
 ox 106 (.append 1 24) [.t 103, .t 105],
 ox 12 .mv [.t 106]])
 (.seq
 (.ops [0, 1, 2, 3, 9, 11, 12, 13, 14, 15, 17] [
 ox 107 .mv [.t 13],
 ox 108 (.load true 3) [.t 21],
 ox 109 (.mkSl 1 [.int .i64 0, .int .i64 0, .int .i64 0] [(0, 3)]) [.t 108],
 ox 110 (.append 3 24) [.t 107, .t 109],
 ox 13 .mv [.t 110]])
 (.ops [0, 1, 2, 3, 9, 11, 12, 13, 14, 15] [
 ox 111 .mv [.t 14],
 ox 112 (.load true 32) [.t 17],
 ox 113 (.mkSl 1 (List.replicate 32 (.int .u8 0)) [(0, 32)]) [.t 112],
 ox 114 (.append 32 32) [.t 111, .t 113],
 ox 14 .mv [.t 114]])))
def d4_9 : ACode :=
 (.seq
 (.drawn [0, 1, 2, 3, 9, 11, 12, 13, 14, 15, 17, 19, 21, 102] [
 ox 88 .mv [.t 23],
 ox 89 (.eq true .int) [.t 88, .c (.int .i64 0)],
 ox 90 .mv [.t 89],
 og 91 (.load true 3) [.t 21] 90 false,
 og 92 .mv [.t 0] 90 false,
 og 93 .mv [.t 15] 90 false,
 og 94 (.idxAddr 3) [.t 92, .t 93] 90 false,
 og 95 (.load true 3) [.t 94] 90 false,
 og 96 (.eqAgg true [.i, .i, .i]) [.t 91, .t 95] 90 false,
 ox 97 .pick [.t 90, .c (.bool true), .t 96],
 ox 98 .mv [.t 97],
 og 99 (.load true 32) [.t 22] 98 false,
 og 100 (.load true 32) [.t 17] 98 false,
 og 101 (.eqAgg true (List.replicate 32 .i)) [.t 99, .t 100] 98 false,
 ox 102 .pick [.t 98, .c (.bool true), .t 101]])
 (.cond (.t 102)
 (.seq
 (.ops [8] [
 ox 8 .mv [.c (.bool false)]])
 .ret)
 .skip))
def d4_8 : ACode :=
 (.seq
 (.ops [0, 1, 2, 3, 9, 11, 12, 13, 14, 15, 17, 19] [
 ox 76 .mv [.t 9],
 ox 77 (.call 17) [.t 76, .c (.int .i64 0)],
 ox 75 .mv [.t 77],
 ox 78 (.extract 0) [.t 75],
 ox 79 (.extract 1) [.t 75],
 ox 19 .mv [.t 78],
 ox 20 .mv [.t 79]])
 (.seq
 (.ops [0, 1, 2, 3, 9, 11, 12, 13, 14, 15, 17, 19, 21, 22, 23] [
 ox 81 .mv [.t 9],
 ox 82 .mv [.t 11],
 ox 83 (.iface 39) [.t 82],
 ox 84 (.call 18) [.t 81, .t 83],
 ox 80 .mv [.t 84],
 ox 85 (.extract 0) [.t 80],
 ox 86 (.extract 1) [.t 80],
 ox 87 (.extract 2) [.t 80],
 ox 21 (.alloc [.int .i64 0, .int .i64 0, .int .i64 0]) [],
 ox 22 (.alloc (List.replicate 32 (.int .u8 0))) [],
 oy (.store 3) [.t 21, .t 85],
 oy (.store 32) [.t 22, .t 86],
 ox 23 .mv [.t 87]])
 (.seq d4_9 d4_10)))
def d4_7 : ACode :=
 (.seq
 (.ops [0, 1, 2, 3, 9, 11, 12, 13, 14, 15, 17, 74] [
 ox 73 .mv [.t 18],
 ox 74 (.eq true .int) [.t 73, .c (.int .i64 0)]])
 (.cond (.t 74)
 (.exit 1)
 .skip))
def d4_6 : ACode :=
 (.seq
 (.ops [0, 1, 2, 3, 9, 11, 12, 13, 14, 15, 17, 18] [
 ox 62 .mv [.t 9],
 ox 63 .mv [.t 11],
 ox 64 (.iface 39) [.t 63],
 ox 65 .mv [.t 16],
 ox 66 .mv [.t 0],
 ox 67 .mv [.t 15],
 ox 68 (.idxAddr 3) [.t 66, .t 67],
 ox 69 (.load true 3) [.t 68],
 ox 70 (.call 16) [.t 62, .t 64, .t 65, .t 69],
 ox 61 .mv [.t 70],
 ox 71 (.extract 0) [.t 61],
 ox 72 (.extract 1) [.t 61],
 ox 17 (.alloc (List.replicate 32 (.int .u8 0))) [],
 oy (.store 32) [.t 17, .t 71],
 ox 18 .mv [.t 72]])
 (.seq d4_7 d4_8))
def d4_5 : ACode :=
 (.seq
 (.ops [0, 1, 2, 3, 9, 11, 12, 13, 14, 15, 16, 56] [
 ox 53 .mv [.t 15],
 ox 54 .mv [.t 1],
 ox 55 .len [.t 54],
 ox 56 (.cmp .lss) [.t 53, .t 55]])
 (.cond (.t 56)
 (.ops [0, 1, 2, 3, 9, 11, 12, 13, 14, 15, 16] [
 ox 57 .mv [.t 1],
 ox 58 .mv [.t 15],
 ox 59 (.idxAddr 1) [.t 57, .t 58],
 ox 60 (.load false 1) [.t 59],
 ox 16 .mv [.t 60]])
 .skip))
def d4_4 : ACode :=
 (.seq
 (.block 1
 (.seq
 (.ops [0, 1, 2, 3, 9, 11, 12, 13, 14, 15, 16] [
 ox 52 .mv [.t 15],
 ox 16 .mv [.t 52]])
 (.seq d4_5 d4_6)))
 (.ops [0, 1, 2, 3, 9, 11, 12, 13, 14, 15] [
 ox 50 .mv [.t 15],
 ox 51 (.arith .add) [.t 50, .c (.int .i64 1)],
 ox 15 .mv [.t 51]]))
def d4_3 : ACode :=
 (.seq
 (.ops [0, 1, 2, 3, 9, 11, 12, 13, 14, 15, 49] [
 ox 42 .mv [.t 15],
 ox 43 .mv [.t 0],
 ox 44 .len [.t 43],
 ox 45 (.cmp .lss) [.t 42, .t 44],
 ox 46 .mv [.t 45],
 og 47 .mv [.t 15] 46 true,
 og 48 (.cmp .lss) [.t 47, .c (.int .i64 20)] 46 true,
 ox 49 .pick [.t 46, .t 48, .c (.bool false)]])
 (.cond (.t 49)
 .skip
 (.exit 0)))
def d4_2 : ACode :=
 (.seq
 (.ops [0, 1, 2, 3, 9, 11, 12] [
 ox 12 .mv [.c .nils]])
 (.seq
 (.ops [0, 1, 2, 3, 9, 11, 12, 13] [
 ox 13 .mv [.c .nils]])
 (.seq
 (.ops [0, 1, 2, 3, 9, 11, 12, 13, 14] [
 ox 14 .mv [.c .nils]])
 (.seq
 (.seq
 (.ops [0, 1, 2, 3, 9, 11, 12, 13, 14, 15] [
 ox 15 .mv [.c (.int .i64 0)]])
 (.block 0
 (.loop [0, 1, 2, 3, 9, 11, 12, 13, 14, 15]
 (.seq d4_3 d4_4))))
 (.seq
 (.ops [3, 9, 11, 12, 13, 14, 24] [
 ox 115 .mv [.t 2],
 ox 116 (.call 19) [.t 115],
 ox 24 .mv [.t 116]])
 (.seq d4_11 d4_12))))))
def d4_1 : ACode :=
 (.seq
 (.ops [0, 1, 2, 3, 9, 11, 40] [
 ox 34 .mv [.t 10],
 ox 35 (.eq true .int) [.t 34, .c (.int .i64 0)],
 ox 36 .mv [.t 35],
 og 37 .mv [.t 2] 36 false,
 og 38 .len [.t 37] 36 false,
 og 39 (.cmp .gtr) [.t 38, .c (.int .i64 2048)] 36 false,
 ox 40 .pick [.t 36, .c (.bool true), .t 39]])
 (.cond (.t 40)
 (.seq
 (.ops [8] [
 ox 41 (.call 6) [],
 ox 8 .mv [.t 41]])
 .ret)
 .skip))
theorem q4 : c4 =
 (.seq
 (.ops [0, 1, 2, 3] [
 ox 8 .mv [.c (.bool false)]])
 (.seq
 (.ops [0, 1, 2, 3, 9, 10] [
 ox 30 (.call 14) [.c (.int .i64 5)],
 ox 29 .mv [.t 30],
 ox 31 (.extract 0) [.t 29],
 ox 32 (.extract 1) [.t 29],
 ox 9 .mv [.t 31],
 ox 10 .mv [.t 32]])
 (.seq
 (.ops [0, 1, 2, 3, 9, 10, 11] [
 ox 33 (.call 15) [],
 ox 11 .mv [.t 33]])
 (.seq d4_1 d4_2)))) := rfl
def e4_4 : ACode :=
 (.seq
 (.seq
 (.ops [9, 11, 12, 13, 14, 24, 135] [
 ox 133 .mv [.t 24],
 ox 134 .len [.t 133],
 ox 135 (.cmp .gtr) [.t 134, .c (.int .i64 1024)]])
 (.cond (.t 135)
 (.seq
 (.ops [8] [
 ox 136 (.call 6) [],
 ox 8 .mv [.t 136]])
 .ret)
 .skip))
 (.seq
 (.ops [9, 11, 12, 13, 14, 24] [
 ox 137 .mv [.t 9],
 ox 138 .mv [.t 24],
 ox 139 (.call 21) [.t 137, .c (.int .i64 0), .t 138]])
 (.seq
 (.ops [12, 13, 14, 24, 25, 26, 27] [
 ox 141 .mv [.t 9],
 ox 142 .mv [.t 11],
 ox 143 (.iface 39) [.t 142],
 ox 144 (.call 18) [.t 141, .t 143],
 ox 140 .mv [.t 144],
 ox 145 (.extract 0) [.t 140],
 ox 146 (.extract 1) [.t 140],
 ox 147 (.extract 2) [.t 140],
 ox 25 (.alloc [.int .i64 0, .int .i64 0, .int .i64 0]) [],
 ox 26 (.alloc (List.replicate 32 (.int .u8 0))) [],
 oy (.store 3) [.t 25, .t 145],
 oy (.store 32) [.t 26, .t 146],
 ox 27 .mv [.t 147]])
 (.seq
 (.seq
 (.ops [12, 13, 14, 24, 25, 26, 27, 150] [
 ox 148 .mv [.t 24],
 ox 149 .len [.t 148],
 ox 150 (.eq false .int) [.t 149, .c (.int .i64 0)]])
 (.cond (.t 150)
 (.seq
 (.ops [8] [
 ox 151 .mv [.t 27],
 ox 152 (.eq false .int) [.t 151, .c (.int .i64 9)],
 ox 153 .mv [.t 152],
 og 154 (.call 6) [] 153 true,
 ox 155 .pick [.t 153, .t 154, .c (.bool false)],
 ox 8 .mv [.t 155]])
 .ret)
 .skip))
 (.seq
 (.seq
 (.ops [12, 13, 14, 24, 25, 26, 27, 28] [
 ox 28 .mv [.c (.int .i64 0)]])
 (.block 2
 (.loop [12, 13, 14, 24, 25, 26, 27, 28]
 (.seq
 (.seq
 (.ops [12, 13, 14, 24, 25, 26, 27, 28, 159] [
 ox 156 .mv [.t 28],
 ox 157 .mv [.t 12],
 ox 158 .len [.t 157],
 ox 159 (.cmp .lss) [.t 156, .t 158]])
 (.cond (.t 159)
 .skip
 (.exit 2)))
 (.seq
 (.block 3
 (.seq
 (.ops [12, 13, 14, 24, 25, 26, 27, 28, 167] [
 ox 162 .mv [.t 12],
 ox 163 .mv [.t 28],
 ox 164 (.idxAddr 1) [.t 162, .t 163],
 ox 165 (.load false 1) [.t 164],
 ox 166 .mv [.t 24],
 ox 167 (.call 12) [.t 165, .t 166]])
 (.cond (.t 167)
 (.seq
 (.drawn [8] [
 ox 168 .mv [.t 27],
 ox 169 (.eq false .int) [.t 168, .c (.int .i64 0)],
 ox 170 .mv [.t 169],
 og 171 (.load true 3) [.t 25] 170 true,
 og 172 .mv [.t 13] 170 true,
 og 173 .mv [.t 28] 170 true,
 og 174 (.idxAddr 3) [.t 172, .t 173] 170 true,
 og 175 (.load true 3) [.t 174] 170 true,
 og 176 (.eqAgg false [.i, .i, .i]) [.t 171, .t 175] 170 true,
 ox 177 .pick [.t 170, .t 176, .c (.bool false)],
 ox 178 .mv [.t 177],
 og 179 (.load true 32) [.t 26] 178 true,
 og 180 .mv [.t 14] 178 true,
 og 181 .mv [.t 28] 178 true,
 og 182 (.idxAddr 32) [.t 180, .t 181] 178 true,
 og 183 (.load true 32) [.t 182] 178 true,
 og 184 (.eqAgg false (List.replicate 32 .i)) [.t 179, .t 183] 178 true,
 ox 185 .pick [.t 178, .t 184, .c (.bool false)],
 ox 186 .mv [.t 185],
 oh 187 (.call 6) [] 186 true 0 1,
 od 188 .pick [.t 186, .t 187, .c (.bool false)] 1 1,
 od 8 .mv [.t 188] 1 1])
 .ret)
 .skip)))
 (.ops [12, 13, 14, 24, 25, 26, 27, 28] [
 ox 160 .mv [.t 28],
 ox 161 (.arith .add) [.t 160, .c (.int .i64 1)],
 ox 28 .mv [.t 161]]))))))
 (.seq
 (.ops [8] [
 ox 189 .mv [.t 27],
 ox 190 (.eq false .int) [.t 189, .c (.int .i64 14)],
 ox 191 .mv [.t 190],
 og 192 (.load true 3) [.t 25] 191 true,
 og 193 (.build [.int .i64 0, .int .i64 0, .int .i64 0] []) [] 191 true,
 og 194 (.eqAgg false [.i, .i, .i]) [.t 192, .t 193] 191 true,
 ox 195 .pick [.t 191, .t 194, .c (.bool false)],
 ox 196 .mv [.t 195],
 og 197 (.load true 32) [.t 26] 196 true,
 og 198 (.build (List.replicate 32 (.int .u8 0)) []) [] 196 true,
 og 199 (.eqAgg false (List.replicate 32 .i)) [.t 197, .t 198] 196 true,
 ox 200 .pick [.t 196, .t 199, .c (.bool false)],
 ox 201 .mv [.t 200],
 og 202 (.call 6) [] 201 true,
 ox 203 .pick [.t 201, .t 202, .c (.bool false)],
 ox 8 .mv [.t 203]])
 .ret))))))
def e4_3 : ACode :=
 (.seq
 (.ops [3, 9, 11, 12, 13, 14, 24, 124] [
 ox 117 .mv [.t 12],
 ox 118 .len [.t 117],
 ox 119 (.cmp .gtr) [.t 118, .c (.int .i64 0)],
 ox 120 .mv [.t 119],
 og 121 .mv [.t 3] 120 true,
 og 122 (.arith .rem) [.t 121, .c (.int .i64 2)] 120 true,
 og 123 (.eq false .int) [.t 122, .c (.int .i64 0)] 120 true,
 ox 124 .pick [.t 120, .t 123, .c (.bool false)]])
 (.cond (.t 124)
 (.ops [9, 11, 12, 13, 14, 24] [
 ox 125 .mv [.t 12],
 ox 126 .mv [.t 3],
 ox 127 (.arith .quo) [.t 126, .c (.int .i64 2)],
 ox 128 .mv [.t 12],
 ox 129 .len [.t 128],
 ox 130 (.call 20) [.t 127, .t 129],
 ox 131 (.idxAddr 1) [.t 125, .t 130],
 ox 132 (.load false 1) [.t 131],
 ox 24 .mv [.t 132]])
 .skip))
def e4_2 : ACode :=
 (.seq
 (.ops [0, 1, 2, 3, 9, 11, 12, 13, 14, 15, 17, 18] [
 ox 62 .mv [.t 9],
 ox 63 .mv [.t 11],
 ox 64 (.iface 39) [.t 63],
 ox 65 .mv [.t 16],
 ox 66 .mv [.t 0],
 ox 67 .mv [.t 15],
 ox 68 (.idxAddr 3) [.t 66, .t 67],
 ox 69 (.load true 3) [.t 68],
 ox 70 (.call 16) [.t 62, .t 64, .t 65, .t 69],
 ox 61 .mv [.t 70],
 ox 71 (.extract 0) [.t 61],
 ox 72 (.extract 1) [.t 61],
 ox 17 (.alloc (List.replicate 32 (.int .u8 0))) [],
 oy (.store 32) [.t 17, .t 71],
 ox 18 .mv [.t 72]])
 (.seq
 (.seq
 (.ops [0, 1, 2, 3, 9, 11, 12, 13, 14, 15, 17, 74] [
 ox 73 .mv [.t 18],
 ox 74 (.eq true .int) [.t 73, .c (.int .i64 0)]])
 (.cond (.t 74)
 (.exit 1)
 .skip))
 (.seq
 (.ops [0, 1, 2, 3, 9, 11, 12, 13, 14, 15, 17, 19] [
 ox 76 .mv [.t 9],
 ox 77 (.call 17) [.t 76, .c (.int .i64 0)],
 ox 75 .mv [.t 77],
 ox 78 (.extract 0) [.t 75],
 ox 79 (.extract 1) [.t 75],
 ox 19 .mv [.t 78],
 ox 20 .mv [.t 79]])
 (.seq
 (.ops [0, 1, 2, 3, 9, 11, 12, 13, 14, 15, 17, 19, 21, 22, 23] [
 ox 81 .mv [.t 9],
 ox 82 .mv [.t 11],
 ox 83 (.iface 39) [.t 82],
 ox 84 (.call 18) [.t 81, .t 83],
 ox 80 .mv [.t 84],
 ox 85 (.extract 0) [.t 80],
 ox 86 (.extract 1) [.t 80],
 ox 87 (.extract 2) [.t 80],
 ox 21 (.alloc [.int .i64 0, .int .i64 0, .int .i64 0]) [],
 ox 22 (.alloc (List.replicate 32 (.int .u8 0))) [],
 oy (.store 3) [.t 21, .t 85],
 oy (.store 32) [.t 22, .t 86],
 ox 23 .mv [.t 87]])
 (.seq
 (.seq
 (.drawn [0, 1, 2, 3, 9, 11, 12, 13, 14, 15, 17, 19, 21, 102] [
 ox 88 .mv [.t 23],
 ox 89 (.eq true .int) [.t 88, .c (.int .i64 0)],
 ox 90 .mv [.t 89],
 og 91 (.load true 3) [.t 21] 90 false,
 og 92 .mv [.t 0] 90 false,
 og 93 .mv [.t 15] 90 false,
 og 94 (.idxAddr 3) [.t 92, .t 93] 90 false,
 og 95 (.load true 3) [.t 94] 90 false,
 og 96 (.eqAgg true [.i, .i, .i]) [.t 91, .t 95] 90 false,
 ox 97 .pick [.t 90, .c (.bool true), .t 96],
 ox 98 .mv [.t 97],
 og 99 (.load true 32) [.t 22] 98 false,
 og 100 (.load true 32) [.t 17] 98 false,
 og 101 (.eqAgg true (List.replicate 32 .i)) [.t 99, .t 100] 98 false,
 ox 102 .pick [.t 98, .c (.bool true), .t 101]])
 (.cond (.t 102)
 (.seq
 (.ops [8] [
 ox 8 .mv [.c (.bool false)]])
 .ret)
 .skip))
 (.seq
 (.ops [0, 1, 2, 3, 9, 11, 12, 13, 14, 15, 17, 21] [
 ox 103 .mv [.t 12],
 ox 104 .mv [.t 19],
 ox 105 (.mkSl 1 [.nils] [(0, 1)]) [.t 104],
 ox 106 (.append 1 24) [.t 103, .t 105],
 ox 12 .mv [.t 106]])
 (.seq
 (.ops [0, 1, 2, 3, 9, 11, 12, 13, 14, 15, 17] [
 ox 107 .mv [.t 13],
 ox 108 (.load true 3) [.t 21],
 ox 109 (.mkSl 1 [.int .i64 0, .int .i64 0, .int .i64 0] [(0, 3)]) [.t 108],
 ox 110 (.append 3 24) [.t 107, .t 109],
 ox 13 .mv [.t 110]])
 (.ops [0, 1, 2, 3, 9, 11, 12, 13, 14, 15] [
 ox 111 .mv [.t 14],
 ox 112 (.load true 32) [.t 17],
 ox 113 (.mkSl 1 (List.replicate 32 (.int .u8 0)) [(0, 32)]) [.t 112],
 ox 114 (.append 32 32) [.t 111, .t 113],
 ox 14 .mv [.t 114]]))))))))
def e4_1 : ACode :=
 (.seq
 (.ops [0, 1, 2, 3, 9, 11, 12, 13, 14, 15, 16, 56] [
 ox 53 .mv [.t 15],
 ox 54 .mv [.t 1],
 ox 55 .len [.t 54],
 ox 56 (.cmp .lss) [.t 53, .t 55]])
 (.cond (.t 56)
 (.ops [0, 1, 2, 3, 9, 11, 12, 13, 14, 15, 16] [
 ox 57 .mv [.t 1],
 ox 58 .mv [.t 15],
 ox 59 (.idxAddr 1) [.t 57, .t 58],
 ox 60 (.load false 1) [.t 59],
 ox 16 .mv [.t 60]])
 .skip))
theorem s4 : c4 =
 (.seq
 (.ops [0, 1, 2, 3] [
 ox 8 .mv [.c (.bool false)]])
 (.seq
 (.ops [0, 1, 2, 3, 9, 10] [
 ox 30 (.call 14) [.c (.int .i64 5)],
 ox 29 .mv [.t 30],
 ox 31 (.extract 0) [.t 29],
 ox 32 (.extract 1) [.t 29],
 ox 9 .mv [.t 31],
 ox 10 .mv [.t 32]])
 (.seq
 (.ops [0, 1, 2, 3, 9, 10, 11] [
 ox 33 (.call 15) [],
 ox 11 .mv [.t 33]])
 (.seq
 (.seq
 (.ops [0, 1, 2, 3, 9, 11, 40] [
 ox 34 .mv [.t 10],
 ox 35 (.eq true .int) [.t 34, .c (.int .i64 0)],
 ox 36 .mv [.t 35],
 og 37 .mv [.t 2] 36 false,
 og 38 .len [.t 37] 36 false,
 og 39 (.cmp .gtr) [.t 38, .c (.int .i64 2048)] 36 false,
 ox 40 .pick [.t 36, .c (.bool true), .t 39]])
 (.cond (.t 40)
 (.seq
 (.ops [8] [
 ox 41 (.call 6) [],
 ox 8 .mv [.t 41]])
 .ret)
 .skip))
 (.seq
 (.ops [0, 1, 2, 3, 9, 11, 12] [
 ox 12 .mv [.c .nils]])
 (.seq
 (.ops [0, 1, 2, 3, 9, 11, 12, 13] [
 ox 13 .mv [.c .nils]])
 (.seq
 (.ops [0, 1, 2, 3, 9, 11, 12, 13, 14] [
 ox 14 .mv [.c .nils]])
 (.seq
 (.seq
 (.ops [0, 1, 2, 3, 9, 11, 12, 13, 14, 15] [
 ox 15 .mv [.c (.int .i64 0)]])
 (.block 0
 (.loop [0, 1, 2, 3, 9, 11, 12, 13, 14, 15]
 (.seq
 (.seq
 (.ops [0, 1, 2, 3, 9, 11, 12, 13, 14, 15, 49] [
 ox 42 .mv [.t 15],
 ox 43 .mv [.t 0],
 ox 44 .len [.t 43],
 ox 45 (.cmp .lss) [.t 42, .t 44],
 ox 46 .mv [.t 45],
 og 47 .mv [.t 15] 46 true,
 og 48 (.cmp .lss) [.t 47, .c (.int .i64 20)] 46 true,
 ox 49 .pick [.t 46, .t 48, .c (.bool false)]])
 (.cond (.t 49)
 .skip
 (.exit 0)))
 (.seq
 (.block 1
 (.seq
 (.ops [0, 1, 2, 3, 9, 11, 12, 13, 14, 15, 16] [
 ox 52 .mv [.t 15],
 ox 16 .mv [.t 52]])
 (.seq e4_1 e4_2)))
 (.ops [0, 1, 2, 3, 9, 11, 12, 13, 14, 15] [
 ox 50 .mv [.t 15],
 ox 51 (.arith .add) [.t 50, .c (.int .i64 1)],
 ox 15 .mv [.t 51]]))))))
 (.seq
 (.ops [3, 9, 11, 12, 13, 14, 24] [
 ox 115 .mv [.t 2],
 ox 116 (.call 19) [.t 115],
 ox 24 .mv [.t 116]])
 (.seq e4_3 e4_4)))))))))) := rfl
/-- rill/rilllaw15.SuperKnown -/
def d5_2 : ACode :=
 (.seq
 (.ops [1, 6] [
 ox 35 .mv [.t 1],
 ox 36 (.slice 1 false true false) [.t 35, .c (.int .i64 23)],
 ox 37 (.call 10) [.t 36],
 ox 34 .mv [.t 37],
 ox 38 (.extract 0) [.t 34],
 ox 39 (.extract 1) [.t 34],
 ox 5 (.alloc [.int .i64 0, .int .i64 0, .int .i64 0]) [],
 oy (.store 3) [.t 5, .t 38],
 ox 6 .mv [.t 39]])
 (.seq
 (.ops [1, 6, 8] [
 ox 41 .mv [.t 1],
 ox 42 (.call 19) [.t 41],
 ox 43 (.mkSl 1 [.int .u8 0] [(0, 1)]) [.c (.int .u8 0)],
 ox 44 (.append 1 1) [.t 42, .t 43],
 ox 45 (.call 10) [.t 44],
 ox 40 .mv [.t 45],
 ox 46 (.extract 0) [.t 40],
 ox 47 (.extract 1) [.t 40],
 ox 7 (.alloc [.int .i64 0, .int .i64 0, .int .i64 0]) [],
 oy (.store 3) [.t 7, .t 46],
 ox 8 .mv [.t 47]])
 (.seq
 (.ops [1, 6, 8, 10] [
 ox 49 (.mkSlice [.int .u8 0] 1) [.c (.int .i64 24), .c (.int .i64 24)],
 ox 50 (.call 10) [.t 49],
 ox 48 .mv [.t 50],
 ox 51 (.extract 0) [.t 48],
 ox 52 (.extract 1) [.t 48],
 ox 9 (.alloc [.int .i64 0, .int .i64 0, .int .i64 0]) [],
 oy (.store 3) [.t 9, .t 51],
 ox 10 .mv [.t 52]])
 (.seq
 (.ops [6, 8, 10, 11, 12] [
 ox 54 .mv [.t 1],
 ox 55 (.call 10) [.t 54],
 ox 53 .mv [.t 55],
 ox 56 (.extract 0) [.t 53],
 ox 57 (.extract 1) [.t 53],
 ox 11 (.alloc [.int .i64 0, .int .i64 0, .int .i64 0]) [],
 oy (.store 3) [.t 11, .t 56],
 ox 12 .mv [.t 57]])
 (.seq
 (.drawn [0] [
 ox 58 .mv [.t 6],
 ox 59 (.eq false .int) [.t 58, .c (.int .i64 4)],
 ox 60 .mv [.t 59],
 og 61 .mv [.t 8] 60 true,
 og 62 (.eq false .int) [.t 61, .c (.int .i64 3)] 60 true,
 ox 63 .pick [.t 60, .t 62, .c (.bool false)],
 ox 64 .mv [.t 63],
 og 65 .mv [.t 10] 64 true,
 og 66 (.eq false .int) [.t 65, .c (.int .i64 15)] 64 true,
 ox 67 .pick [.t 64, .t 66, .c (.bool false)],
 ox 68 .mv [.t 67],
 og 69 .mv [.t 12] 68 true,
 og 70 (.eq false .int) [.t 69, .c (.int .i64 0)] 68 true,
 ox 71 .pick [.t 68, .t 70, .c (.bool false)],
 ox 72 .mv [.t 71],
 oh 73 (.load true 3) [.t 11] 72 true 0 1,
 oh 74 (.call 22) [] 72 true 0 1,
 oh 75 (.eqAgg false [.i, .i, .i]) [.t 73, .t 74] 72 true 1 1,
 od 76 .pick [.t 72, .t 75, .c (.bool false)] 1 1,
 od 77 .mv [.t 76] 1 1,
 oh 78 (.call 22) [] 77 true 1 2,
 oh 79 (.build [.int .i64 0, .int .i64 0, .int .i64 0] [(0, 1), (1, 1), (2, 1)]) [.c (.int .i64 32), .c (.int .i64 64), .c (.int .i64 64)] 77 true 1 2,
 oh 80 (.mkSl 2 [.int .i64 0, .int .i64 0, .int .i64 0, .int .i64 0, .int .i64 0, .int .i64 0] [(0, 3), (3, 3)]) [.t 78, .t 79] 77 true 2 2,
 oh 81 (.call 4) [.t 80, .c .nils, .c .nils, .c (.int .i64 0)] 77 true 2 3,
 od 82 .pick [.t 77, .t 81, .c (.bool false)] 3 3,
 od 83 .mv [.t 82] 3 3,
 oh 84 (.call 22) [] 83 true 3 4,
 oh 85 (.mkSl 1 [.int .i64 0, .int .i64 0, .int .i64 0] [(0, 3)]) [.t 84] 83 true 4 4,
 oh 86 (.mkSl 1 [.int .i64 0] [(0, 1)]) [.c (.int .i64 (-1))] 83 true 3 4,
 oh 87 (.mkSl 1 [.int .u8 0] [(0, 1)]) [.c (.int .u8 1)] 83 true 3 4,
 oh 88 (.call 4) [.t 85, .t 86, .t 87, .c (.int .i64 1)] 83 true 4 5,
 od 89 .pick [.t 83, .t 88, .c (.bool false)] 5 5,
 od 90 .mv [.t 89] 5 5,
 oh 91 (.call 6) [] 90 true 5 6,
 od 92 .pick [.t 90, .t 91, .c (.bool false)] 6 6,
 od 0 .mv [.t 92] 6 6])
 .ret)))))
def d5_1 : ACode :=
 (.seq
 (.ops [1, 33] [
 ox 23 .mv [.t 2],
 ox 24 (.eq true .int) [.t 23, .c (.int .i64 0)],
 ox 25 .mv [.t 24],
 og 26 .mv [.t 1] 25 false,
 og 27 .len [.t 26] 25 false,
 og 28 (.eq true .int) [.t 27, .c (.int .i64 24)] 25 false,
 ox 29 .pick [.t 25, .c (.bool true), .t 28],
 ox 30 .mv [.t 29],
 og 31 .mv [.t 4] 30 false,
 og 32 (.eq true .int) [.t 31, .c (.int .i64 15)] 30 false,
 ox 33 .pick [.t 30, .c (.bool true), .t 32]])
 (.cond (.t 33)
 (.seq
 (.ops [0] [
 ox 0 .mv [.c (.bool false)]])
 .ret)
 .skip))
theorem q5 : c5 =
 (.seq
 (.ops [] [
 ox 0 .mv [.c (.bool false)]])
 (.seq
 (.ops [1, 2] [
 ox 14 (.call 22) [],
 ox 15 (.call 8) [.t 14],
 ox 13 .mv [.t 15],
 ox 16 (.extract 0) [.t 13],
 ox 17 (.extract 1) [.t 13],
 ox 1 .mv [.t 16],
 ox 2 .mv [.t 17]])
 (.seq
 (.ops [1, 2, 4] [
 ox 19 (.build [.int .i64 0, .int .i64 0, .int .i64 0] [(0, 1), (1, 1), (2, 1)]) [.c (.int .i64 1), .c (.int .i64 1), .c (.int .i64 1)],
 ox 20 (.call 8) [.t 19],
 ox 18 .mv [.t 20],
 ox 21 (.extract 0) [.t 18],
 ox 22 (.extract 1) [.t 18],
 ox 3 .mv [.t 21],
 ox 4 .mv [.t 22]])
 (.seq d5_1 d5_2)))) := rfl
/-- rill/super.Get -/
def c10_2 : ACode :=
 (.seq
 (.seq
 (.ops [2, 5, 6, 23] [
 ox 22 .mv [.t 6],
 ox 23 (.eq true .int) [.t 22, .c (.int .i64 0)]])
 (.cond (.t 23)
 (.seq
 (.ops [2, 3] [
 ox 24 (.build [.int .i64 0, .int .i64 0, .int .i64 0] []) [],
 ox 25 .mv [.t 6],
 oy (.store 3) [.t 2, .t 24],
 ox 3 .mv [.t 25]])
 .ret)
 .skip))
 (.seq
 (.ops [2, 3] [
 ox 26 (.load true 3) [.t 5],
 oy (.store 3) [.t 2, .t 26],
 ox 3 .mv [.c (.int .i64 0)]])
 .ret))
def c10_1 : ACode :=
 (.seq
 (.ops [2, 5, 6, 19] [
 ox 18 .mv [.t 6],
 ox 19 (.eq false .int) [.t 18, .c (.int .i64 0)]])
 (.cond (.t 19)
 (.ops [2, 5, 6] [
 ox 20 (.load true 3) [.t 5],
 ox 21 (.call 23) [.t 20],
 ox 6 .mv [.t 21]])
 .skip))
theorem p10 : c10 =
 (.seq
 (.ops [0, 2] [
 ox 2 (.alloc [.int .i64 0, .int .i64 0, .int .i64 0]) [],
 ox 3 .mv [.c (.int .i64 0)]])
 (.seq
 (.ops [2, 4] [
 ox 7 .mv [.t 0],
 ox 8 (.call 27) [.t 7],
 ox 4 .mv [.t 8]])
 (.seq
 (.ops [2, 4, 5] [
 ox 9 .mv [.t 4],
 ox 10 (.call 28) [.t 9],
 ox 11 .mv [.t 4],
 ox 12 (.call 28) [.t 11],
 ox 13 .mv [.t 4],
 ox 14 (.call 28) [.t 13],
 ox 15 (.build [.int .i64 0, .int .i64 0, .int .i64 0] [(0, 1), (1, 1), (2, 1)]) [.t 10, .t 12, .t 14],
 ox 5 (.alloc [.int .i64 0, .int .i64 0, .int .i64 0]) [],
 oy (.store 3) [.t 5, .t 15]])
 (.seq
 (.ops [2, 5, 6] [
 ox 16 .mv [.t 4],
 ox 17 (.call 29) [.t 16],
 ox 6 .mv [.t 17]])
 (.seq c10_1 c10_2))))) := rfl
/-- (*rill/names.Names).Seal -/
def c72_2 : ACode :=
 (.seq
 (.drawn [10] [
 od 61 .mv [.t 4] 0 1,
 od 62 (.mkSlice [.int .u8 0] 1) [.c (.int .i64 24), .c (.int .i64 24)] 0 1,
 ox 63 .mv [.t 12],
 od 64 (.call 76) [.t 63] 0 1,
 od 65 (.mkSl 3 [.nils, .nils, .nils] [(0, 1), (1, 1), (2, 1)]) [.t 61, .t 62, .t 64] 1 1,
 od 66 (.call 75) [.t 65] 1 2,
 od 10 .mv [.t 66] 2 2])
 .ret)
def c72_1 : ACode :=
 (.seq
 (.ops [0, 4, 11, 12, 39] [
 ox 38 .mv [.t 13],
 ox 39 .not [.t 38]])
 (.cond (.t 39)
 (.seq
 (.drawn [0, 4, 11] [
 od 40 .mv [.t 0] 0 1,
 ox 41 .mv [.t 0],
 ox 42 .nilCheck [.t 41],
 ox 43 (.fieldAddr 1) [.t 42],
 ox 44 (.load false 1) [.t 43],
 ox 45 (.load true 4) [.t 11],
 ox 46 (.mkSl 1 [.int .i64 0, .int .i64 0, .str ⟨#[]⟩, .str ⟨#[]⟩] [(0, 4)]) [.t 45],
 od 47 (.append 4 48) [.t 44, .t 46] 0 1,
 od 48 .nilCheck [.t 40] 1 1,
 od 49 (.fieldAddr 1) [.t 48] 1 1,
 oe (.store 1) [.t 49, .t 47] 1 2])
 (.seq
 (.ops [0, 4, 11, 12] [
 ox 50 .mv [.t 0],
 ox 51 .nilCheck [.t 50],
 ox 52 (.fieldAddr 1) [.t 51],
 ox 53 (.load false 1) [.t 52],
 ox 54 .len [.t 53],
 ox 12 .mv [.t 54]])
 (.drawn [4, 12] [
 ox 55 .mv [.t 0],
 ox 56 .nilCheck [.t 55],
 ox 57 (.fieldAddr 0) [.t 56],
 ox 58 (.load false 1) [.t 57],
 ox 59 (.load true 4) [.t 11],
 ox 60 .mv [.t 12],
 oe (.mapSet (.agg [.i, .i, .s, .s])) [.t 58, .t 59, .t 60] 0 1])))
 .skip))
theorem p72 : c72 =
 (.seq
 (.ops [0, 1, 2, 3, 4] [
 ox 10 .mv [.c .nils]])
 (.seq
 (.seq
 (.ops [0, 1, 2, 3, 4, 21] [
 ox 14 .mv [.t 1],
 ox 15 (.call 77) [.t 14],
 ox 16 .not [.t 15],
 ox 17 .mv [.t 16],
 og 18 .mv [.t 2] 17 false,
 og 19 (.call 77) [.t 18] 17 false,
 og 20 .not [.t 19] 17 false,
 ox 21 .pick [.t 17, .c (.bool true), .t 20]])
 (.cond (.t 21)
 (.seq
 (.ops [10] [
 ox 10 .mv [.c .nils]])
 .ret)
 .skip))
 (.seq
 (.ops [0, 4, 11] [
 ox 22 .mv [.t 1],
 ox 23 .mv [.t 2],
 ox 24 .mv [.t 3],
 ox 25 .b2s [.t 24],
 ox 26 .mv [.t 4],
 ox 27 .b2s [.t 26],
 ox 28 (.build [.int .i64 0, .int .i64 0, .str ⟨#[]⟩, .str ⟨#[]⟩] [(0, 1), (1, 1), (2, 1), (3, 1)]) [.t 22, .t 23, .t 25, .t 27],
 ox 11 (.alloc [.int .i64 0, .int .i64 0, .str ⟨#[]⟩, .str ⟨#[]⟩]) [],
 oy (.store 4) [.t 11, .t 28]])
 (.seq
 (.drawn [0, 4, 11, 12, 13] [
 ox 30 .mv [.t 0],
 ox 31 .nilCheck [.t 30],
 ox 32 (.fieldAddr 0) [.t 31],
 ox 33 (.load false 1) [.t 32],
 ox 34 (.load true 4) [.t 11],
 ox 35 (.lookup (.agg [.i, .i, .s, .s]) (.int .i64 0) true) [.t 33, .t 34],
 ox 29 .mv [.t 35],
 ox 36 (.extract 0) [.t 29],
 ox 37 (.extract 1) [.t 29],
 ox 12 .mv [.t 36],
 ox 13 .mv [.t 37]])
 (.seq c72_1 c72_2))))) := rfl
/-- (*rill/names.Names).Sum -/
def c73_2 : ACode :=
 (.seq
 (.ops [4, 5, 7] [
 ox 7 (.alloc (List.replicate 32 (.int .u8 0))) []])
 (.seq
 (.seq
 (.ops [4, 5, 7, 34] [
 ox 34 .mv [.c (.int .i64 0)]])
 (.block 0
 (.loop [4, 5, 7, 34]
 (.seq
 (.ops [4, 5, 7, 34, 35] [
 ox 35 (.cmp .lss) [.t 34, .c (.int .i64 32)]])
 (.seq
 (.cond (.t 35)
 .skip
 (.exit 0))
 (.seq
 (.block 1
 (.seq
 (.ops [4, 5, 7, 8, 34] [
 ox 36 .mv [.t 34],
 ox 8 .mv [.t 36]])
 (.ops [4, 5, 7, 34] [
 ox 37 .mv [.t 8],
 ox 38 (.idxAddrArr 32 1) [.t 7, .t 37],
 oy (.store 1) [.t 38, .c (.int .u8 1)]])))
 (.ops [4, 5, 7, 34] [
 ox 39 (.arith .add) [.t 34, .c (.int .i64 1)],
 ox 34 .mv [.t 39]])))))))
 (.seq
 (.drawn [4, 7] [
 od 40 (.sliceArr 32 1 true false false) [.t 7, .c (.int .i64 24)] 0 1,
 ox 41 .mv [.t 5],
 od 42 (.call 76) [.t 41] 0 1,
 od 43 (.copy 1) [.t 40, .t 42] 1 2])
 (.seq
 (.ops [4] [
 ox 44 (.load true 32) [.t 7],
 oy (.store 32) [.t 4, .t 44]])
 .ret))))
def c73_1 : ACode :=
 (.seq
 (.ops [0, 1, 4, 5, 20] [
 ox 19 .mv [.t 6],
 ox 20 .not [.t 19]])
 (.cond (.t 20)
 (.seq
 (.ops [0, 1, 4, 5] [
 ox 21 .mv [.t 0],
 ox 22 .nilCheck [.t 21],
 ox 23 (.fieldAddr 2) [.t 22],
 ox 24 (.load false 1) [.t 23],
 ox 25 .lenMap [.t 24],
 ox 26 (.arith .add) [.t 25, .c (.int .i64 1)],
 ox 5 .mv [.t 26]])
 (.drawn [4, 5] [
 ox 27 .mv [.t 0],
 ox 28 .nilCheck [.t 27],
 ox 29 (.fieldAddr 2) [.t 28],
 ox 30 (.load false 1) [.t 29],
 ox 31 .mv [.t 1],
 ox 32 .b2s [.t 31],
 ox 33 .mv [.t 5],
 oe (.mapSet (.one .s)) [.t 30, .t 32, .t 33] 0 1]))
 .skip))
theorem p73 : c73 =
 (.seq
 (.ops [0, 1, 4] [
 ox 4 (.alloc (List.replicate 32 (.int .u8 0))) []])
 (.seq
 (.drawn [0, 1, 4, 5, 6] [
 ox 10 .mv [.t 0],
 ox 11 .nilCheck [.t 10],
 ox 12 (.fieldAddr 2) [.t 11],
 ox 13 (.load false 1) [.t 12],
 ox 14 .mv [.t 1],
 ox 15 .b2s [.t 14],
 ox 16 (.lookup (.one .s) (.int .i64 0) true) [.t 13, .t 15],
 ox 9 .mv [.t 16],
 ox 17 (.extract 0) [.t 9],
 ox 18 (.extract 1) [.t 9],
 ox 5 .mv [.t 17],
 ox 6 .mv [.t 18]])
 (.seq c73_1 c73_2))) := rfl
end Go.Proofs.Ytoegmnnecanhfaa
end
section
/- What the statements of all layers share: lists of bytes. -/
namespace Go.Proofs.Ytoegmnnecanhfaa
open Go Go.Adm
set_option linter.unusedSimpArgs false
set_option maxRecDepth 100000
def lent (l : List B8) : List B8 := tab (l.length + 5) fun j => if j < l.length then gb l j else 165#8
theorem lent_len (l : List B8) : (lent l).length = l.length + 5 := tab_len _ _
theorem ans_samebytes {m : Mem} {x y : AV} {a b : List B8} (hx : RdB m x a) (hy : RdB m y b) (hl : a.length < 1152921504606846976) : Ans Try.prog 12 [x, y] m fun r m' => r = .bool (a == b) ∧ m' = m := by
  refine ans_ret mixed ok12 ?_
  by_cases h : a.length = b.length
  · have h' : ((a.length : Int) == (b.length : Int)) = true := by rw [h]; simp
    simp -implicitDefEqProofs (disch := (first | omega | (simp only [lenB, lent_len] <;> omega) | fail)) only [admQ, lenB, lent_len, aFill, AK.cls, implies_true, if_true, if_false, seval, -List.reduceReplicate, c12, r12, hx.len, hy.len, h']
    refine LoopW.on (fun i : Nat => [(0, x), (1, y), (5, .int .i64 i)]) (fun i => a.length - i) (fun i m' => m' = m ∧ i ≤ a.length ∧ ∀ j, j < i → gb a j = gb b j) ?_ 0 _ _ rfl ⟨rfl, by omega, fun j hj => by omega⟩
    rintro i _ X ⟨rfl, hi, hj⟩ hX
    by_cases hlt : i < a.length
    · obtain ⟨b1, o1, cap1, s1, c1, rfl, hr1, hg1, hl1, hc1, hs1, ht1⟩ := hx.cons hlt
      obtain ⟨b2, o2, cap2, s2, c2, rfl, hr2, hg2, hl2, hc2, hs2, ht2⟩ := hy.cons (by omega : i < b.length)
      have e1 := hg1 i hlt
      have e2 := hg2 i (by omega)
      cases he : gb a i == gb b i
      · have hne : (a == b) = false := by
          rw [beq_eq_false_iff_ne]; rintro rfl; simp at he
        simp -implicitDefEqProofs (disch := (first | omega | (simp only [lenB, lent_len] <;> omega) | fail)) only [admQ, lenB, lent_len, aFill, AK.cls, implies_true, if_true, if_false, seval, -List.reduceReplicate, hr1, hr2, e1, e2, he, hne]
      · simp -implicitDefEqProofs (disch := (first | omega | (simp only [lenB, lent_len] <;> omega) | fail)) only [admQ, lenB, lent_len, aFill, AK.cls, implies_true, if_true, if_false, seval, -List.reduceReplicate, hr1, hr2, e1, e2, he]
        refine hX (i + 1) _ _ rfl (by omega) ⟨rfl, by omega, fun j hj2 => ?_⟩
        by_cases hji : j = i
        · subst hji; simpa using he
        · exact hj j (by omega)
    · have he : (a == b) = true := by rw [beq_iff_eq]; exact gb_ext h fun j hj2 => hj j (by omega)
      simp -implicitDefEqProofs (disch := (first | omega | (simp only [lenB, lent_len] <;> omega) | fail)) only [admQ, lenB, lent_len, aFill, AK.cls, implies_true, if_true, if_false, seval, -List.reduceReplicate, hx.len, he]
  · have h' : ((a.length : Int) == (b.length : Int)) = false := by rw [beq_eq_false_iff_ne]; omega
    have he : (a == b) = false := by rw [beq_eq_false_iff_ne]; rintro rfl; exact h rfl
    simp -implicitDefEqProofs (disch := (first | omega | (simp only [lenB, lent_len] <;> omega) | fail)) only [admQ, lenB, lent_len, aFill, AK.cls, implies_true, if_true, if_false, seval, -List.reduceReplicate, c12, r12, hx.len, hy.len, h', he]
end Go.Proofs.Ytoegmnnecanhfaa
end
section
/- Names: numbers as bytes; the library's lists of bytes. -/
namespace Go.Proofs.Ytoegmnnecanhfaa
open Go Go.Adm
set_option linter.unusedSimpArgs false
set_option linter.unusedVariables false
set_option maxRecDepth 100000
theorem nw64 {k : Nat} (h : k < 18446744073709551616) : IntKind.u64.wrap (k : Int) = k := by
  rw [wr_u64, BitVec.ofInt_natCast, BitVec.toNat_ofNat, Nat.mod_eq_of_lt h]
/-- A number's eight bytes. -/
def numB (v : Nat) : List B8 := lowB v 8
theorem numB_len (v : Nat) : (numB v).length = 8 := lowB_len _ _
theorem ans_nnumber (v : Nat) (hv : v < 4611686018427387904) (m : Mem) : Ans Try.prog 76 [.int .i64 v] m fun r m' => ∃ p, r = .sl p 0 8 8 0 ∧ Kept [] m m' ∧ m.length ≤ p ∧ own m' p = some (bys (numB v)) := by
  refine ans_ret mixed ok76 ?_
  simp -implicitDefEqProofs (disch := (first | omega | (simp only [lenB, lowB_len, numB_len] <;> omega) | fail)) only [admQ, lenB, lowB_len, numB_len, aFill, AK.cls, implies_true, if_true, if_false, seval, -List.reduceReplicate, c76, r76]
  have hr : rep 8 [AV.int .u8 0] = bys (upTo 8 (fun i => byV v (7 - i)) (fun _ => 0#8) 0) := by rw [upTo_zero, tab_const]; rfl
  simp -implicitDefEqProofs (disch := (first | omega | (simp only [lenB, lowB_len, numB_len] <;> omega) | fail)) only [admQ, lenB, lowB_len, numB_len, aFill, AK.cls, implies_true, if_true, if_false, seval, -List.reduceReplicate, hr]
  refine LoopW.on (fun i : Nat => [(0, .int .i64 v), (3, .sl m.length 0 8 8 0), (7, .int .i64 8), (8, .int .i64 i)]) (fun i => 8 - i)
    (fun i M => i ≤ 8 ∧ M = m ++ [.row (bys (upTo 8 (fun i => byV v (7 - i)) (fun _ => 0#8) i)) false]) ?_ 0 _ _ rfl ⟨by omega, rfl⟩
  rintro i M X ⟨hi, rfl⟩ hX
  by_cases hlt : i < 8
  · have hw : IntKind.u8.wrap ((v >>> (8 * (7 - i)) : Nat) : Int) = ((byV v (7 - i)).toNat : Int) := wrap_u8 _
    have hu := upTo_set (n := 8) (i := i) (f := fun i => byV v (7 - i)) (g := fun _ => 0#8)
    simp -implicitDefEqProofs (disch := (first | omega | (simp only [lenB, lowB_len, numB_len] <;> omega) | fail)) only [admQ, lenB, lowB_len, numB_len, aFill, AK.cls, implies_true, if_true, if_false, seval, -List.reduceReplicate, fdiv_nat, hw, @nw64, splice_byte, hu]
    exact hX (i + 1) _ _ rfl (by omega) ⟨by omega, rfl⟩
  · obtain rfl : i = 8 := by omega
    rw [upTo_all]
    simp -implicitDefEqProofs (disch := (first | omega | (simp only [lenB, lowB_len, numB_len] <;> omega) | fail)) only [admQ, lenB, lowB_len, numB_len, aFill, AK.cls, implies_true, if_true, if_false, seval, -List.reduceReplicate]
    exact ⟨_, rfl, .app _ _ _, Nat.le_refl _, by rw [own_app_at0]; rfl⟩
/-- May an epoch or a number be? -/
def within (e : Int) : Prop := 0 ≤ e ∧ e ≤ 1099511627776
instance (e : Int) : Decidable (within e) := by unfold within; infer_instance
theorem ans_nwithin (e : Int) (m : Mem) : Ans Try.prog 77 [.int .i64 e] m fun r m' => r = .bool (decide (within e)) ∧ m' = m := by
  refine ans_ret mixed ok77 ?_
  by_cases h1 : e ≥ 0
  · by_cases h2 : e ≤ 1099511627776
    · simp -implicitDefEqProofs (disch := (first | omega | (simp only [lenB, lowB_len, numB_len] <;> omega) | fail)) only [admQ, lenB, lowB_len, numB_len, aFill, AK.cls, implies_true, if_true, if_false, seval, -List.reduceReplicate, c77, r77, dec_t h1, dec_t h2, dec_t (show within e from ⟨h1, h2⟩)]
    · simp -implicitDefEqProofs (disch := (first | omega | (simp only [lenB, lowB_len, numB_len] <;> omega) | fail)) only [admQ, lenB, lowB_len, numB_len, aFill, AK.cls, implies_true, if_true, if_false, seval, -List.reduceReplicate, c77, r77, dec_t h1, dec_f h2, dec_f (show ¬ within e from fun h => h2 h.2)]
  · simp -implicitDefEqProofs (disch := (first | omega | (simp only [lenB, lowB_len, numB_len] <;> omega) | fail)) only [admQ, lenB, lowB_len, numB_len, aFill, AK.cls, implies_true, if_true, if_false, seval, -List.reduceReplicate, c77, r77, dec_f h1, dec_f (show ¬ within e from fun h => h1 h.1)]
theorem ans_slgrow (n : Nat) (hn : n ≤ 1000000000) (m : Mem) : Ans Try.prog 78 [.nils, .int .i64 n] m fun r m' => Kept [] m m' ∧ Room m.length m' r [] n := by
  refine ans_ret mixed ok78 ?_
  by_cases h0 : n = 0
  · subst h0
    simp -implicitDefEqProofs (disch := (first | omega | (simp only [lenB, lowB_len, numB_len] <;> omega) | fail)) only [admQ, lenB, lowB_len, numB_len, aFill, AK.cls, implies_true, if_true, if_false, seval, -List.reduceReplicate, c78, r78, mapR, pCap]
    exact ⟨.refl _ _, .inl ⟨rfl, rfl, rfl⟩⟩
  · simp -implicitDefEqProofs (disch := (first | omega | (simp only [lenB, lowB_len, numB_len] <;> omega) | fail)) only [admQ, lenB, lowB_len, numB_len, aFill, AK.cls, implies_true, if_true, if_false, seval, -List.reduceReplicate, c78, r78, mapR, pCap, aAppendZ]
    refine ⟨.app _ _ _, .inr ⟨by omega, m.length, rfl, ?_, Nat.le_refl _, by simp⟩⟩
    rw [own_app_at0]
    have hr : rep n [AV.int .u8 0] = bys (List.replicate n 0#8) := by rw [← bys_rep]; simp [rep]
    simp [own_c0, hr]
theorem ans_slconcat {m : Mem} {p k : Nat} {xs : List AV} {ls : List (List B8)} (hp : rowOf m p = some xs) (hr : RdL m xs ls) (hk : ls.length = k) (hb : k ≤ 1000 ∧ ls.flatten.length ≤ 900000000) :
    Ans Try.prog 75 [.sl p 0 k k 0] m fun r m' => Kept [] m m' ∧ GrB m.length m' r ls.flatten := by
  refine ans_ret mixed ok75 ?_
  simp -implicitDefEqProofs (disch := (first | omega | (simp only [lenB, lowB_len, numB_len] <;> omega) | fail)) only [admQ, lenB, lowB_len, numB_len, aFill, AK.cls, implies_true, if_true, if_false, seval, -List.reduceReplicate, c75, r75]
  refine LoopW.on (fun i : Nat => [(0, .sl p 0 k k 0), (3, .int .i64 ((ls.take i).flatten.length : Nat)), (9, .sl p 0 k k 0), (10, .int .i64 k), (11, .int .i64 i)]) (fun i => k - i) (fun i M => i ≤ k ∧ M = m) ?_ 0 _ _ rfl ⟨by omega, rfl⟩
  rintro i M X ⟨hi, rfl⟩ hX
  by_cases hlt : i < k
  · obtain ⟨l, hl⟩ : ∃ l, ls[i]? = some l := ⟨_, List.getElem?_eq_getElem (by omega)⟩
    obtain ⟨y, hy, hyr⟩ := hr.2 i l hl
    have hcat := flat_take hl
    have h1 := flat_len (ls := ls) (i + 1)
    rw [hcat, List.length_append] at h1
    simp -implicitDefEqProofs (disch := (first | omega | (simp only [lenB, lowB_len, numB_len] <;> omega) | fail)) only [admQ, lenB, lowB_len, numB_len, aFill, AK.cls, implies_true, if_true, if_false, seval, -List.reduceReplicate, hp, hy, hyr.len]
    refine hX (i + 1) _ _ ?_ (by omega) ⟨by omega, rfl⟩
    rw [hcat, List.length_append]
    rfl
  · obtain rfl : i = k := by omega
    rw [List.take_of_length_le (by omega)]
    simp -implicitDefEqProofs (disch := (first | omega | (simp only [lenB, lowB_len, numB_len] <;> omega) | fail)) only [admQ, lenB, lowB_len, numB_len, aFill, AK.cls, implies_true, if_true, if_false, seval, -List.reduceReplicate]
    clear hX X
    refine (ans_slgrow _ (by omega) _).mono ?_
    rintro z m1 ⟨k1, g1⟩
    simp -implicitDefEqProofs (disch := (first | omega | (simp only [lenB, lowB_len, numB_len] <;> omega) | fail)) only [admQ, lenB, lowB_len, numB_len, aFill, AK.cls, implies_true, if_true, if_false, seval, -List.reduceReplicate]
    refine LoopW.on (fun t : Nat × AV => [(6, t.2), (25, .sl p 0 i i 0), (26, .int .i64 i), (27, .int .i64 t.1)]) (fun t => i - t.1) (fun t N => t.1 ≤ i ∧ Kept [] M N ∧ Room M.length N t.2 (ls.take t.1).flatten ls.flatten.length) ?_ (0, z) _ _ rfl ⟨by simp, k1, g1⟩
    clear k1 g1 hlt hi
    rintro ⟨j, v⟩ N X ⟨hj, kk, g⟩ hX
    change Room M.length N v (ls.take j).flatten _ at g
    simp only at hj
    by_cases hlt : j < i
    · obtain ⟨l, hl⟩ : ∃ l, ls[j]? = some l := ⟨_, List.getElem?_eq_getElem (by omega)⟩
      obtain ⟨y, hy, hyr⟩ := hr.2 j l hl
      have hrow := kk.row hp (by simp)
      have hcat := flat_take hl
      have h1 := flat_len (ls := ls) (j + 1)
      rw [hcat, List.length_append] at h1
      simp -implicitDefEqProofs (disch := (first | omega | (simp only [lenB, lowB_len, numB_len] <;> omega) | fail)) only [admQ, lenB, lowB_len, numB_len, aFill, AK.cls, implies_true, if_true, if_false, seval, -List.reduceReplicate, hrow, hy]
      obtain ⟨x3, m3, e3, g3, k3⟩ := g.push (hyr.kept0 kk) h1
      refine someW_eq e3 ?_
      simp -implicitDefEqProofs (disch := (first | omega | (simp only [lenB, lowB_len, numB_len] <;> omega) | fail)) only [admQ, lenB, lowB_len, numB_len, aFill, AK.cls, implies_true, if_true, if_false, seval, -List.reduceReplicate]
      refine hX (j + 1, x3) _ _ rfl (by simp only; omega) ⟨by simp only; omega, kk.upon k3 g.low, ?_⟩
      show Room M.length m3 x3 (ls.take (j + 1)).flatten _
      rw [hcat]; exact g3
    · obtain rfl : j = i := by omega
      rw [List.take_of_length_le (by omega)] at g
      simp -implicitDefEqProofs (disch := (first | omega | (simp only [lenB, lowB_len, numB_len] <;> omega) | fail)) only [admQ, lenB, lowB_len, numB_len, aFill, AK.cls, implies_true, if_true, if_false, seval, -List.reduceReplicate]
      exact ⟨kk, g.all rfl⟩
theorem ans_slequal {m : Mem} {x y : AV} {a b : List B8} (hx : RdB m x a) (hy : RdB m y b) (hl : a.length < 1152921504606846976) : Ans Try.prog 74 [x, y] m fun r m' => r = .bool (a == b) ∧ m' = m := by
  refine ans_ret mixed ok74 ?_
  by_cases h : a.length = b.length
  · have h' : ((a.length : Int) == (b.length : Int)) = true := by rw [h]; simp
    simp -implicitDefEqProofs (disch := (first | omega | (simp only [lenB, lowB_len, numB_len] <;> omega) | fail)) only [admQ, lenB, lowB_len, numB_len, aFill, AK.cls, implies_true, if_true, if_false, seval, -List.reduceReplicate, c74, r74, hx.len, hy.len, h', Bool.not_true]
    refine LoopW.on (fun i : Nat => [(0, x), (1, y), (12, .int .i64 a.length), (13, .int .i64 i)]) (fun i => a.length - i) (fun i m' => m' = m ∧ i ≤ a.length ∧ ∀ j, j < i → gb a j = gb b j) ?_ 0 _ _ rfl ⟨rfl, by omega, fun j hj => by omega⟩
    rintro i _ X ⟨rfl, hi, hj⟩ hX
    by_cases hlt : i < a.length
    · obtain ⟨b1, o1, cap1, s1, c1, rfl, hr1, hg1, hl1, hc1, hs1, ht1⟩ := hx.cons hlt
      obtain ⟨b2, o2, cap2, s2, c2, rfl, hr2, hg2, hl2, hc2, hs2, ht2⟩ := hy.cons (by omega : i < b.length)
      have e1 := hg1 i hlt
      have e2 := hg2 i (by omega)
      cases he : gb a i == gb b i
      · have hne : (a == b) = false := by
          rw [beq_eq_false_iff_ne]; rintro rfl; simp at he
        simp -implicitDefEqProofs (disch := (first | omega | (simp only [lenB, lowB_len, numB_len] <;> omega) | fail)) only [admQ, lenB, lowB_len, numB_len, aFill, AK.cls, implies_true, if_true, if_false, seval, -List.reduceReplicate, hr1, hr2, e1, e2, he, hne, Bool.not_false]
      · simp -implicitDefEqProofs (disch := (first | omega | (simp only [lenB, lowB_len, numB_len] <;> omega) | fail)) only [admQ, lenB, lowB_len, numB_len, aFill, AK.cls, implies_true, if_true, if_false, seval, -List.reduceReplicate, hr1, hr2, e1, e2, he, Bool.not_true]
        refine hX (i + 1) _ _ rfl (by omega) ⟨rfl, by omega, fun j hj2 => ?_⟩
        by_cases hji : j = i
        · subst hji; simpa using he
        · exact hj j (by omega)
    · have he : (a == b) = true := by rw [beq_iff_eq]; exact gb_ext h fun j hj2 => hj j (by omega)
      simp -implicitDefEqProofs (disch := (first | omega | (simp only [lenB, lowB_len, numB_len] <;> omega) | fail)) only [admQ, lenB, lowB_len, numB_len, aFill, AK.cls, implies_true, if_true, if_false, seval, -List.reduceReplicate, hx.len, he]
  · have h' : ((a.length : Int) == (b.length : Int)) = false := by rw [beq_eq_false_iff_ne]; omega
    have he : (a == b) = false := by rw [beq_eq_false_iff_ne]; rintro rfl; exact h rfl
    simp -implicitDefEqProofs (disch := (first | omega | (simp only [lenB, lowB_len, numB_len] <;> omega) | fail)) only [admQ, lenB, lowB_len, numB_len, aFill, AK.cls, implies_true, if_true, if_false, seval, -List.reduceReplicate, c74, r74, hx.len, hy.len, h', he, Bool.not_false]
theorem ans_slclone {m : Mem} {x : AV} {l : List B8} (hx : RdB m x l) (hl : l.length ≤ 1000000000) : Ans Try.prog 36 [x] m fun r m' => Kept [] m m' ∧ GrB m.length m' r l ∧ ∀ b ∈ blkOf r, m.length ≤ b := by
  refine ans_ret mixed ok36 ?_
  rcases hx with ⟨rfl, rfl⟩ | ⟨b, o, cap, s, c, rfl, h2⟩
  · simp -implicitDefEqProofs (disch := (first | omega | (simp only [lenB, lowB_len, numB_len] <;> omega) | fail)) only [admQ, lenB, lowB_len, numB_len, aFill, AK.cls, implies_true, if_true, if_false, seval, -List.reduceReplicate, c36, r36]
    exact ⟨.refl _ _, .nils .., by simp [blkOf]⟩
  · have hx : RdB m (.sl b o l.length cap s) l := .inr ⟨b, o, cap, s, c, rfl, h2⟩
    simp -implicitDefEqProofs (disch := (first | omega | (simp only [lenB, lowB_len, numB_len] <;> omega) | fail)) only [admQ, lenB, lowB_len, numB_len, aFill, AK.cls, implies_true, if_true, if_false, seval, -List.reduceReplicate, c36, r36]
    have gz : GrB m.length (m ++ [Blk.row [] false]) (.sl m.length 0 0 0 0) [] := .zero (by rw [own_app_at0]; rfl)
    obtain ⟨x4, m4, e4, g4, k4, a4, n4⟩ := GrA.pushs5 (sz := 1) (bytes := 1) gz Nat.one_pos (hx.app [Blk.row [] false]).elems (hx.app [Blk.row [] false]).lenA (by simp) (by simp; omega) (by simp)
    refine someW_eq e4 ?_
    simp -implicitDefEqProofs (disch := (first | omega | (simp only [lenB, lowB_len, numB_len] <;> omega) | fail)) only [admQ, lenB, lowB_len, numB_len, aFill, AK.cls, implies_true, if_true, if_false, seval, -List.reduceReplicate]
    refine ⟨a4 _ _ (.app _ _ _) (Nat.le_refl _), by simpa [GrB] using g4, fun q hq => ?_⟩
    by_cases h0 : 0 < l.length
    · have := n4 h0 q hq; simp at this; omega
    · have e := app_none (m := m ++ [Blk.row [] false]) (size := 1) (bytes := 1) (s := .sl m.length 0 0 0 0) (x := .sl b o l.length cap s) (congrArg some (show l.length = 0 by omega)) rfl
      rw [e] at e4; cases e4
      simp [blkOf] at hq; omega
end Go.Proofs.Ytoegmnnecanhfaa
end
section
/- Names: what is remembered; sealed, opened, summed. -/
namespace Go.Proofs.Ytoegmnnecanhfaa
open Go Go.Adm
set_option linter.unusedSimpArgs false
set_option linter.unusedVariables false
set_option maxRecDepth 100000
/-- What is sealed: an epoch, a number, a head, a plain. -/
abbrev Sd := Int × Int × List B8 × List B8
def sdC (s : Sd) : List AV := [.int .i64 s.1, .int .i64 s.2.1, .str (strOf s.2.2.1), .str (strOf s.2.2.2)]
def sdK (s : Sd) : AV := .agg (sdC s)
def txK (t : List B8) : AV := .str (strOf t)
abbrev sdM : MK := .agg [.i, .i, .s, .s]
theorem sd_key (a b : Sd) : mapEq sdM (sdK a) (sdK b) = some (decide (a = b)) := by
  obtain ⟨a1, a2, a3, a4⟩ := a
  obtain ⟨b1, b2, b3, b4⟩ := b
  simp only [mapEq, sdK, sdC, aEqCells, aEqCk, if_true, Option.bind_some, Option.map_some, strOf_beq, Bool.and_true]
  congr 1
  rw [Bool.eq_iff_iff]
  simp [Prod.ext_iff]
theorem sd_fit (a : Sd) : keyFits sdM (sdK a) = true := rfl
theorem tx_key (a b : List B8) : mapEq (.one .s) (txK a) (txK b) = some (decide (a = b)) := by
  simp only [mapEq, txK, aEqCk, strOf_beq]
  congr 1
  rw [Bool.eq_iff_iff]; simp
theorem tx_fit (a : List B8) : keyFits (.one .s) (txK a) = true := rfl
/-- A Names: at x, in the blocks W; S was sealed, T was summed. -/
structure Nm (m : Mem) (x : Nat) (W : List Nat) (S : List Sd) (T : List (List B8)) : Prop where
  ex : ∃ bs v bt, own m x = some [.map bs, v, .map bt] ∧ MapR sdK m bs S ∧ GrA 4 0 m v (S.flatMap sdC) ∧ MapR txK m bt T ∧ W = x :: bs :: bt :: blkOf v ∧ bs ≠ bt ∧ x ∉ blkOf v
theorem Nm.kept {m m' : Mem} {x : Nat} {W X : List Nat} {S : List Sd} {T : List (List B8)} (h : Nm m x W S T) (hk : Kept X m m') (hX : ∀ b ∈ W, b ∉ X) : Nm m' x W S T := by
  obtain ⟨bs, v, bt, h1, h2, h3, h4, rfl, h6⟩ := h.ex
  exact ⟨bs, v, bt, hk.own h1 (hX x (by simp)), h2.kept hk (hX bs (by simp)), h3.kept hk (fun b hb => hX b (by simp [hb])), h4.kept hk (hX bt (by simp)), rfl, h6⟩
theorem Nm.kept0 {m m' : Mem} {x : Nat} {W : List Nat} {S : List Sd} {T : List (List B8)} (h : Nm m x W S T) (hk : Kept [] m m') : Nm m' x W S T := h.kept hk (by simp)
theorem Nm.lt {m : Mem} {x : Nat} {W : List Nat} {S : List Sd} {T : List (List B8)} (h : Nm m x W S T) : ∀ b ∈ W, b < m.length := by
  obtain ⟨bs, v, bt, h1, h2, h3, h4, rfl, h6⟩ := h.ex
  simp only [List.mem_cons]
  rintro b (rfl | rfl | rfl | hb)
  · exact own_lt h1
  · exact h2.lt
  · exact h4.lt
  · exact h3.lt b hb
theorem ans_nnew (m : Mem) : Ans Try.prog 15 [] m fun r m' => ∃ x W, r = .ptr x 0 ∧ Kept [] m m' ∧ Nm m' x W [] [] ∧ ∀ b ∈ W, m.length ≤ b := by
  refine ans_ret mixed ok15 ?_
  simp -implicitDefEqProofs (disch := (first | omega | (simp only [lenB, lowB_len, numB_len] <;> omega) | fail)) only [admQ, lenB, lowB_len, numB_len, aFill, AK.cls, implies_true, if_true, if_false, seval, -List.reduceReplicate, c15, r15, mapR, mkMp]
  refine ⟨m.length + 2, [m.length + 2, m.length, m.length + 1], rfl, .app _ _ _, ⟨m.length, .nils, m.length + 1, ?_, ?_, .nils .., ?_, rfl, by omega, by simp [blkOf]⟩, by simp⟩
  · rw [own_app_at]; rfl
  · exact (MapR.new sdK m).at_ (by simp)
  · have := MapR.new txK (m ++ [.map [] 0])
    rw [List.length_append] at this
    exact this.at_ (by simp)
def addN {α : Type} [DecidableEq α] (s : α) (S : List α) : List α := if s ∈ S then S else S ++ [s]
def posN {α : Type} [DecidableEq α] (s : α) (S : List α) : Nat := ((fidx s S).getD S.length) + 1
def zeros (n : Nat) : List B8 := List.replicate n 0#8
def nsealB (S : List Sd) (s : Sd) : List B8 := s.2.2.2 ++ zeros 24 ++ numB (posN s S)
theorem sd_len (S : List Sd) : (S.flatMap sdC).length = S.length * 4 := by
  induction S with
  | nil => rfl
  | cons a l ih => rw [List.flatMap_cons, List.length_append, ih, List.length_cons]; simp only [sdC, List.length_cons, List.length_nil]; omega
def nsealQ (m : Mem) (x : Nat) (W : List Nat) (S : List Sd) (T : List (List B8)) (e n : Int) (head plain : List B8) (r : AV) (m' : Mem) : Prop :=
  (within e ∧ within n → ∃ W', Kept W m m' ∧ Nm m' x W' (addN (e, n, head, plain) S) T ∧ (∀ b ∈ W', b ∈ W ∨ m.length ≤ b) ∧ GrB m.length m' r (nsealB S (e, n, head, plain)) ∧ ∀ b ∈ blkOf r, b ∉ W') ∧
      (¬ (within e ∧ within n) → r = .nils ∧ Kept [] m m')
theorem nsealTail {m M : Mem} {x : Nat} {W W' : List Nat} {S : List Sd} {T : List (List B8)} {bx : AV} {e n : Int} {head plain : List B8} (hp : within e ∧ within n) (hb : RdB M bx plain) (hS : S.length ≤ 1000) (hl : plain.length ≤ 100000)
    (hk : Kept W m M) (hN : Nm M x W' (addN (e, n, head, plain) S) T) (hW : ∀ b ∈ W', b ∈ W ∨ m.length ≤ b) (k : Nat) (hk1 : k = posN (e, n, head, plain) S) (hk2 : k ≤ 1001) :
    wpA Try.prog c72_2 [(4, bx), (12, .int .i64 (k : Int))] M (retQ [.tmp 10] (nsealQ m x W S T e n head plain)) := by
  simp -implicitDefEqProofs (disch := (first | omega | (simp only [lenB, lowB_len, numB_len] <;> omega) | fail)) only [admQ, lenB, lowB_len, numB_len, aFill, AK.cls, implies_true, if_true, if_false, seval, -List.reduceReplicate, c72_2]
  have hr : rep 24 [AV.int .u8 0] = bys (zeros 24) := rfl
  simp -implicitDefEqProofs (disch := (first | omega | (simp only [lenB, lowB_len, numB_len] <;> omega) | fail)) only [admQ, lenB, lowB_len, numB_len, aFill, AK.cls, implies_true, if_true, if_false, seval, -List.reduceReplicate, hr]
  refine (ans_nnumber k (by omega) _).mono ?_
  rintro _ m1 ⟨p, rfl, k1, hp1, op⟩
  have oZ : own (M ++ [Blk.row (bys (zeros 24)) false]) M.length = some (bys (zeros 24)) := by rw [own_app_at0]; rfl
  have kA := Kept.app [] M [Blk.row (bys (zeros 24)) false]
  have hAl : (M ++ [Blk.row (bys (zeros 24)) false]).length = M.length + 1 := by simp
  have hEq : (M ++ [Blk.row (bys (zeros 24)) false])[M.length]? = some (.row (bys (zeros 24)) false) := by simp
  generalize M ++ [Blk.row (bys (zeros 24)) false] = A at *
  have hE : m1[M.length]? = some (.row (bys (zeros 24)) false) := by rw [k1.eq _ (by omega) (by simp)]; exact hEq
  simp -implicitDefEqProofs (disch := (first | omega | (simp only [lenB, lowB_len, numB_len] <;> omega) | fail)) only [admQ, lenB, lowB_len, numB_len, aFill, AK.cls, implies_true, if_true, if_false, seval, -List.reduceReplicate, hE, (rd_one hb).1, (rd_one hb).2]
  have oZ1 := k1.own oZ (by simp)
  have K1 := kA.trans k1
  have rl : RdL (m1 ++ [Blk.row [bx, .sl M.length 0 24 24 0, .sl p 0 8 8 0] false]) [bx, .sl M.length 0 24 24 0, .sl p 0 8 8 0] [plain, zeros 24, numB k] :=
    .cons ((hb.kept0 K1).app _) (.cons (RdB.row (l := zeros 24) 24 0 (rowOf_own (own_app oZ1 _)) (by simp [zeros])) (.cons (RdB.row (l := numB k) 8 0 (rowOf_own (own_app op _)) (by rw [numB_len]; omega)) (.nil _)))
  have hfl : [plain, zeros 24, numB k].flatten = nsealB S (e, n, head, plain) := by simp [nsealB, hk1]
  have K2 := K1.more_app [Blk.row [bx, .sl M.length 0 24 24 0, .sl p 0 8 8 0] false]
  have rB : rowOf (m1 ++ [Blk.row [bx, .sl M.length 0 24 24 0, .sl p 0 8 8 0] false]) m1.length = some [bx, .sl M.length 0 24 24 0, .sl p 0 8 8 0] := by rw [rowOf_app_at0]; rfl
  generalize m1 ++ [Blk.row [bx, .sl M.length 0 24 24 0, .sl p 0 8 8 0] false] = C at *
  refine (ans_slconcat (k := 3) rB rl rfl ⟨by omega, by simp [zeros, numB_len]; omega⟩).mono ?_
  rintro r m3 ⟨k3, g3⟩
  simp -implicitDefEqProofs (disch := (first | omega | (simp only [lenB, lowB_len, numB_len] <;> omega) | fail)) only [admQ, lenB, lowB_len, numB_len, aFill, AK.cls, implies_true, if_true, if_false, seval, -List.reduceReplicate]
  rw [hfl] at g3
  have hMC := K2.len
  have hmM := hk.len
  have hgb := GrA.blk g3 (by intro h0; have := congrArg List.length h0; simp [nsealB, numB_len] at this)
  refine ⟨fun _ => ⟨W', hk.trans (K2.trans k3 |>.more (by simp)), hN.kept0 (K2.trans k3), hW, g3.low (by omega), fun b hb1 hb2 => ?_⟩, fun h => absurd hp h⟩
  have := hN.lt b hb2
  have := hgb b hb1
  omega
theorem ans_nseal {m : Mem} {x : Nat} {W : List Nat} {S : List Sd} {T : List (List B8)} {hx bx : AV} {e n : Int} {head plain : List B8} (hN : Nm m x W S T) (hh : RdB m hx head) (hb : RdB m bx plain)
    (hd : ∀ b ∈ blkOf bx, b ∉ W) (hS : S.length ≤ 1000) (hl : head.length ≤ 100000 ∧ plain.length ≤ 100000) :
    Ans Try.prog 72 [.ptr x 0, .int .i64 e, .int .i64 n, hx, bx] m (nsealQ m x W S T e n head plain) := by
  refine ans_ret mixed ok72 ?_
  simp -implicitDefEqProofs (disch := (first | omega | (simp only [lenB, lowB_len, numB_len] <;> omega) | fail)) only [admQ, lenB, lowB_len, numB_len, aFill, AK.cls, implies_true, if_true, if_false, seval, -List.reduceReplicate, p72, r72]
  refine (ans_nwithin e _).mono ?_
  rintro _ M ⟨rfl, hM⟩
  subst hM
  by_cases he : within e
  · simp -implicitDefEqProofs (disch := (first | omega | (simp only [lenB, lowB_len, numB_len] <;> omega) | fail)) only [admQ, lenB, lowB_len, numB_len, aFill, AK.cls, implies_true, if_true, if_false, seval, -List.reduceReplicate, dec_t he, Bool.not_true]
    refine (ans_nwithin n _).mono ?_
    rintro _ M ⟨rfl, hM⟩
    subst hM
    by_cases hn : within n
    · obtain ⟨bs, v, bt, h1, h2, h3, h4, rfl, h6, h7⟩ := hN.ex
      simp -implicitDefEqProofs (disch := (first | omega | (simp only [lenB, lowB_len, numB_len] <;> omega) | fail)) only [admQ, lenB, lowB_len, numB_len, aFill, AK.cls, implies_true, if_true, if_false, seval, -List.reduceReplicate, dec_t hn, Bool.not_true, mapR, hh.b2s, hb.b2s]
      have k0 := Kept.app [] M [Blk.row [.int .i64 e, .int .i64 n, .str (strOf head), .str (strOf plain)] false]
      have o0 : own (M ++ [Blk.row [.int .i64 e, .int .i64 n, .str (strOf head), .str (strOf plain)] false]) M.length = some [.int .i64 e, .int .i64 n, .str (strOf head), .str (strOf plain)] := by rw [own_app_at0]; rfl
      generalize M ++ [Blk.row [.int .i64 e, .int .i64 n, .str (strOf head), .str (strOf plain)] false] = A at k0 o0
      have g1 := k0.own h1 (by simp)
      have g2 := h2.kept k0 (by simp)
      have g3 := h3.kept0 k0
      have g4 := h4.kept k0 (by simp)
      have lk : rLookup (.agg [.i, .i, .s, .s]) (.int .i64 0) true A [.map bs, .agg [.int .i64 e, .int .i64 n, .str (strOf head), .str (strOf plain)]] = some (lookR (fidx (e, n, head, plain) S)) := g2.look sd_key sd_fit (e, n, head, plain)
      have hMA := k0.len
      cases hf : fidx (e, n, head, plain) S with
      | some i =>
        rw [hf] at lk
        simp -implicitDefEqProofs (disch := (first | omega | (simp only [lenB, lowB_len, numB_len] <;> omega) | fail)) only [admQ, lenB, lowB_len, numB_len, aFill, AK.cls, implies_true, if_true, if_false, seval, -List.reduceReplicate, rowOf_own g1, rowOf_own o0, mapR, lk, lookR]
        have hin := List.mem_of_getElem? (fidx_some hf)
        have hpos : i + 1 = posN (e, n, head, plain) S := by simp [posN, hf]
        have hi := fidx_lt hf
        refine wp_join2 [4, 12] (fun _ : Unit => [(4, bx), (12, .int .i64 ((i + 1 : Nat) : Int))]) (fun _ M' => M' = A) rfl ?_ ?_
        · simp -implicitDefEqProofs (disch := (first | omega | (simp only [lenB, lowB_len, numB_len] <;> omega) | fail)) only [admQ, lenB, lowB_len, numB_len, aFill, AK.cls, implies_true, if_true, if_false, seval, -List.reduceReplicate, c72_1, joins, Bool.not_true]
          exact ⟨(), trivial⟩
        · rintro _ M' rfl
          exact nsealTail ⟨he, hn⟩ (hb.kept0 k0) hS hl.2 (k0.more (by simp)) (by rw [addN, if_pos hin]; exact hN.kept0 k0) (fun b hb => .inl hb) _ hpos (by omega)
      | none =>
        rw [hf] at lk
        simp -implicitDefEqProofs (disch := (first | omega | (simp only [lenB, lowB_len, numB_len] <;> omega) | fail)) only [admQ, lenB, lowB_len, numB_len, aFill, AK.cls, implies_true, if_true, if_false, seval, -List.reduceReplicate, rowOf_own g1, rowOf_own o0, mapR, lk, lookR]
        have hin := fidx_none.mp hf
        have hpos : S.length + 1 = posN (e, n, head, plain) S := by simp [posN, hf]
        refine wp_join2 [4, 12] (fun _ : Unit => [(4, bx), (12, .int .i64 ((S.length + 1 : Nat) : Int))]) (fun _ M' => ∃ W', Kept (x :: bs :: bt :: blkOf v) M M' ∧ RdB M' bx plain ∧ Nm M' x W' (S ++ [(e, n, head, plain)]) T ∧ ∀ b ∈ W', b ∈ x :: bs :: bt :: blkOf v ∨ M.length ≤ b) rfl ?_ ?_
        · simp -implicitDefEqProofs (disch := (first | omega | (simp only [lenB, lowB_len, numB_len] <;> omega) | fail)) only [admQ, lenB, lowB_len, numB_len, aFill, AK.cls, implies_true, if_true, if_false, seval, -List.reduceReplicate, c72_1, joins, Bool.not_false, rowOf_own g1, rowOf_own o0]
          have hsl := sd_len S
          have hvM : M.length ∉ blkOf v := fun h => by have := hN.lt M.length (by simp [h]); omega
          have hvA : A.length ∉ blkOf v := fun h => by have := hN.lt A.length (by simp [h]); omega
          have hxM : x < M.length := hN.lt x (by simp)
          have kB := Kept.app [] A [Blk.row (sdC (e, n, head, plain)) false]
          have hBE : (A ++ [Blk.row (sdC (e, n, head, plain)) false])[A.length]? = some (.row (sdC (e, n, head, plain)) false) := by simp
          have hBl : (A ++ [Blk.row (sdC (e, n, head, plain)) false]).length = A.length + 1 := by simp
          obtain ⟨v2, m2, e2, gv2, kv2, av2, nv2⟩ := GrA.pushs5 (bytes := 48) (k := 1) (y := .sl A.length 0 1 1 0) (l2 := sdC (e, n, head, plain)) (g3.kept0 kB) (by omega) (elemsS_one A rfl) rfl rfl (by omega) (Nat.zero_le _)
          refine someW_eq e2 ?_
          generalize A ++ [Blk.row (sdC (e, n, head, plain)) false] = B at *
          have x1 := kv2.own (kB.own g1 (by simp)) h7
          have oM := kv2.own (kB.own o0 (by simp)) hvM
          have cE : m2[A.length]? = some (.row [.int .i64 e, .int .i64 n, .str (strOf head), .str (strOf plain)] false) := by rw [kv2.eq _ (by omega) hvA]; exact hBE
          have kM2 : Kept (x :: bs :: bt :: blkOf v) M m2 := (((k0.trans kB).more (by simp)).trans (kv2.more fun q hq _ => by simp [hq]))
          have hbsx : bs ≠ x := MapR.ne_own h2 h1
          have hbtx : bt ≠ x := MapR.ne_own h4 h1
          have hbsM : bs < M.length := h2.lt
          have hbtM : bt < M.length := h4.lt
          have hx2 := own_lt x1
          have hvbs : bs ∉ blkOf v := MapR.ne_gr h2 h3
          have hvbt : bt ∉ blkOf v := MapR.ne_gr h4 h3
          have hv2b : ∀ b ∈ blkOf v2, B.length ≤ b := nv2 (by omega)
          have hxv2 : x ∉ blkOf v2 := fun h => by have := hv2b x h; omega
          have hbsv2 : bs ∉ blkOf v2 := fun h => by have := hv2b bs h; omega
          have gb2 := (g2.kept kB (by simp)).kept kv2 hvbs
          have gt2 := (g4.kept kB (by simp)).kept kv2 hvbt
          have kX := Kept.set1 m2 x (.row [.map bs, v2, .map bt] false)
          have x3 := own_set hx2 [AV.map bs, v2, AV.map bt]
          have oM3 := own_set_ne' oM (show x ≠ M.length by omega) (.row [.map bs, v2, .map bt] false)
          have gv3 := gv2.kept kX (by simpa using fun b hb (h : b = x) => hxv2 (h ▸ hb))
          have gb3 := gb2.kept kX (by simpa using hbsx)
          have gt3 := gt2.kept kX (by simpa using hbtx)
          have cE3 : (m2.set x (.row [.map bs, v2, .map bt] false))[A.length]? = some (.row [.int .i64 e, .int .i64 n, .str (strOf head), .str (strOf plain)] false) := by rw [List.getElem?_set_ne (by omega)]; exact cE
          have kM3 := kM2.trans (kX.more fun q hq _ => by simp at hq; simp [hq])
          simp -implicitDefEqProofs (disch := (first | omega | (simp only [lenB, lowB_len, numB_len] <;> omega) | fail)) only [admQ, lenB, lowB_len, numB_len, aFill, AK.cls, implies_true, if_true, if_false, seval, -List.reduceReplicate, rowOf_own x1, rowOf_own oM, x1, cE, (gr_one gv2).1, (gr_one gv2).2, rowOf_own x3, rowOf_own oM3, x3, cE3]
          obtain ⟨bv, nn, rfl, hn0, hnl, hbv, _⟩ := gv3.sl (by intro h0; have := congrArg List.length h0; simp [sdC] at this)
          have hnn : nn = S.length + 1 := by
            rw [List.length_append, hsl] at hnl
            simp only [sdC, List.length_cons, List.length_nil] at hnl
            omega
          subst hnn
          generalize m2.set x (.row [.map bs, .sl bv 0 (S.length + 1) (S.length + 1) 4, .map bt] false) = m3 at *
          obtain ⟨m4, eM, mr4, k4⟩ := gb3.add sd_key sd_fit hin
          have eM' : aMapSet (.agg [.i, .i, .s, .s]) m3 [.map bs, .agg [.int .i64 e, .int .i64 n, .str (strOf head), .str (strOf plain)], .int .i64 ((S.length + 1 : Nat) : Int)] = some (.tup [], m4) := eM
          have x4 := k4.own x3 (by simpa using hbsx.symm)
          have oM4 := k4.own oM3 (by simp; omega)
          simp -implicitDefEqProofs (disch := (first | omega | (simp only [lenB, lowB_len, numB_len] <;> omega) | fail)) only [admQ, lenB, lowB_len, numB_len, aFill, AK.cls, implies_true, if_true, if_false, seval, -List.reduceReplicate, rowOf_own x3, rowOf_own oM3, mapR, eM', rowOf_own x4, rowOf_own oM4, joins]
          have kM4 := kM3.trans (k4.more fun q hq _ => by simp at hq; simp [hq])
          refine ⟨(), x :: bs :: bt :: blkOf (.sl bv 0 (S.length + 1) (S.length + 1) 4), kM4, hb.kept kM4 (fun b o n cap s h => hd b (by rw [h]; simp [blkOf])), ⟨bs, _, bt, x4, mr4, ?_, gt3.kept k4 (by simpa using h6.symm), rfl, h6, hxv2⟩, fun b hb => ?_⟩
          · rw [List.flatMap_append, List.flatMap_singleton]
            exact gv3.kept k4 (by simpa using fun b hb (h : b = bs) => hbsv2 (h ▸ hb))
          · simp only [List.mem_cons] at hb ⊢
            rcases hb with rfl | rfl | rfl | hb
            · exact .inl (.inl rfl)
            · exact .inl (.inr (.inl rfl))
            · exact .inl (.inr (.inr (.inl rfl)))
            · have := hv2b b hb; exact .inr (by omega)
        · rintro _ M' ⟨W', hk, hb', hN', hW⟩
          exact nsealTail ⟨he, hn⟩ hb' hS hl.2 hk (by rw [addN, if_neg hin]; exact hN') hW _ hpos (by omega)
    · simp -implicitDefEqProofs (disch := (first | omega | (simp only [lenB, lowB_len, numB_len] <;> omega) | fail)) only [admQ, lenB, lowB_len, numB_len, aFill, AK.cls, implies_true, if_true, if_false, seval, -List.reduceReplicate, dec_f hn, Bool.not_false]
      exact ⟨fun h => absurd h.2 hn, fun _ => by first | exact ⟨rfl, .refl _ _⟩ | exact .refl _ _⟩
  · simp -implicitDefEqProofs (disch := (first | omega | (simp only [lenB, lowB_len, numB_len] <;> omega) | fail)) only [admQ, lenB, lowB_len, numB_len, aFill, AK.cls, implies_true, if_true, if_false, seval, -List.reduceReplicate, dec_f he, Bool.not_false]
    exact ⟨fun h => absurd h.1 he, fun _ => by first | exact ⟨rfl, .refl _ _⟩ | exact .refl _ _⟩
/-- What is opened: the place of what was sealed so. -/
def nopenP (S : List Sd) (e n : Int) (head b : List B8) : Prop :=
  32 ≤ b.length ∧ ∃ i, fidx (e, n, head, b.take (b.length - 32)) S = some i ∧ b.drop (b.length - 32) = zeros 24 ++ numB (i + 1)
theorem ans_nopen {m : Mem} {x : Nat} {W : List Nat} {S : List Sd} {T : List (List B8)} {hx bx : AV} {e n : Int} {head b : List B8} (hN : Nm m x W S T) (hh : RdB m hx head) (hb : RdB m bx b) (hS : S.length ≤ 1000) (hl : head.length ≤ 100000 ∧ b.length ≤ 100000) :
    Ans Try.prog 71 [.ptr x 0, .int .i64 e, .int .i64 n, hx, bx] m fun r m' => Kept [] m m' ∧
      (nopenP S e n head b → ∃ v, r = .tup [v, .bool true] ∧ GrB m.length m' v (b.take (b.length - 32)) ∧ ∀ q ∈ blkOf v, m.length ≤ q) ∧ (¬ nopenP S e n head b → r = .tup [.nils, .bool false]) := by
  refine ans_ret mixed ok71 ?_
  by_cases h32 : b.length < 32
  · have hno : ¬ nopenP S e n head b := fun h => by have := h.1; omega
    simp -implicitDefEqProofs (disch := (first | omega | (simp only [lenB, lowB_len, numB_len] <;> omega) | fail)) only [admQ, lenB, lowB_len, numB_len, aFill, AK.cls, implies_true, if_true, if_false, seval, -List.reduceReplicate, c71, r71, hb.len]
    exact ⟨.refl _ _, fun h => absurd h hno⟩
  · obtain ⟨q, o, cap, sl, cc, rfl, hrow, hat, hlen, hcap, hsl, htk⟩ := hb.cons (i := 0) (by omega)
    obtain ⟨bs, v, bt, h1, h2, h3, h4, rfl, h6, h7⟩ := hN.ex
    have hpl := hb.take (k := b.length - 32) (by omega)
    have htg := hb.drop (k := b.length - 32) (by omega)
    have hp8 : (b.take (b.length - 32)).length = b.length - 32 := by simp
    have ht8 : (b.drop (b.length - 32)).length = 32 := by simp; omega
    have lk : rLookup (.agg [.i, .i, .s, .s]) (.int .i64 0) true m [.map bs, .agg [.int .i64 e, .int .i64 n, .str (strOf head), .str (strOf (b.take (b.length - 32)))]] = some (lookR (fidx (e, n, head, b.take (b.length - 32)) S)) := h2.look sd_key sd_fit (e, n, head, b.take (b.length - 32))
    cases hf : fidx (e, n, head, b.take (b.length - 32)) S with
    | none =>
      rw [hf] at lk
      have hno : ¬ nopenP S e n head b := fun h => by obtain ⟨_, i, hi, _⟩ := h; rw [hf] at hi; cases hi
      simp -implicitDefEqProofs (disch := (first | omega | (simp only [lenB, lowB_len, numB_len] <;> omega) | fail)) only [admQ, lenB, lowB_len, numB_len, aFill, AK.cls, implies_true, if_true, if_false, seval, -List.reduceReplicate, c71, r71, rowOf_own h1, mapR, hh.b2s, hpl.b2s, lk, lookR, Bool.not_false]
      exact ⟨.refl _ _, fun h => absurd h hno⟩
    | some i =>
      rw [hf] at lk
      have hi := fidx_lt hf
      simp -implicitDefEqProofs (disch := (first | omega | (simp only [lenB, lowB_len, numB_len] <;> omega) | fail)) only [admQ, lenB, lowB_len, numB_len, aFill, AK.cls, implies_true, if_true, if_false, seval, -List.reduceReplicate, c71, r71, rowOf_own h1, mapR, hh.b2s, hpl.b2s, lk, lookR, Bool.not_true]
      have hr : rep 24 [AV.int .u8 0] = bys (zeros 24) := rfl
      simp -implicitDefEqProofs (disch := (first | omega | (simp only [lenB, lowB_len, numB_len] <;> omega) | fail)) only [admQ, lenB, lowB_len, numB_len, aFill, AK.cls, implies_true, if_true, if_false, seval, -List.reduceReplicate, hr]
      refine (ans_nnumber (i + 1) (by omega) _).mono ?_
      rintro _ m1 ⟨p, rfl, k1, hp1, op⟩
      have oZ : own (m ++ [Blk.row (bys (zeros 24)) false]) m.length = some (bys (zeros 24)) := by rw [own_app_at0]; rfl
      have kA := Kept.app [] m [Blk.row (bys (zeros 24)) false]
      have hAl : (m ++ [Blk.row (bys (zeros 24)) false]).length = m.length + 1 := by simp
      have hEq : (m ++ [Blk.row (bys (zeros 24)) false])[m.length]? = some (.row (bys (zeros 24)) false) := by simp
      generalize m ++ [Blk.row (bys (zeros 24)) false] = A at *
      have hE : m1[m.length]? = some (.row (bys (zeros 24)) false) := by rw [k1.eq _ (by omega) (by simp)]; exact hEq
      simp -implicitDefEqProofs (disch := (first | omega | (simp only [lenB, lowB_len, numB_len] <;> omega) | fail)) only [admQ, lenB, lowB_len, numB_len, aFill, AK.cls, implies_true, if_true, if_false, seval, -List.reduceReplicate, hE]
      have oZ1 := k1.own oZ (by simp)
      have K1 := kA.trans k1
      have rl : RdL (m1 ++ [Blk.row [.sl m.length 0 24 24 0, .sl p 0 8 8 0] false]) [.sl m.length 0 24 24 0, .sl p 0 8 8 0] [zeros 24, numB (i + 1)] :=
        .cons (RdB.row (l := zeros 24) 24 0 (rowOf_own (own_app oZ1 _)) (by simp [zeros])) (.cons (RdB.row (l := numB (i + 1)) 8 0 (rowOf_own (own_app op _)) (by rw [numB_len]; omega)) (.nil _))
      have hfl : [zeros 24, numB (i + 1)].flatten = zeros 24 ++ numB (i + 1) := by simp
      have K2 := K1.more_app [Blk.row [.sl m.length 0 24 24 0, .sl p 0 8 8 0] false]
      have rB : rowOf (m1 ++ [Blk.row [.sl m.length 0 24 24 0, .sl p 0 8 8 0] false]) m1.length = some [.sl m.length 0 24 24 0, .sl p 0 8 8 0] := by rw [rowOf_app_at0]; rfl
      have hE2 : (m1 ++ [Blk.row [.sl m.length 0 24 24 0, .sl p 0 8 8 0] false])[m.length]? = some (.row (bys (zeros 24)) false) := by rw [List.getElem?_append_left (by have := k1.len; omega)]; exact hE
      have hB2 : (m1 ++ [Blk.row [.sl m.length 0 24 24 0, .sl p 0 8 8 0] false])[m1.length]? = some (.row [.sl m.length 0 24 24 0, .sl p 0 8 8 0] false) := by simp
      have hCl : (m1 ++ [Blk.row [.sl m.length 0 24 24 0, .sl p 0 8 8 0] false]).length = m1.length + 1 := by simp
      have hm1 := K1.len
      generalize m1 ++ [Blk.row [.sl m.length 0 24 24 0, .sl p 0 8 8 0] false] = C at *
      refine (ans_slconcat (k := 2) rB rl rfl ⟨by omega, by simp [zeros, numB_len]⟩).mono ?_
      rintro r m3 ⟨k3, g3⟩
      rw [hfl] at g3
      have hE3 : m3[m.length]? = some (.row (bys (zeros 24)) false) := by rw [k3.eq _ (by omega) (by simp)]; exact hE2
      have hB3 : m3[m1.length]? = some (.row [.sl m.length 0 24 24 0, .sl p 0 8 8 0] false) := by rw [k3.eq _ (by omega) (by simp)]; exact hB2
      have K3 := K2.trans k3
      simp -implicitDefEqProofs (disch := (first | omega | (simp only [lenB, lowB_len, numB_len] <;> omega) | fail)) only [admQ, lenB, lowB_len, numB_len, aFill, AK.cls, implies_true, if_true, if_false, seval, -List.reduceReplicate, hE3, hB3]
      refine (ans_slequal (htg.kept0 K3) g3.rd (by omega)).mono ?_
      rintro _ M ⟨rfl, hM⟩
      subst hM
      by_cases hq : b.drop (b.length - 32) = zeros 24 ++ numB (i + 1)
      · have hyes : nopenP S e n head b := ⟨by omega, i, hf, hq⟩
        simp -implicitDefEqProofs (disch := (first | omega | (simp only [lenB, lowB_len, numB_len] <;> omega) | fail)) only [admQ, lenB, lowB_len, numB_len, aFill, AK.cls, implies_true, if_true, if_false, seval, -List.reduceReplicate, beq_iff_eq.mpr hq, Bool.not_true, hE3, hB3]
        refine (ans_slclone (hpl.kept0 K3) (by omega)).mono ?_
        rintro v m4 ⟨k4, g4, hb4⟩
        simp -implicitDefEqProofs (disch := (first | omega | (simp only [lenB, lowB_len, numB_len] <;> omega) | fail)) only [admQ, lenB, lowB_len, numB_len, aFill, AK.cls, implies_true, if_true, if_false, seval, -List.reduceReplicate]
        have := K3.len
        exact ⟨K3.trans k4, fun _ => ⟨v, rfl, g4.low this, fun q hq => Nat.le_trans this (hb4 q hq)⟩, fun h => absurd hyes h⟩
      · have hno : ¬ nopenP S e n head b := fun h => by
          obtain ⟨_, j, hj, hq'⟩ := h
          rw [hf] at hj; cases hj
          exact hq hq'
        simp -implicitDefEqProofs (disch := (first | omega | (simp only [lenB, lowB_len, numB_len] <;> omega) | fail)) only [admQ, lenB, lowB_len, numB_len, aFill, AK.cls, implies_true, if_true, if_false, seval, -List.reduceReplicate, beq_eq_false_iff_ne.mpr hq, Bool.not_false, hE3, hB3]
        exact ⟨K3, fun h => absurd h hno⟩
/-- What is told of a sum: ones, and the number. -/
def nsumB (T : List (List B8)) (b : List B8) : List B8 := List.replicate 24 1#8 ++ numB (posN b T)
theorem nsumB_len (T : List (List B8)) (b : List B8) : (nsumB T b).length = 32 := by simp [nsumB, numB_len]
theorem nsumTail {m M : Mem} {x : Nat} {W : List Nat} {S : List Sd} {T : List (List B8)} {b : List B8} (hT : T.length ≤ 100000) (k : Nat) (hk1 : k = posN b T) (hk2 : k ≤ 100001)
    (hk : Kept W m M) (hN : Nm M x W S (addN b T)) (hz : own M m.length = some (bys (List.replicate 32 0#8))) (hW : m.length ∉ W) :
    wpA Try.prog c73_2 [(4, .ptr m.length 0), (5, .int .i64 (k : Int))] M (retQ [.cell 4 true 32] fun r m' => r = .agg (bys (nsumB T b)) ∧ Kept W m m' ∧ Nm m' x W S (addN b T)) := by
  simp -implicitDefEqProofs (disch := (first | omega | (simp only [lenB, lowB_len, numB_len] <;> omega) | fail)) only [admQ, lenB, lowB_len, numB_len, aFill, AK.cls, implies_true, if_true, if_false, seval, -List.reduceReplicate, c73_2]
  have hzl := own_lt hz
  have hr : bys (List.replicate 32 0#8) = bys (upTo 32 (fun _ => 1#8) (fun _ => 0#8) 0) := by rw [upTo_zero, tab_const]
  rw [hr]
  refine LoopW.on (fun i : Nat => [(4, .ptr m.length 0), (5, .int .i64 (k : Int)), (7, .ptr M.length 0), (34, .int .i64 i)]) (fun i => 32 - i)
    (fun i N => i ≤ 32 ∧ N = M ++ [.row (bys (upTo 32 (fun _ => 1#8) (fun _ => 0#8) i)) false]) ?_ 0 _ _ rfl ⟨by omega, rfl⟩
  rintro i N X ⟨hi, rfl⟩ hX
  by_cases hlt : i < 32
  · have hu := upTo_set (n := 32) (i := i) (f := fun _ => 1#8) (g := fun _ => 0#8)
    have hsp : splice (bys (upTo 32 (fun _ => 1#8) (fun _ => 0#8) i)) i [.int .u8 1] = bys (upTo 32 (fun _ => 1#8) (fun _ => 0#8) (i + 1)) := (splice_byte (l := upTo 32 (fun _ => 1#8) (fun _ => 0#8) i) (i := i) (x := 1#8) (by rw [upTo_len]; exact hlt)).trans (congrArg bys hu)
    simp -implicitDefEqProofs (disch := (first | omega | (simp only [lenB, lowB_len, numB_len] <;> omega) | fail)) only [admQ, lenB, lowB_len, numB_len, aFill, AK.cls, implies_true, if_true, if_false, seval, -List.reduceReplicate, hsp]
    exact hX (i + 1) _ _ rfl (by omega) ⟨by omega, rfl⟩
  · obtain rfl : i = 32 := by omega
    rw [upTo_all]
    simp -implicitDefEqProofs (disch := (first | omega | (simp only [lenB, lowB_len, numB_len] <;> omega) | fail)) only [admQ, lenB, lowB_len, numB_len, aFill, AK.cls, implies_true, if_true, if_false, seval, -List.reduceReplicate]
    clear hX X hr
    refine (ans_nnumber k (by omega) _).mono ?_
    rintro _ m1 ⟨p, rfl, k1, hp1, op⟩
    have oS := k1.own (show own (M ++ [Blk.row (bys (tab 32 fun _ => 1#8)) false]) M.length = some _ by rw [own_app_at0]; rfl) (by simp)
    have kA := Kept.app [] M [Blk.row (bys (tab 32 fun _ => 1#8)) false]
    have oZ1 := (kA.trans k1).own hz (by simp)
    have hcp := copy_row (o := 24) (ld := 8) (cap := 8) (s := 0) (.row (l := numB k) 8 0 (rowOf_own op) (by rw [numB_len]; omega)) oS (by simp [tab_len]) (by rw [numB_len]; omega)
    rw [numB_len] at hcp
    have hsp : splice (bys (tab 32 fun _ => 1#8)) 24 (bys (numB k)) = bys (nsumB T b) := by
      rw [nsumB, ← hk1, tab_const, splice]
      simp only [bys, List.map_replicate, List.map_append, List.length_map, numB_len, List.take_replicate, List.drop_replicate]
      simp
    rw [hsp] at hcp
    have hnl := nsumB_len T b
    have hMm := hk.len
    have hm1 := (kA.trans k1).len
    have oS2 := own_set (own_lt oS) (bys (nsumB T b))
    have oZ2 := own_set_ne' oZ1 (show M.length ≠ m.length by omega) (.row (bys (nsumB T b)) false)
    simp -implicitDefEqProofs (disch := (first | omega | (simp only [lenB, lowB_len, numB_len] <;> omega) | fail)) only [admQ, lenB, lowB_len, numB_len, aFill, AK.cls, implies_true, if_true, if_false, seval, -List.reduceReplicate, hcp, rowOf_own oS2, oS2, oZ2, own_set (own_lt oZ2), rowOf_own (own_set (own_lt oZ2) _)]
    have K1 := (hk.trans ((kA.trans k1).more (by simp)))
    have hNk : Nm m1 x W S (addN b T) := hN.kept0 (kA.trans k1)
    refine ⟨(K1.write (.inr (by omega)) _).write (.inr (Nat.le_refl _)) _, (hNk.kept (.set1 m1 M.length _) fun q hq => ?_).kept (.set1 _ m.length _) fun q hq => ?_⟩
    · have := hN.lt q hq; simp; omega
    · simp; rintro rfl; exact hW hq
theorem ans_nsum {m : Mem} {x : Nat} {W : List Nat} {S : List Sd} {T : List (List B8)} {bx : AV} {b : List B8} (hN : Nm m x W S T) (hb : RdB m bx b) (hd : ∀ q ∈ blkOf bx, q ∉ W) (hT : T.length ≤ 100000) (hl : b.length ≤ 100000) :
    Ans Try.prog 73 [.ptr x 0, bx] m fun r m' => r = .agg (bys (nsumB T b)) ∧ Kept W m m' ∧ Nm m' x W S (addN b T) := by
  refine ans_ret mixed ok73 ?_
  obtain ⟨bs, v, bt, h1, h2, h3, h4, rfl, h6, h7⟩ := hN.ex
  simp -implicitDefEqProofs (disch := (first | omega | (simp only [lenB, lowB_len, numB_len] <;> omega) | fail)) only [admQ, lenB, lowB_len, numB_len, aFill, AK.cls, implies_true, if_true, if_false, seval, -List.reduceReplicate, p73, r73]
  have k0 := Kept.app [] m [Blk.row (bys (List.replicate 32 0#8)) false]
  have o0 : own (m ++ [Blk.row (bys (List.replicate 32 0#8)) false]) m.length = some (bys (List.replicate 32 0#8)) := by rw [own_app_at0]; rfl
  generalize m ++ [Blk.row (bys (List.replicate 32 0#8)) false] = A at k0 o0
  have g1 := k0.own h1 (by simp)
  have g4 := h4.kept k0 (by simp)
  have lk : rLookup (.one .s) (.int .i64 0) true A [.map bt, .str (strOf b)] = some (lookR (fidx b T)) := g4.look tx_key tx_fit b
  have hW : m.length ∉ x :: bs :: bt :: blkOf v := fun h => by have := hN.lt _ h; omega
  have hb0 := hb.kept0 k0
  cases hf : fidx b T with
  | some i =>
    rw [hf] at lk
    have hin := List.mem_of_getElem? (fidx_some hf)
    have hpos : i + 1 = posN b T := by simp [posN, hf]
    have hi := fidx_lt hf
    simp -implicitDefEqProofs (disch := (first | omega | (simp only [lenB, lowB_len, numB_len] <;> omega) | fail)) only [admQ, lenB, lowB_len, numB_len, aFill, AK.cls, implies_true, if_true, if_false, seval, -List.reduceReplicate, rowOf_own g1, mapR, hb0.b2s, lk, lookR]
    refine wp_join2 [4, 5] (fun _ : Unit => [(4, .ptr m.length 0), (5, .int .i64 ((i + 1 : Nat) : Int))]) (fun _ M' => M' = A) rfl ?_ ?_
    · simp -implicitDefEqProofs (disch := (first | omega | (simp only [lenB, lowB_len, numB_len] <;> omega) | fail)) only [admQ, lenB, lowB_len, numB_len, aFill, AK.cls, implies_true, if_true, if_false, seval, -List.reduceReplicate, c73_1, joins, Bool.not_true]
      exact ⟨(), trivial⟩
    · rintro _ M' rfl
      exact nsumTail hT _ hpos (by omega) (k0.more (by simp)) (by rw [addN, if_pos hin]; exact hN.kept0 k0) o0 hW
  | none =>
    rw [hf] at lk
    have hin := fidx_none.mp hf
    have hpos : T.length + 1 = posN b T := by simp [posN, hf]
    simp -implicitDefEqProofs (disch := (first | omega | (simp only [lenB, lowB_len, numB_len] <;> omega) | fail)) only [admQ, lenB, lowB_len, numB_len, aFill, AK.cls, implies_true, if_true, if_false, seval, -List.reduceReplicate, rowOf_own g1, mapR, hb0.b2s, lk, lookR]
    refine wp_join2 [4, 5] (fun _ : Unit => [(4, .ptr m.length 0), (5, .int .i64 ((T.length + 1 : Nat) : Int))]) (fun _ M' => Kept (x :: bs :: bt :: blkOf v) m M' ∧ own M' m.length = some (bys (List.replicate 32 0#8)) ∧ Nm M' x (x :: bs :: bt :: blkOf v) S (T ++ [b])) rfl ?_ ?_
    · obtain ⟨m4, eM, mr4, k4⟩ := g4.add tx_key tx_fit hin
      have eM' : aMapSet (.one .s) A [.map bt, .str (strOf b), .int .i64 ((T.length + 1 : Nat) : Int)] = some (.tup [], m4) := eM
      have hbtx : bt ≠ x := MapR.ne_own h4 h1
      have x4 := k4.own g1 (by simpa using hbtx.symm)
      simp -implicitDefEqProofs (disch := (first | omega | (simp only [lenB, lowB_len, numB_len] <;> omega) | fail)) only [admQ, lenB, lowB_len, numB_len, aFill, AK.cls, implies_true, if_true, if_false, seval, -List.reduceReplicate, c73_1, joins, Bool.not_false, rowOf_own g1, mapR, g4.len, hb0.b2s, eM']
      have hbs : bs ≠ bt := h6
      refine ⟨(), (k0.more (by simp)).trans (k4.more fun q hq _ => by simp at hq; simp [hq]), k4.own o0 (by have := h4.lt; simp; omega), ⟨bs, v, bt, x4, (h2.kept k0 (by simp)).kept k4 (by simpa using h6), (h3.kept0 k0).kept k4 (by have := MapR.ne_gr h4 h3; simpa using fun b hb (h : b = bt) => this (h ▸ hb)), mr4, rfl, h6, h7⟩⟩
    · rintro _ M' ⟨hk, hz, hN'⟩
      exact nsumTail hT _ hpos (by omega) hk (by rw [addN, if_neg hin]; exact hN') hz hW
end Go.Proofs.Ytoegmnnecanhfaa
end
section
/- Names: what the statements share. -/
namespace Go.Proofs.Ytoegmnnecanhfaa
open Go Go.Adm
set_option linter.unusedSimpArgs false
set_option linter.unusedVariables false
set_option maxRecDepth 100000
/-- May it be sealed? -/
def mayP (s : Sd) : Prop := within s.1 ∧ within s.2.1
instance (s : Sd) : Decidable (mayP s) := by unfold mayP; infer_instance
theorem nsealB_len (S : List Sd) (s : Sd) : (nsealB S s).length = s.2.2.2.length + 32 := by simp [nsealB, zeros, numB_len]
theorem nopenP_seal {S : List Sd} {e n : Int} {head plain : List B8} (S' : List Sd) (h : fidx (e, n, head, plain) S' = some (posN (e, n, head, plain) S - 1)) : nopenP S' e n head (nsealB S (e, n, head, plain)) ∧ (nsealB S (e, n, head, plain)).take ((nsealB S (e, n, head, plain)).length - 32) = plain := by
  have hl := nsealB_len S (e, n, head, plain)
  simp only at hl
  have e0 : (nsealB S (e, n, head, plain)).length - 32 = plain.length := by omega
  have e1 : (nsealB S (e, n, head, plain)).take plain.length = plain := by simp [nsealB]
  have e2 : (nsealB S (e, n, head, plain)).drop plain.length = zeros 24 ++ numB (posN (e, n, head, plain) S) := by simp [nsealB]
  rw [nopenP, e0, e1]
  refine ⟨⟨by omega, _, h, ?_⟩, rfl⟩
  rw [e2]; rfl
end Go.Proofs.Ytoegmnnecanhfaa
end
section
/- Names: sums are apart just if the texts are. -/
namespace Go.Proofs.Ytoegmnnecanhfaa
open Go Go.Adm
set_option linter.unusedSimpArgs false
set_option linter.unusedVariables false
set_option maxRecDepth 100000
theorem fidx_add {α : Type} [DecidableEq α] {a b : α} {T : List α} {i : Nat} (h : fidx a T = some i) : fidx a (addN b T) = some i := by
  unfold addN; split
  · exact h
  · exact fidx_append h
theorem fidx_addself {α : Type} [DecidableEq α] (a : α) (T : List α) : fidx a (addN a T) = some (posN a T - 1) := by
  unfold addN posN
  by_cases h : a ∈ T
  · rw [if_pos h]
    cases hf : fidx a T with
    | none => exact absurd h (fidx_none.mp hf)
    | some i => simp
  · rw [if_neg h, fidx_new h, fidx_none.mpr h]; simp
theorem addN_len {α : Type} [DecidableEq α] (a : α) (T : List α) : (addN a T).length ≤ T.length + 1 := by
  unfold addN; split <;> simp
theorem posN_le {α : Type} [DecidableEq α] (a : α) (T : List α) : 1 ≤ posN a T ∧ posN a T ≤ T.length + 1 := by
  unfold posN
  cases hf : fidx a T with
  | none => simp
  | some i => have := fidx_lt hf; simp; omega
theorem addN_in {α : Type} [DecidableEq α] {a : α} {T : List α} {n : Nat} (h : fidx a T = some n) : addN a T = T ∧ posN a T = n + 1 :=
  ⟨if_pos (List.mem_of_getElem? (fidx_some h)), by simp [posN, h]⟩
end Go.Proofs.Ytoegmnnecanhfaa
end
section
/- Names: what is sealed stays. -/
namespace Go.Proofs.Ytoegmnnecanhfaa
open Go Go.Adm
set_option linter.unusedSimpArgs false
set_option linter.unusedVariables false
set_option maxRecDepth 100000
/-- What is remembered, and answered, behind a Seal. -/
def sealS2 (S : List Sd) (s : Sd) : List Sd := if mayP s then addN s S else S
def sealR (S : List Sd) (s : Sd) : List B8 := if mayP s then nsealB S s else []
theorem sealS2_len (S : List Sd) (s : Sd) : (sealS2 S s).length ≤ S.length + 1 := by
  unfold sealS2; split
  · exact addN_len s S
  · omega
theorem sealR_len (S : List Sd) (s : Sd) : (sealR S s).length ≤ s.2.2.2.length + 32 := by
  unfold sealR; split
  · rw [nsealB_len]; omega
  · simp
/-- Blocks that are none of a Names' own. -/
def Ap (B W : List Nat) : Prop := ∀ b ∈ B, b ∉ W
theorem Ap.new {B W W' : List Nat} {k : Nat} (h : Ap B W) (hW : ∀ b ∈ W', b ∈ W ∨ k ≤ b) (hB : ∀ b ∈ B, b < k) : Ap B W' := fun b hb hw => by
  rcases hW b hw with h1 | h1
  · exact h b hb h1
  · have := hB b hb; omega
theorem Ap.symm {B W : List Nat} (h : Ap B W) : Ap W B := fun b h1 h2 => h b h2 h1
theorem Ap.low {B W : List Nat} {k : Nat} (hB : ∀ b ∈ B, b < k) (hW : ∀ b ∈ W, k ≤ b) : Ap B W := fun b h1 h2 => by
  have := hB b h1
  have := hW b h2
  omega
theorem ans_nseal2 {m : Mem} {x : Nat} {W : List Nat} {S : List Sd} {T : List (List B8)} {hx bx : AV} {s : Sd} (hN : Nm m x W S T) (hh : RdB m hx s.2.2.1) (hb : RdB m bx s.2.2.2)
    (hd : Ap (blkOf bx) W) (hS : S.length ≤ 1000) (hl : s.2.2.1.length ≤ 100000 ∧ s.2.2.2.length ≤ 100000) :
    Ans Try.prog 72 [.ptr x 0, .int .i64 s.1, .int .i64 s.2.1, hx, bx] m fun r m' => ∃ W', Kept W m m' ∧ Nm m' x W' (sealS2 S s) T ∧ (∀ b ∈ W', b ∈ W ∨ m.length ≤ b) ∧ GrB m.length m' r (sealR S s) ∧ Ap (blkOf r) W' ∧ ∀ b ∈ blkOf r, m.length ≤ b ∧ b < m'.length := by
  obtain ⟨e, n, head, plain⟩ := s
  refine (ans_nseal hN hh hb hd hS hl).mono fun r m' ⟨h1, h2⟩ => ?_
  by_cases hp : mayP (e, n, head, plain)
  · obtain ⟨W', k, hN', hW, g, d⟩ := h1 hp
    refine ⟨W', k, by rw [sealS2, if_pos hp]; exact hN', hW, by rw [sealR, if_pos hp]; exact g, d, fun b hb => ⟨?_, g.lt b hb⟩⟩
    exact GrA.blk g (by intro h0; have := congrArg List.length h0; rw [List.length_map, nsealB_len] at this; simp at this) b hb
  · obtain ⟨rfl, k⟩ := h2 hp
    exact ⟨W, k.more (by simp), by rw [sealS2, if_neg hp]; exact hN.kept0 k, fun b hb => .inl hb, by rw [sealR, if_neg hp]; exact .nils .., by simp [Ap, blkOf], by simp [blkOf]⟩
end Go.Proofs.Ytoegmnnecanhfaa
end
section
/- Names: nothing is forged. -/
namespace Go.Proofs.Ytoegmnnecanhfaa
open Go Go.Adm
set_option linter.unusedSimpArgs false
set_option linter.unusedVariables false
set_option maxRecDepth 100000
theorem mem_seal {S : List Sd} {s t : Sd} : t ∈ sealS2 S s ↔ t ∈ S ∨ (t = s ∧ mayP s) := by
  unfold sealS2 addN
  by_cases hp : mayP s
  · rw [if_pos hp]
    by_cases hs : s ∈ S
    · rw [if_pos hs]
      constructor
      · exact .inl
      · rintro (h | ⟨rfl, _⟩)
        · exact h
        · exact hs
    · rw [if_neg hs]; simp [hp]
  · rw [if_neg hp]; simp [hp]
theorem fidx_seal {S : List Sd} {s t : Sd} {i : Nat} (h : fidx t S = some i) : fidx t (sealS2 S s) = some i := by
  unfold sealS2; split
  · exact fidx_add h
  · exact h
end Go.Proofs.Ytoegmnnecanhfaa
end
section
/- Sectors: numbers as bytes. -/
namespace Go.Proofs.Ytoegmnnecanhfaa
open Go Go.Adm
set_option linter.unusedSimpArgs false
set_option linter.unusedVariables false
/-- The number that bytes are, the highest first. -/
def beN (l : List B8) : Nat := l.foldl (fun a b => a * 256 + b.toNat) 0
theorem beN_snoc (l : List B8) (b : B8) : beN (l ++ [b]) = beN l * 256 + b.toNat := by simp [beN]
theorem snoc_of {l : List B8} {n : Nat} (h : l.length = n + 1) : ∃ l' b, l = l' ++ [b] ∧ l'.length = n := by
  have h0 : l ≠ [] := by rintro rfl; simp at h
  exact ⟨l.dropLast, l.getLast h0, (List.dropLast_concat_getLast h0).symm, by rw [List.length_dropLast]; omega⟩
theorem beN_lt : ∀ (n : Nat) (l : List B8), l.length = n → beN l < 256 ^ n := by
  intro n
  induction n with
  | zero => intro l h; rw [List.length_eq_zero_iff.mp h]; simp [beN]
  | succ n ih =>
    intro l h
    obtain ⟨l, b, rfl, h'⟩ := snoc_of h
    rw [beN_snoc]
    have := ih l h'
    have hb := b.isLt
    rw [Nat.pow_succ]
    omega
theorem byV_next (v k : Nat) : byV v (k + 1) = byV (v >>> 8) k := by
  unfold byV
  rw [← Nat.shiftRight_add]
  congr 2
  omega
theorem byV_zero (v : Nat) : (byV v 0).toNat = v % 256 := by simp [byV]
theorem lowB_succ (v n : Nat) : lowB v (n + 1) = lowB (v >>> 8) n ++ [byV v 0] := by
  rw [lowB, tab_succ]
  congr 1
  · refine tab_ext fun i hi => ?_
    rw [show n + 1 - 1 - i = (n - 1 - i) + 1 by omega, byV_next]
  · rw [show n + 1 - 1 - n = 0 by omega]
theorem beN_lowB : ∀ (n v : Nat), beN (lowB v n) = v % 256 ^ n := by
  intro n
  induction n with
  | zero => intro v; simp [lowB, tab, beN, Nat.mod_one]
  | succ n ih =>
    intro v
    have e : v >>> 8 = v / 256 := Nat.shiftRight_eq_div_pow v 8
    rw [lowB_succ, beN_snoc, ih, byV_zero, e, Nat.pow_succ, Nat.mul_comm (256 ^ n), Nat.mod_mul]
    omega
theorem lowB_beN : ∀ (n : Nat) (l : List B8), l.length = n → lowB (beN l) n = l := by
  intro n
  induction n with
  | zero => intro l h; rw [List.length_eq_zero_iff.mp h]; rfl
  | succ n ih =>
    intro l h
    obtain ⟨l, b, rfl, h'⟩ := snoc_of h
    have hb := b.isLt
    rw [lowB_succ, beN_snoc]
    congr 1
    · rw [show (beN l * 256 + b.toNat) >>> 8 = beN l by rw [Nat.shiftRight_eq_div_pow]; omega]
      exact ih l h'
    · congr 1
      apply BitVec.eq_of_toNat_eq
      rw [byV_zero]
      omega
theorem beN_numB {v : Nat} (h : v < 18446744073709551616) : beN (numB v) = v := by
  rw [numB, beN_lowB]
  exact Nat.mod_eq_of_lt h
theorem numB_beN {l : List B8} (h : l.length = 8) : numB (beN l) = l := lowB_beN 8 l h
/-- The integer that eight bytes are read as. -/
def intB (l : List B8) : Int := IntKind.i64.wrap (beN l : Int)
end Go.Proofs.Ytoegmnnecanhfaa
end
section
/- Numbers as bytes: the program's packing. -/
namespace Go.Proofs.Ytoegmnnecanhfaa
open Go Go.Adm
set_option linter.unusedSimpArgs false
set_option linter.unusedVariables false
set_option maxRecDepth 100000
/-- Bytes that fill a block that was made for them. -/
def OwB (m0 : Nat) (m : Mem) (x : AV) (l : List B8) : Prop := ∃ p, x = .sl p 0 l.length l.length 0 ∧ own m p = some (bys l) ∧ m0 ≤ p
theorem OwB.rd {m0 : Nat} {m : Mem} {x : AV} {l : List B8} (h : OwB m0 m x l) : RdB m x l := by
  obtain ⟨p, rfl, ho, _⟩ := h
  exact RdB.row l.length 0 (rowOf_own ho) (Nat.le_refl _)
theorem OwB.kept {m0 : Nat} {m m' : Mem} {x : AV} {l : List B8} {X : List Nat} (h : OwB m0 m x l) (hk : Kept X m m') (hX : ∀ b ∈ blkOf x, b ∉ X) : OwB m0 m' x l := by
  obtain ⟨p, rfl, ho, h3⟩ := h
  exact ⟨p, rfl, hk.own ho (hX p (by simp [blkOf])), h3⟩
theorem OwB.kept0 {m0 : Nat} {m m' : Mem} {x : AV} {l : List B8} (h : OwB m0 m x l) (hk : Kept [] m m') : OwB m0 m' x l := h.kept hk (by simp)
theorem OwB.low {m0 : Nat} {m : Mem} {x : AV} {l : List B8} (h : OwB m0 m x l) : ∀ b ∈ blkOf x, m0 ≤ b := by
  obtain ⟨p, rfl, _, h⟩ := h
  simpa [blkOf] using h
/-- A slice that may be spoilt: nil, or all of a block of its own. -/
def SPb (m0 : Nat) (m : Mem) (x : AV) (l : List B8) : Prop := (x = .nils ∧ l = []) ∨ ∃ b cap s, x = .sl b 0 l.length cap s ∧ own m b = some (bys l) ∧ m0 ≤ b ∧ l.length ≤ cap ∧ (s = 0 ∨ s = 1)
theorem SPb.rd {m0 : Nat} {m : Mem} {x : AV} {l : List B8} (h : SPb m0 m x l) : RdB m x l := by
  rcases h with ⟨rfl, rfl⟩ | ⟨b, cap, s, rfl, ho, _, hc, hs⟩
  · exact .nils _
  · exact .row cap s (rowOf_own ho) hc hs
theorem SPb.kept {m0 : Nat} {m m' : Mem} {x : AV} {l : List B8} {X : List Nat} (h : SPb m0 m x l) (hk : Kept X m m') (hX : ∀ b ∈ blkOf x, b ∉ X) : SPb m0 m' x l := by
  rcases h with h | ⟨b, cap, s, rfl, ho, h3, h4⟩
  · exact .inl h
  · exact .inr ⟨b, cap, s, rfl, hk.own ho (hX b (by simp [blkOf])), h3, h4⟩
theorem SPb.kept0 {m0 : Nat} {m m' : Mem} {x : AV} {l : List B8} (h : SPb m0 m x l) (hk : Kept [] m m') : SPb m0 m' x l := h.kept hk (by simp)
theorem SPb.low {m0 : Nat} {m : Mem} {x : AV} {l : List B8} (h : SPb m0 m x l) : ∀ b ∈ blkOf x, m0 ≤ b := by
  rcases h with ⟨rfl, _⟩ | ⟨b, cap, s, rfl, ho, h3, h4⟩
  · simp [blkOf]
  · simp only [blkOf, List.mem_singleton]; rintro b rfl; exact h3
theorem SPb.weak {m0 m1 : Nat} {m : Mem} {x : AV} {l : List B8} (h : SPb m0 m x l) (hm : m1 ≤ m0) : SPb m1 m x l := by
  rcases h with h | ⟨b, cap, s, h1, h2, h3, h4⟩
  · exact .inl h
  · exact .inr ⟨b, cap, s, h1, h2, Nat.le_trans hm h3, h4⟩
theorem SPb.gr {m0 m1 : Nat} {m : Mem} {x : AV} {l : List B8} (g : GrB m0 m x l) (h : ∀ q ∈ blkOf x, m1 ≤ q) : SPb m1 m x l := by
  rcases g with ⟨h0, rfl | ⟨b, rfl, ho⟩⟩ | ⟨b, n, h1, h2, rfl, ho, h3⟩
  · exact .inl ⟨rfl, by simpa [bys] using h0⟩
  · obtain rfl : l = [] := by simpa [bys] using h0
    exact .inr ⟨b, 0, 0, rfl, ho, h b (by simp [blkOf]), Nat.le_refl _, .inl rfl⟩
  · have hn : l.length = n := by simpa [bys] using h2
    subst hn
    exact .inr ⟨b, _, 1, rfl, ho, h b (by simp [blkOf]), Nat.le_refl _, .inr rfl⟩
theorem OwB.sp {m0 : Nat} {m : Mem} {x : AV} {l : List B8} (h : OwB m0 m x l) : SPb m0 m x l := by
  obtain ⟨p, rfl, ho, hp⟩ := h
  exact .inr ⟨p, _, 0, rfl, ho, hp, Nat.le_refl _, .inl rfl⟩
/-- Bytes behind bytes that fill their block: a new block. -/
theorem OwB.app {m0 : Nat} {m : Mem} {x y : AV} {l l2 : List B8} (h : OwB m0 m x l) (hy : RdB m y l2) (hb : l.length + l2.length ≤ 1000000000) :
    ∃ x' m', aAppend 1 1 x y m = some (x', m') ∧ Kept [] m m' ∧ RdB m' x' (l ++ l2) ∧ (∀ b ∈ blkOf x', b ∈ blkOf x ∨ m.length ≤ b) ∧ cellsV x' = [x'] ∧ x'.solid = true ∧ SPb m0 m' x' (l ++ l2) := by
  have hr := h.rd
  have hsp := h.sp
  obtain ⟨p, rfl, ho, hp⟩ := h
  by_cases h2 : l2.length = 0
  · obtain rfl : l2 = [] := List.length_eq_zero_iff.mp h2
    exact ⟨_, m, app_none (by rw [hy.lenA]; rfl) rfl, .refl _ _, by rw [List.append_nil]; exact hr, fun b hb => .inl hb, rfl, rfl, by rw [List.append_nil]; exact hsp⟩
  · refine ⟨.sl m.length 0 (l.length + l2.length) (l.length + l2.length) 1, m ++ [.row (bys (l ++ l2)) false], ?_, .app _ _ _, ?_, by simp [blkOf], rfl, rfl, .inr ⟨m.length, _, 1, by rw [List.length_append], by rw [own_app_at0]; rfl, by have := own_lt ho; omega, by rw [List.length_append]; exact Nat.le_refl _, .inr rfl⟩⟩
    · unfold aAppend
      simp only [hy.lenA, Option.bind_some, if_neg h2, hy.elems, if_neg (show ¬ l.length + l2.length ≤ l.length by omega), if_pos (show (l.length + l2.length) * 1 ≤ 1099511627776 ∧ l.length + l2.length ≤ 1099511627776 by omega), hr.elems]
      simp [bys]
    · have := RdB.row (m := m ++ [.row (bys (l ++ l2)) false]) (l := l ++ l2) (b := m.length) (l ++ l2).length 1 (by rw [rowOf_app_at0]; rfl) (Nat.le_refl _)
      rwa [List.length_append] at this
/-- Bytes under way in a block that was made with room for n. -/
def Rm0 (m0 : Nat) (m : Mem) (x : AV) (l : List B8) (n : Nat) : Prop := ∃ p, x = .sl p 0 l.length n 0 ∧ own m p = some (bys (l ++ List.replicate (n - l.length) 0#8)) ∧ m0 ≤ p ∧ l.length ≤ n
theorem Rm0.push {m0 n : Nat} {m : Mem} {x y : AV} {l l2 : List B8} (h : Rm0 m0 m x l n) (hy : RdB m y l2) (hb : l.length + l2.length ≤ n) :
    ∃ x' m', aAppend 1 1 x y m = some (x', m') ∧ Rm0 m0 m' x' (l ++ l2) n ∧ Kept (blkOf x) m m' := by
  by_cases h2 : l2.length = 0
  · obtain rfl : l2 = [] := List.length_eq_zero_iff.mp h2
    refine ⟨x, m, app_none (by rw [hy.lenA]; rfl) ?_, by rwa [List.append_nil], .refl _ _⟩
    obtain ⟨p, rfl, _⟩ := h; rfl
  · obtain ⟨p, rfl, ho, hp, hl⟩ := h
    refine ⟨.sl p 0 (l.length + l2.length) n 0, m.set p (.row (bys (l ++ l2 ++ List.replicate (n - (l.length + l2.length)) 0#8)) false), ?_, ⟨p, by simp, ?_, hp, by simpa using hb⟩, .set1 _ _ _⟩
    · unfold aAppend
      simp only [hy.lenA, Option.bind_some, if_neg h2, hy.elems, if_pos hb, ho, Nat.mul_one, Nat.zero_add]
      rw [if_pos ⟨by simp; omega, by simp⟩]
      congr 3
      congr 1
      rw [splice]
      show List.take l.length ((l ++ List.replicate (n - l.length) 0#8).map b8) ++ l2.map b8 ++ List.drop (l.length + (l2.map b8).length) ((l ++ List.replicate (n - l.length) 0#8).map b8) = _
      rw [← List.map_take, ← List.map_drop, ← List.map_append, ← List.map_append, List.take_left' rfl, List.length_map, List.drop_append, List.drop_replicate, List.drop_of_length_le (by omega), List.nil_append, show n - l.length - (l.length + l2.length - l.length) = n - (l.length + l2.length) by omega]
    · rw [own_set (own_lt ho)]; simp
theorem Rm0.all {m0 n : Nat} {m : Mem} {x : AV} {l : List B8} (h : Rm0 m0 m x l n) (hl : l.length = n) : OwB m0 m x l := by
  obtain ⟨p, rfl, ho, hp, _⟩ := h
  subst hl
  rw [Nat.sub_self] at ho
  simp only [List.replicate_zero, List.append_nil] at ho
  exact ⟨p, rfl, ho, hp⟩
theorem Rm0.low {m0 n : Nat} {m : Mem} {x : AV} {l : List B8} (h : Rm0 m0 m x l n) : ∀ b ∈ blkOf x, m0 ≤ b := by
  obtain ⟨p, rfl, _, hp, _⟩ := h
  simpa [blkOf] using hp
theorem rm0_new (m : Mem) (n : Nat) : Rm0 m.length (m ++ [.row (rep n [.int .u8 0]) false]) (.sl m.length 0 0 n 0) [] n := by
  refine ⟨m.length, rfl, ?_, Nat.le_refl _, Nat.zero_le _⟩
  rw [own_app_at0]
  have hr : rep n [AV.int .u8 0] = bys (List.replicate n 0#8) := by rw [← bys_rep]; simp [rep]
  simp [own_c0, hr]
theorem ans_pbehind {m : Mem} {x y : AV} {l l2 : List B8} (hx : RdB m x l) (hy : RdB m y l2) (hb : l.length + l2.length ≤ 1000000000) :
    Ans Try.prog 40 [x, y] m fun r m' => Kept [] m m' ∧ OwB m.length m' r (l ++ l2) := by
  refine ans_ret mixed ok40 ?_
  simp -implicitDefEqProofs (disch := (first | omega | (simp only [lenB, lowB_len, numB_len, nsumB_len] <;> omega) | fail)) only [admQ, lenB, lowB_len, numB_len, nsumB_len, aFill, AK.cls, implies_true, if_true, if_false, seval, -List.reduceReplicate, c40, r40, hx.len, hy.len]
  have k0 := Kept.app [] m [Blk.row (rep (l.length + l2.length) [.int .u8 0]) false]
  have g0 := rm0_new m (l.length + l2.length)
  generalize m ++ [Blk.row (rep (l.length + l2.length) [.int .u8 0]) false] = A at *
  obtain ⟨x1, m1, e1, g1, k1⟩ := g0.push (hx.kept0 k0) (by simp)
  refine someW_eq e1 ?_
  have K1 : Kept [] m m1 := k0.upon k1 g0.low
  obtain ⟨x2, m2, e2, g2, k2⟩ := g1.push (hy.kept0 K1) (by simp)
  simp -implicitDefEqProofs (disch := (first | omega | (simp only [lenB, lowB_len, numB_len, nsumB_len] <;> omega) | fail)) only [admQ, lenB, lowB_len, numB_len, nsumB_len, aFill, AK.cls, implies_true, if_true, if_false, seval, -List.reduceReplicate]
  refine someW_eq e2 ?_
  simp -implicitDefEqProofs (disch := (first | omega | (simp only [lenB, lowB_len, numB_len, nsumB_len] <;> omega) | fail)) only [admQ, lenB, lowB_len, numB_len, nsumB_len, aFill, AK.cls, implies_true, if_true, if_false, seval, -List.reduceReplicate]
  exact ⟨K1.upon k2 g1.low, g2.all (by simp)⟩
theorem ans_peight (v : Nat) (hv : v < 4611686018427387904) (m : Mem) : Ans Try.prog 41 [.int .i64 v] m fun r m' => Kept [] m m' ∧ OwB m.length m' r (numB v) := by
  refine ans_ret mixed ok41 ?_
  have hw : ∀ k : Nat, IntKind.u8.wrap ((v >>> (8 * k) : Nat) : Int) = ((byV v k).toNat : Int) := fun k => wrap_u8 _
  have h7 : IntKind.u8.wrap ((v >>> 56 : Nat) : Int) = ((byV v 7).toNat : Int) := hw 7
  have h6 : IntKind.u8.wrap ((v >>> 48 : Nat) : Int) = ((byV v 6).toNat : Int) := hw 6
  have h5 : IntKind.u8.wrap ((v >>> 40 : Nat) : Int) = ((byV v 5).toNat : Int) := hw 5
  have h4 : IntKind.u8.wrap ((v >>> 32 : Nat) : Int) = ((byV v 4).toNat : Int) := hw 4
  have h3 : IntKind.u8.wrap ((v >>> 24 : Nat) : Int) = ((byV v 3).toNat : Int) := hw 3
  have h2 : IntKind.u8.wrap ((v >>> 16 : Nat) : Int) = ((byV v 2).toNat : Int) := hw 2
  have h1 : IntKind.u8.wrap ((v >>> 8 : Nat) : Int) = ((byV v 1).toNat : Int) := hw 1
  have h0 : IntKind.u8.wrap (v : Int) = ((byV v 0).toNat : Int) := hw 0
  simp -implicitDefEqProofs (disch := (first | omega | (simp only [lenB, lowB_len, numB_len, nsumB_len] <;> omega) | fail)) only [admQ, lenB, lowB_len, numB_len, nsumB_len, aFill, AK.cls, implies_true, if_true, if_false, seval, -List.reduceReplicate, c41, r41, fdiv_nat, @nw64, h0, h1, h2, h3, h4, h5, h6, h7]
  exact ⟨.app _ _ _, m.length, by rw [numB_len], by rw [own_app_at0]; rfl, Nat.le_refl _⟩
theorem ans_pint {m : Mem} {x : AV} {l : List B8} (v : Nat) (hv : v < 4611686018427387904) (hx : RdB m x l) (hb : l.length ≤ 900000000) :
    Ans Try.prog 24 [x, .int .i64 v] m fun r m' => Kept [] m m' ∧ OwB m.length m' r (l ++ numB v) := by
  refine ans_ret mixed ok24 ?_
  simp -implicitDefEqProofs (disch := (first | omega | (simp only [lenB, lowB_len, numB_len, nsumB_len] <;> omega) | fail)) only [admQ, lenB, lowB_len, numB_len, nsumB_len, aFill, AK.cls, implies_true, if_true, if_false, seval, -List.reduceReplicate, c24, r24]
  refine (ans_peight v hv m).mono ?_
  rintro y m1 ⟨k1, g1⟩
  simp -implicitDefEqProofs (disch := (first | omega | (simp only [lenB, lowB_len, numB_len, nsumB_len] <;> omega) | fail)) only [admQ, lenB, lowB_len, numB_len, nsumB_len, aFill, AK.cls, implies_true, if_true, if_false, seval, -List.reduceReplicate]
  refine (ans_pbehind (hx.kept0 k1) g1.rd (by rw [numB_len]; omega)).mono ?_
  rintro r m2 ⟨k2, g2⟩
  simp -implicitDefEqProofs (disch := (first | omega | (simp only [lenB, lowB_len, numB_len, nsumB_len] <;> omega) | fail)) only [admQ, lenB, lowB_len, numB_len, nsumB_len, aFill, AK.cls, implies_true, if_true, if_false, seval, -List.reduceReplicate]
  obtain ⟨p, e, ho, hp⟩ := g2
  exact ⟨k1.trans k2, p, e, ho, Nat.le_trans k1.len hp⟩
theorem num_step {U : Nat} {b : B8} (h : U < 72057594037927936) :
    IntKind.u64.wrap ((BitVec.ofInt IntKind.u64.bits (IntKind.u64.wrap ((U : Int) * 2 ^ Nat.min 8 IntKind.u64.bits)) ||| BitVec.ofInt IntKind.u64.bits (IntKind.u64.wrap ((BitVec.toNat b : Nat) : Int))).toNat : Int) = ((U * 256 + b.toNat : Nat) : Int) := by
  have hb := b.isLt
  have e0 : (U : Int) * 2 ^ Nat.min 8 IntKind.u64.bits = ((U * 256 : Nat) : Int) := by
    rw [show (2 : Int) ^ Nat.min 8 IntKind.u64.bits = 256 from by decide]; omega
  rw [e0, nw64 (show U * 256 < 18446744073709551616 by omega), nw64 (show b.toNat < 18446744073709551616 by omega)]
  show IntKind.u64.wrap ((BitVec.ofInt 64 ((U * 256 : Nat) : Int) ||| BitVec.ofInt 64 ((b.toNat : Nat) : Int)).toNat : Int) = _
  rw [BitVec.ofInt_natCast, BitVec.ofInt_natCast, BitVec.toNat_or, BitVec.toNat_ofNat, BitVec.toNat_ofNat, Nat.mod_eq_of_lt (show U * 256 < 2 ^ 64 by omega), Nat.mod_eq_of_lt (show b.toNat < 2 ^ 64 by omega)]
  have e1 : U * 256 ||| b.toNat = U * 256 + b.toNat := by
    have := Nat.shiftLeft_add_eq_or_of_lt (i := 8) (b := b.toNat) hb U
    rw [Nat.shiftLeft_eq] at this
    exact this.symm
  rw [e1, nw64 (by omega)]
theorem ans_pnumber {m : Mem} {x : AV} {l : List B8} (hx : RdB m x l) (hl : l.length = 8) : Ans Try.prog 44 [x] m fun r m' => r = .int .i64 (intB l) ∧ m' = m := by
  refine ans_ret mixed ok44 ?_
  simp -implicitDefEqProofs (disch := (first | omega | (simp only [lenB, lowB_len, numB_len, nsumB_len] <;> omega) | fail)) only [admQ, lenB, lowB_len, numB_len, nsumB_len, aFill, AK.cls, implies_true, if_true, if_false, seval, -List.reduceReplicate, c44, r44, hx.len]
  refine LoopW.on (fun i : Nat => [(3, .int .u64 (beN (l.take i) : Nat)), (6, x), (7, .int .i64 l.length), (8, .int .i64 i)]) (fun i => l.length - i) (fun i M => i ≤ l.length ∧ M = m) ?_ 0 _ _ rfl ⟨by omega, rfl⟩
  rintro i M X ⟨hi, rfl⟩ hX
  by_cases hlt : i < l.length
  · obtain ⟨b, o, cap, sl, c, rfl, hrow, hat, _⟩ := hx.cons hlt
    have e := hat i hlt
    simp -implicitDefEqProofs (disch := (first | omega | (simp only [lenB, lowB_len, numB_len, nsumB_len] <;> omega) | fail)) only [admQ, lenB, lowB_len, numB_len, nsumB_len, aFill, AK.cls, implies_true, if_true, if_false, seval, -List.reduceReplicate, hrow, e]
    refine hX (i + 1) _ _ ?_ (by omega) ⟨by omega, rfl⟩
    have hlt256 := beN_lt i (l.take i) (by rw [List.length_take]; omega)
    have hp : 256 ^ i ≤ 256 ^ 7 := Nat.pow_le_pow_right (by omega) (by omega)
    rw [num_step (by omega), ← beN_snoc, ← take_gb hlt]
    rfl
  · obtain rfl : i = l.length := by omega
    rw [List.take_length]
    simp -implicitDefEqProofs (disch := (first | omega | (simp only [lenB, lowB_len, numB_len, nsumB_len] <;> omega) | fail)) only [admQ, lenB, lowB_len, numB_len, nsumB_len, aFill, AK.cls, implies_true, if_true, if_false, seval, -List.reduceReplicate]
    rfl
/-- A reader at r: what is left lies in a block of its own; it is not bad. -/
def Rdr (m : Mem) (r : Nat) (l : List B8) : Prop := ∃ p o cap sl B, own m r = some [.sl p o l.length cap sl, .bool false] ∧ own m p = some B ∧ RdB m (.sl p o l.length cap sl) l ∧ p ≠ r
theorem ans_pread {m : Mem} {x : AV} {l : List B8} (hx : RdB m x l) (hb : l.length ≤ 900000000) : Ans Try.prog 27 [x] m fun r m' => Kept [] m m' ∧ ∃ p, r = .ptr p 0 ∧ m.length ≤ p ∧ Rdr m' p l := by
  refine ans_ret mixed ok27 ?_
  simp -implicitDefEqProofs (disch := (first | omega | (simp only [lenB, lowB_len, numB_len, nsumB_len] <;> omega) | fail)) only [admQ, lenB, lowB_len, numB_len, nsumB_len, aFill, AK.cls, implies_true, if_true, if_false, seval, -List.reduceReplicate, c27, r27]
  refine (ans_pbehind hx (.nils m) (by simp; omega)).mono ?_
  rintro y m1 ⟨k1, g1⟩
  rw [List.append_nil] at g1
  have hr := g1.rd
  obtain ⟨p, rfl, ho, hp⟩ := g1
  simp -implicitDefEqProofs (disch := (first | omega | (simp only [lenB, lowB_len, numB_len, nsumB_len] <;> omega) | fail)) only [admQ, lenB, lowB_len, numB_len, nsumB_len, aFill, AK.cls, implies_true, if_true, if_false, seval, -List.reduceReplicate]
  have hl := own_lt ho
  have hkl := k1.len
  exact ⟨k1.more_app _, m1.length, rfl, hkl, p, 0, l.length, 0, bys l, by rw [own_app_at0]; rfl, own_app ho _, hr.app _, by omega⟩
theorem ans_print {m : Mem} {r : Nat} {l : List B8} (h : Rdr m r l) (hl : 8 ≤ l.length) : Ans Try.prog 28 [.ptr r 0] m fun v m' => v = .int .i64 (intB (l.take 8)) ∧ Kept [r] m m' ∧ Rdr m' r (l.drop 8) := by
  refine ans_ret mixed ok28 ?_
  obtain ⟨p, o, cap, sl, B, h1, h2, h3, h4⟩ := h
  have htk : Ans Try.prog 43 [.ptr r 0, .int .i64 8, .fn (.func 44) [] []] m fun v m' => v = .int .i64 (intB (l.take 8)) ∧ Kept [r] m m' ∧ Rdr m' r (l.drop 8) := by
    refine ans_ret mixed ok43 ?_
    obtain ⟨_, _, _, _, cc, e, hrow, hat, hlen, hcap, hsl, htk⟩ := h3.cons (i := 0) (by omega)
    cases e
    have hr := own_lt h1
    have h1' := own_set hr [AV.sl p (o + 8) (l.length - 8) (cap - 8) sl, .bool false]
    simp -implicitDefEqProofs (disch := (first | omega | (simp only [lenB, lowB_len, numB_len, nsumB_len] <;> omega) | fail)) only [admQ, lenB, lowB_len, numB_len, nsumB_len, aFill, AK.cls, implies_true, if_true, if_false, seval, -List.reduceReplicate, c43, r43, rowOf_own h1, h1, rowOf_own h1']
    have kX := Kept.set1 m r (.row [AV.sl p (o + 8) (l.length - 8) (cap - 8) sl, .bool false] false)
    have h38 := h3.kept kX (fun b o n cap s e => by cases e; simpa using h4)
    refine (ans_pnumber (h38.take (k := 8) hl) (by simp; omega)).mono ?_
    rintro _ M ⟨rfl, hM⟩
    subst hM
    simp -implicitDefEqProofs (disch := (first | omega | (simp only [lenB, lowB_len, numB_len, nsumB_len] <;> omega) | fail)) only [admQ, lenB, lowB_len, numB_len, nsumB_len, aFill, AK.cls, implies_true, if_true, if_false, seval, -List.reduceReplicate]
    have hdr := h38.drop (k := 8) hl
    have hld : (l.drop 8).length = l.length - 8 := by simp
    refine ⟨kX, p, o + 8, cap - 8, sl, B, ?_, kX.own h2 (by simpa using h4), ?_, h4⟩
    · rw [hld]; exact h1'
    · rw [hld]; exact hdr
  simp -implicitDefEqProofs (disch := (first | omega | (simp only [lenB, lowB_len, numB_len, nsumB_len] <;> omega) | fail)) only [admQ, lenB, lowB_len, numB_len, nsumB_len, aFill, AK.cls, implies_true, if_true, if_false, seval, -List.reduceReplicate, c28, r28]
  refine htk.mono ?_
  rintro v m' ⟨rfl, h5, h6⟩
  simp -implicitDefEqProofs (disch := (first | omega | (simp only [lenB, lowB_len, numB_len, nsumB_len] <;> omega) | fail)) only [admQ, lenB, lowB_len, numB_len, nsumB_len, aFill, AK.cls, implies_true, if_true, if_false, seval, -List.reduceReplicate]
  exact ⟨h5, h6⟩
end Go.Proofs.Ytoegmnnecanhfaa
end
section
/- Either crypt: a box, or names. -/
namespace Go.Proofs.Ytoegmnnecanhfaa
open Go Go.Adm
set_option linter.unusedSimpArgs false
set_option linter.unusedVariables false
set_option maxRecDepth 100000
/-- What a crypt holds. -/
inductive CyS where
  | nm (S : List Sd) (T : List (List B8))
def cyT : CyS → TypeId
  | .nm _ _ => 39
def cySf : CyS → FuncId
  | .nm _ _ => 72
def cyOf : CyS → FuncId
  | .nm _ _ => 71
theorem cym_seal (s : CyS) : methodD Try.prog (cyT s) "Seal" = some (cySf s) := by
  cases s with
  | nm S T =>
    show methodD Try.prog 39 "Seal" = some 72
    kernel_rfl
theorem cym_open (s : CyS) : methodD Try.prog (cyT s) "Open" = some (cyOf s) := by
  cases s with
  | nm S T =>
    show methodD Try.prog 39 "Open" = some 71
    kernel_rfl
theorem cyn_seal (s : CyS) (b o : Nat) : pNil [.fn (.method "Seal") [.iface (cyT s) (.ptr b o)] []] = some (.fn (.method "Seal") [.iface (cyT s) (.ptr b o)] []) := by
  cases s <;> rfl
theorem cyn_open (s : CyS) (b o : Nat) : pNil [.fn (.method "Open") [.iface (cyT s) (.ptr b o)] []] = some (.fn (.method "Open") [.iface (cyT s) (.ptr b o)] []) := by
  cases s <;> rfl
/-- A crypt: at x; the blocks W are written, R are read. -/
def Cy (m : Mem) (x : Nat) (W R : List Nat) : CyS → Prop
  | .nm S T => Nm m x W S T ∧ R = W
def cyOk : CyS → Nat → Prop
  | .nm S _, k => S.length ≤ k
def cyNx (s : CyS) (d : Sd) : CyS := match s with
  | .nm S T => .nm (sealS2 S d) T
def cySl (s : CyS) (d : Sd) : List B8 := match s with
  | .nm S T => sealR S d
open Classical in
/-- What is opened. -/
noncomputable def cyOp (s : CyS) (e n : Int) (head b : List B8) : Option (List B8) := match s with
  | .nm S T => if nopenP S e n head b then some (b.take (b.length - 32)) else none
theorem Cy.sub {m : Mem} {x : Nat} {W R : List Nat} {s : CyS} (h : Cy m x W R s) : ∀ b ∈ W, b ∈ R := by
  cases s with
  | nm S T => obtain ⟨_, rfl⟩ := h; exact fun _ h => h
theorem Cy.lt {m : Mem} {x : Nat} {W R : List Nat} {s : CyS} (h : Cy m x W R s) : ∀ b ∈ R, b < m.length := by
  cases s with
  | nm S T => obtain ⟨h, rfl⟩ := h; exact h.lt
theorem Cy.kept {m m' : Mem} {x : Nat} {W R X : List Nat} {s : CyS} (h : Cy m x W R s) (hk : Kept X m m') (hX : ∀ b ∈ R, b ∉ X) : Cy m' x W R s := by
  cases s with
  | nm S T => obtain ⟨h, rfl⟩ := h; exact ⟨h.kept hk hX, rfl⟩
theorem Cy.kept0 {m m' : Mem} {x : Nat} {W R : List Nat} {s : CyS} (h : Cy m x W R s) (hk : Kept [] m m') : Cy m' x W R s := h.kept hk (by simp)
theorem cyT_nx (s : CyS) (d : Sd) : cyT (cyNx s d) = cyT s := by cases s <;> rfl
theorem cySl_len (s : CyS) (d : Sd) : (cySl s d).length ≤ d.2.2.2.length + 32 := by
  cases s with
  | nm S T => exact sealR_len S d
theorem ans_cyseal {m : Mem} {x : Nat} {W R : List Nat} {s : CyS} {d : Sd} {hx bx : AV} (hC : Cy m x W R s) (hh : RdB m hx d.2.2.1) (hb : RdB m bx d.2.2.2) (hd : ∀ b ∈ blkOf bx, b ∉ W) (hk : cyOk s 1000) (hl : d.2.2.1.length ≤ 100000 ∧ d.2.2.2.length ≤ 100000) :
    Ans Try.prog (cySf s) [.ptr x 0, .int .i64 d.1, .int .i64 d.2.1, hx, bx] m fun r m' => ∃ W' R', Kept W m m' ∧ Cy m' x W' R' (cyNx s d) ∧ (∀ b ∈ R', b ∈ R ∨ m.length ≤ b) ∧ GrB m.length m' r (cySl s d) ∧ ∀ b ∈ blkOf r, m.length ≤ b ∧ b ∉ R' := by
  cases s with
  | nm S T =>
    obtain ⟨hN, rfl⟩ := hC
    refine (ans_nseal2 hN hh hb hd hk hl).mono ?_
    rintro r m' ⟨W', k1, hN', hW, g, ap, lo⟩
    exact ⟨W', W', k1, ⟨hN', rfl⟩, hW, g, fun b hb => ⟨(lo b hb).1, ap b hb⟩⟩
theorem ans_cyopenS {m : Mem} {x : Nat} {W R : List Nat} {s : CyS} {e n : Int} {head b : List B8} {hx bx : AV} (hC : Cy m x W R s) (hh : RdB m hx head) (hb : RdB m bx b) (hk : cyOk s 1000) (hl : head.length ≤ 100000 ∧ b.length ≤ 100000) :
    Ans Try.prog (cyOf s) [.ptr x 0, .int .i64 e, .int .i64 n, hx, bx] m fun r m' => Kept [] m m' ∧ ∃ v, r = .tup [v, .bool (cyOp s e n head b).isSome] ∧ SPb m.length m' v ((cyOp s e n head b).getD []) := by
  cases s with
  | nm S T =>
    obtain ⟨hN, rfl⟩ := hC
    refine (ans_nopen (e := e) (n := n) hN hh hb hk hl).mono ?_
    rintro r m' ⟨k1, h1, h2⟩
    refine ⟨k1, ?_⟩
    simp only [cyOp]
    by_cases hp : nopenP S e n head b
    · obtain ⟨v, rfl, g, hv⟩ := h1 hp
      rw [if_pos hp]
      exact ⟨v, rfl, .gr g hv⟩
    · rw [if_neg hp]
      exact ⟨.nils, h2 hp, .inl ⟨rfl, rfl⟩⟩
end Go.Proofs.Ytoegmnnecanhfaa
end
section
/- Sectors: put and got, with either crypt. -/
namespace Go.Proofs.Ytoegmnnecanhfaa
open Go Go.Adm
set_option linter.unusedSimpArgs false
set_option linter.unusedVariables false
set_option maxRecDepth 100000
/-- A sector: its kind, epoch, number, place, plain text. -/
structure Sec where
  k : Int
  e : Int
  n : Int
  a : Int
  p : List B8
deriving DecidableEq
def secV (s : Sec) (v : AV) : AV := .agg [.int .i64 s.k, .int .i64 s.e, .int .i64 s.n, .int .i64 s.a, v]
def rightP (e n a : Int) : Prop := (0 ≤ e ∧ 0 ≤ n ∧ 0 ≤ a) ∧ (e ≤ 1099511627776 ∧ n ≤ 1099511627776) ∧ a < 4096
instance (e n a : Int) : Decidable (rightP e n a) := by unfold rightP; infer_instance
theorem ans_scright (e n a : Int) (m : Mem) : Ans Try.prog 47 [.int .i64 e, .int .i64 n, .int .i64 a] m fun r m' => r = .bool (decide (rightP e n a)) ∧ m' = m := by
  refine ans_ret mixed ok47 ?_
  by_cases h1 : min (min e n) a ≥ 0
  · have hmx : (if n > e then n else e) = max e n := by omega
    by_cases h2 : max e n ≤ 1099511627776
    · by_cases h3 : a < 4096
      · simp -implicitDefEqProofs (disch := (first | omega | (simp only [lenB, lowB_len, numB_len, nsumB_len] <;> omega) | fail)) only [admQ, lenB, lowB_len, numB_len, nsumB_len, aFill, AK.cls, implies_true, if_true, if_false, seval, -List.reduceReplicate, c47, r47, dec_t h1, hmx, dec_t h2, dec_t h3, dec_t (show rightP e n a from ⟨by omega, by omega, h3⟩)]
      · simp -implicitDefEqProofs (disch := (first | omega | (simp only [lenB, lowB_len, numB_len, nsumB_len] <;> omega) | fail)) only [admQ, lenB, lowB_len, numB_len, nsumB_len, aFill, AK.cls, implies_true, if_true, if_false, seval, -List.reduceReplicate, c47, r47, dec_t h1, hmx, dec_t h2, dec_f h3, dec_f (show ¬ rightP e n a from fun h => h3 h.2.2)]
    · simp -implicitDefEqProofs (disch := (first | omega | (simp only [lenB, lowB_len, numB_len, nsumB_len] <;> omega) | fail)) only [admQ, lenB, lowB_len, numB_len, nsumB_len, aFill, AK.cls, implies_true, if_true, if_false, seval, -List.reduceReplicate, c47, r47, dec_t h1, hmx, dec_f h2, dec_f (show ¬ rightP e n a from fun h => h2 (by have := h.2.1; omega))]
  · simp -implicitDefEqProofs (disch := (first | omega | (simp only [lenB, lowB_len, numB_len, nsumB_len] <;> omega) | fail)) only [admQ, lenB, lowB_len, numB_len, nsumB_len, aFill, AK.cls, implies_true, if_true, if_false, seval, -List.reduceReplicate, c47, r47, dec_f h1, dec_f (show ¬ rightP e n a from fun h => h1 (by have := h.1; omega))]
def kB (k : Int) : B8 := BitVec.ofInt 8 k
/-- What is sealed with a plain text. -/
def headB (k : Int) (a : Nat) : List B8 := kB k :: numB a
theorem headB_len (k : Int) (a : Nat) : (headB k a).length = 9 := by simp [headB, numB_len]
theorem ans_schead (k : Int) (a : Nat) (ha : a < 4611686018427387904) (m : Mem) : Ans Try.prog 48 [.int .i64 k, .int .i64 a] m fun r m' => Kept [] m m' ∧ OwB m.length m' r (headB k a) := by
  refine ans_ret mixed ok48 ?_
  have hw : IntKind.u8.wrap k = ((kB k).toNat : Int) := wr_u8 k
  simp -implicitDefEqProofs (disch := (first | omega | (simp only [lenB, lowB_len, numB_len, nsumB_len] <;> omega) | fail)) only [admQ, lenB, lowB_len, numB_len, nsumB_len, aFill, AK.cls, implies_true, if_true, if_false, seval, -List.reduceReplicate, c48, r48, hw]
  have hr := RdB.row (m := m ++ [Blk.row [b8 (kB k)] false]) (l := [kB k]) 1 0 (rowOf_app_at0 m _) (by simp)
  refine (ans_pint a ha hr (by simp)).mono ?_
  rintro r m' ⟨h1, p, h2, h3, h4⟩
  simp -implicitDefEqProofs (disch := (first | omega | (simp only [lenB, lowB_len, numB_len, nsumB_len] <;> omega) | fail)) only [admQ, lenB, lowB_len, numB_len, nsumB_len, aFill, AK.cls, implies_true, if_true, if_false, seval, -List.reduceReplicate]
  rw [List.length_append] at h4
  exact ⟨(Kept.app [] m _).trans h1, p, h2, h3, by omega⟩
/-- The kind that bytes claim. -/
def kindB (b : List B8) : Int := if b.length < 17 ∨ (gb b 0).toNat < 1 ∨ 5 < (gb b 0).toNat then 0 else (gb b 0).toNat
theorem ans_sckind {m : Mem} {x : AV} {b : List B8} (hb : RdB m x b) : Ans Try.prog 50 [x] m fun r m' => r = .int .i64 (kindB b) ∧ m' = m := by
  refine ans_ret mixed ok50 ?_
  have hbl := (gb b 0).isLt
  unfold kindB
  by_cases h1 : b.length < 17
  · rw [if_pos (.inl h1)]
    simp -implicitDefEqProofs (disch := (first | omega | (simp only [lenB, lowB_len, numB_len, nsumB_len] <;> omega) | fail)) only [admQ, lenB, lowB_len, numB_len, nsumB_len, aFill, AK.cls, implies_true, if_true, if_false, seval, -List.reduceReplicate, c50, r50, hb.len, dec_t (show (b.length : Int) < 17 by omega)]
  · obtain ⟨q, o, cap, sl, cc, rfl, hrow, hat, _⟩ := hb.cons (i := 0) (by omega)
    have e0 := hat 0 (by omega)
    simp only [Nat.add_zero] at e0
    by_cases h2 : (gb b 0).toNat < 1
    · rw [if_pos (.inr (.inl h2))]
      simp -implicitDefEqProofs (disch := (first | omega | (simp only [lenB, lowB_len, numB_len, nsumB_len] <;> omega) | fail)) only [admQ, lenB, lowB_len, numB_len, nsumB_len, aFill, AK.cls, implies_true, if_true, if_false, seval, -List.reduceReplicate, c50, r50, hrow, e0, dec_f (show ¬ (b.length : Int) < 17 by omega), dec_t (show ((gb b 0).toNat : Int) < 1 by omega)]
    · by_cases h3 : 5 < (gb b 0).toNat
      · rw [if_pos (.inr (.inr h3))]
        simp -implicitDefEqProofs (disch := (first | omega | (simp only [lenB, lowB_len, numB_len, nsumB_len] <;> omega) | fail)) only [admQ, lenB, lowB_len, numB_len, nsumB_len, aFill, AK.cls, implies_true, if_true, if_false, seval, -List.reduceReplicate, c50, r50, hrow, e0, dec_f (show ¬ (b.length : Int) < 17 by omega), dec_f (show ¬ ((gb b 0).toNat : Int) < 1 by omega), dec_t (show ((gb b 0).toNat : Int) > 5 by omega)]
      · rw [if_neg (by omega)]
        simp -implicitDefEqProofs (disch := (first | omega | (simp only [lenB, lowB_len, numB_len, nsumB_len] <;> omega) | fail)) only [admQ, lenB, lowB_len, numB_len, nsumB_len, aFill, AK.cls, implies_true, if_true, if_false, seval, -List.reduceReplicate, c50, r50, hrow, e0, dec_f (show ¬ (b.length : Int) < 17 by omega), dec_f (show ¬ ((gb b 0).toNat : Int) < 1 by omega), dec_f (show ¬ ((gb b 0).toNat : Int) > 5 by omega), wrap_i64 (show (-9223372036854775808 : Int) ≤ ((gb b 0).toNat : Int) by omega) (show ((gb b 0).toNat : Int) < 9223372036854775808 by omega)]
end Go.Proofs.Ytoegmnnecanhfaa
end
section
/- Sectors: put. -/
namespace Go.Proofs.Ytoegmnnecanhfaa
open Go Go.Adm
set_option linter.unusedSimpArgs false
set_option linter.unusedVariables false
set_option maxRecDepth 100000
def okP (s : Sec) : Prop := (1 ≤ s.k ∧ s.k ≤ 5) ∧ rightP s.e s.n s.a ∧ s.p.length ≤ 975
instance (s : Sec) : Decidable (okP s) := by unfold okP; infer_instance
def errP (s : Sec) : Int := if s.k < 1 ∨ s.k > 5 then 5 else if ¬ rightP s.e s.n s.a then 7 else if s.p.length > 975 then 3 else 0
theorem errP_ok (s : Sec) : errP s = 0 ↔ okP s := by
  unfold errP okP
  constructor
  · intro h
    split at h
    · cases h
    · split at h
      · cases h
      · split at h
        · cases h
        · rename_i h1 h2 h3
          exact ⟨by omega, Decidable.not_not.mp h2, by omega⟩
  · rintro ⟨h1, h2, h3⟩
    rw [if_neg (by omega), if_neg (by simpa using h2), if_neg (by omega)]
/-- What is sealed of a sector. -/
def secD (s : Sec) : Sd := (s.e, s.n, headB s.k s.a.toNat, s.p)
def putB (c : CyS) (s : Sec) : List B8 := (kB s.k :: numB s.e.toNat) ++ numB s.n.toNat ++ cySl c (secD s)
def putL (c : CyS) (s : Sec) : List B8 := if okP s then putB c s else []
def putC (c : CyS) (s : Sec) : CyS := if okP s then cyNx c (secD s) else c
theorem ans_scputS {m : Mem} {x : Nat} {W R : List Nat} {c : CyS} {s : Sec} {v : AV} (hC : Cy m x W R c) (hv : RdB m v s.p) (hd : ∀ b ∈ blkOf v, b ∉ W) (hk : cyOk c 1000) (hl : s.p.length ≤ 100000) :
    Ans Try.prog 33 [.iface (cyT c) (.ptr x 0), secV s v] m fun r m' => ∃ W' R' w, Kept W m m' ∧ Cy m' x W' R' (putC c s) ∧ (∀ b ∈ R', b ∈ R ∨ m.length ≤ b) ∧ r = .tup [w, .int .i64 (errP s)] ∧ SPb m.length m' w (putL c s) ∧ ∀ b ∈ blkOf w, m.length ≤ b ∧ b ∉ R' := by
  refine ans_ret mixed ok33 ?_
  unfold secV
  have hno : ∀ (m' : Mem) (er : Int), ¬ okP s → errP s = er → Kept [] m m' → ∃ W' R' w, Kept W m m' ∧ Cy m' x W' R' (putC c s) ∧ (∀ b ∈ R', b ∈ R ∨ m.length ≤ b) ∧ AV.tup [.nils, .int .i64 er] = .tup [w, .int .i64 (errP s)] ∧ SPb m.length m' w (putL c s) ∧ ∀ b ∈ blkOf w, m.length ≤ b ∧ b ∉ R'   := fun m' er hn he hk =>
    ⟨W, R, .nils, hk.more (by simp), by rw [putC, if_neg hn]; exact hC.kept0 hk, fun b hb => .inl hb, by rw [he], by rw [putL, if_neg hn]; exact .inl ⟨rfl, rfl⟩, by simp [blkOf]⟩
  by_cases h1 : s.k < 1
  · have he : errP s = 5 := by rw [errP, if_pos (.inl h1)]
    have hn : ¬ okP s := fun h => by have := h.1; omega
    simp -implicitDefEqProofs (disch := (first | omega | (simp only [lenB, lowB_len, numB_len, nsumB_len] <;> omega) | fail)) only [admQ, lenB, lowB_len, numB_len, nsumB_len, aFill, AK.cls, implies_true, if_true, if_false, seval, -List.reduceReplicate, c33, r33, dec_t h1, (rd_one hv).1, (rd_one hv).2]
    exact hno _ _ hn he (.app _ _ _)
  by_cases h2 : s.k > 5
  · have he : errP s = 5 := by rw [errP, if_pos (.inr h2)]
    have hn : ¬ okP s := fun h => by have := h.1; omega
    simp -implicitDefEqProofs (disch := (first | omega | (simp only [lenB, lowB_len, numB_len, nsumB_len] <;> omega) | fail)) only [admQ, lenB, lowB_len, numB_len, nsumB_len, aFill, AK.cls, implies_true, if_true, if_false, seval, -List.reduceReplicate, c33, r33, dec_f h1, dec_t h2, (rd_one hv).1, (rd_one hv).2]
    exact hno _ _ hn he (.app _ _ _)
  simp -implicitDefEqProofs (disch := (first | omega | (simp only [lenB, lowB_len, numB_len, nsumB_len] <;> omega) | fail)) only [admQ, lenB, lowB_len, numB_len, nsumB_len, aFill, AK.cls, implies_true, if_true, if_false, seval, -List.reduceReplicate, c33, r33, dec_f h1, dec_f h2, (rd_one hv).1, (rd_one hv).2]
  have k0 := Kept.app [] m [Blk.row [.int .i64 s.k, .int .i64 s.e, .int .i64 s.n, .int .i64 s.a, v] false]
  have o0 : own (m ++ [Blk.row [.int .i64 s.k, .int .i64 s.e, .int .i64 s.n, .int .i64 s.a, v] false]) m.length = some [.int .i64 s.k, .int .i64 s.e, .int .i64 s.n, .int .i64 s.a, v] := by rw [own_app_at0]; rfl
  generalize m ++ [Blk.row [.int .i64 s.k, .int .i64 s.e, .int .i64 s.n, .int .i64 s.a, v] false] = A at k0 o0
  refine (ans_scright s.e s.n s.a A).mono ?_
  rintro _ M ⟨rfl, hM⟩
  subst hM
  by_cases h3 : rightP s.e s.n s.a
  · by_cases h4 : (s.p.length : Int) > 975
    · have he : errP s = 3 := by rw [errP, if_neg (by omega), if_neg (by simpa using h3), if_pos (by omega)]
      have hn : ¬ okP s := fun h => by have := h.2.2; omega
      simp -implicitDefEqProofs (disch := (first | omega | (simp only [lenB, lowB_len, numB_len, nsumB_len] <;> omega) | fail)) only [admQ, lenB, lowB_len, numB_len, nsumB_len, aFill, AK.cls, implies_true, if_true, if_false, seval, -List.reduceReplicate, dec_t h3, Bool.not_true, rowOf_own o0, (hv.kept0 k0).len, dec_t h4]
      exact hno _ _ hn he k0
    · have hok : okP s := ⟨by omega, h3, by omega⟩
      have he := (errP_ok s).mpr hok
      clear hno
      obtain ⟨k, e, n, a, p⟩ := s
      simp only at *
      obtain ⟨⟨r1, r2, r3⟩, ⟨r4, r5⟩, r6⟩ := id h3
      obtain ⟨e, rfl⟩ : ∃ e' : Nat, e = e' := ⟨e.toNat, by omega⟩
      obtain ⟨n, rfl⟩ : ∃ n' : Nat, n = n' := ⟨n.toNat, by omega⟩
      obtain ⟨a, rfl⟩ : ∃ a' : Nat, a = a' := ⟨a.toNat, by omega⟩
      have hw : IntKind.u8.wrap k = ((kB k).toNat : Int) := wr_u8 k
      simp -implicitDefEqProofs (disch := (first | omega | (simp only [lenB, lowB_len, numB_len, nsumB_len] <;> omega) | fail)) only [admQ, lenB, lowB_len, numB_len, nsumB_len, aFill, AK.cls, implies_true, if_true, if_false, seval, -List.reduceReplicate, dec_t h3, Bool.not_true, rowOf_own o0, (hv.kept0 k0).len, dec_f h4, hw]
      have k1 := Kept.app [] M [Blk.row [b8 (kB k)] false]
      have r1 := RdB.row (m := M ++ [Blk.row [b8 (kB k)] false]) (l := [kB k]) 1 0 (rowOf_app_at0 M _) (by simp)
      have e1 : (M ++ [Blk.row [b8 (kB k)] false])[M.length]? = some (.row [b8 (kB k)] false) := by simp
      generalize M ++ [Blk.row [b8 (kB k)] false] = B at *
      have o1 := k1.own o0 (by simp)
      simp -implicitDefEqProofs (disch := (first | omega | (simp only [lenB, lowB_len, numB_len, nsumB_len] <;> omega) | fail)) only [admQ, lenB, lowB_len, numB_len, nsumB_len, aFill, AK.cls, implies_true, if_true, if_false, seval, -List.reduceReplicate, rowOf_own o1]
      refine (ans_pint e (by omega) r1 (by simp)).mono ?_
      rintro y1 m1 ⟨k2, g2⟩
      have o2 := k2.own o1 (by simp)
      have e2 : m1[M.length]? = some (.row [b8 (kB k)] false) := by rw [k2.eq _ (lt_of_get e1) (by simp)]; exact e1
      simp -implicitDefEqProofs (disch := (first | omega | (simp only [lenB, lowB_len, numB_len, nsumB_len] <;> omega) | fail)) only [admQ, lenB, lowB_len, numB_len, nsumB_len, aFill, AK.cls, implies_true, if_true, if_false, seval, -List.reduceReplicate, rowOf_own o2, rowOf_own o1, e2]
      refine (ans_pint n (by omega) g2.rd (by simp [numB_len])).mono ?_
      rintro y2 m2 ⟨k3, g3⟩
      have o3 := k3.own o2 (by simp)
      have e3 : m2[M.length]? = some (.row [b8 (kB k)] false) := by rw [k3.eq _ (lt_of_get e2) (by simp)]; exact e2
      simp -implicitDefEqProofs (disch := (first | omega | (simp only [lenB, lowB_len, numB_len, nsumB_len] <;> omega) | fail)) only [admQ, lenB, lowB_len, numB_len, nsumB_len, aFill, AK.cls, implies_true, if_true, if_false, seval, -List.reduceReplicate, rowOf_own o3, rowOf_own o2, rowOf_own o1, e3]
      refine (ans_schead k a (by omega) m2).mono ?_
      rintro y3 m3 ⟨k4, g4⟩
      have o4 := k4.own o3 (by simp)
      have K4 := ((k0.trans k1).trans k2).trans (k3.trans k4)
      simp -implicitDefEqProofs (disch := (first | omega | (simp only [lenB, lowB_len, numB_len, nsumB_len] <;> omega) | fail)) only [admQ, lenB, lowB_len, numB_len, nsumB_len, aFill, AK.cls, implies_true, if_true, if_false, seval, -List.reduceReplicate, rowOf_own o4, rowOf_own o3, rowOf_own o2, cyn_seal c, opW_invoke _ (cym_seal c), opDW_invoke _ (cym_seal c)]
      refine (ans_cyseal (d := ((e : Int), (n : Int), headB k a, p)) (hC.kept0 K4) g4.rd (hv.kept0 K4) hd hk ⟨by rw [headB_len]; omega, hl⟩).mono ?_
      rintro z m4 ⟨W', R', kS, hC', hR', gz, hz⟩
      have hsd : secD ⟨k, e, n, a, p⟩ = ((e : Int), (n : Int), headB k a, p) := by simp [secD]
      have hRm : ∀ b ∈ R, b < m.length := hC.lt
      have hWR := hC.sub
      have nW : ∀ b, m.length ≤ b → b ∉ W := fun b h1 h2 => by have := hRm b (hWR b h2); omega
      have o5 := kS.own o4 (nW _ (Nat.le_refl _))
      have hm2 := ((k0.trans k1).trans k2).len
      have hm3 := K4.len
      have g3' := (g3.kept0 k4).kept kS fun b hb => nW b (by have := g3.low b hb; omega)
      have hsl := cySl_len c ((e : Int), (n : Int), headB k a, p)
      obtain ⟨w, m5, e5, k5, rw5, bw5, c5⟩ := OwB.app g3' gz.rd (by simp [numB_len]; simp at hsl; omega)
      simp -implicitDefEqProofs (disch := (first | omega | (simp only [lenB, lowB_len, numB_len, nsumB_len] <;> omega) | fail)) only [admQ, lenB, lowB_len, numB_len, nsumB_len, aFill, AK.cls, implies_true, if_true, if_false, seval, -List.reduceReplicate, rowOf_own o5, rowOf_own o4, rowOf_own o3, rowOf_own o2]
      refine someW_eq e5 ?_
      have o6 := k5.own o5 (by simp)
      simp -implicitDefEqProofs (disch := (first | omega | (simp only [lenB, lowB_len, numB_len, nsumB_len] <;> omega) | fail)) only [admQ, lenB, lowB_len, numB_len, nsumB_len, aFill, AK.cls, implies_true, if_true, if_false, seval, -List.reduceReplicate, rowOf_own o6, rowOf_own o5, rowOf_own o4, rowOf_own o3, rowOf_own o2]
      have hm1 := (k0.trans k1).len
      have hk2 := k2.len
      have hk3 := k3.len
      have hk4 := k4.len
      have hkS := kS.len
      have hY := g3.low
      have hRlt := hC'.lt
      have g3lt := g3.rd.blk_lt
      refine ⟨W', R', w, (K4.more (by simp)).trans (kS.trans (k5.more (by simp))), ?_, fun b hb => (hR' b hb).imp id fun h => by omega, ?_, ?_, fun b hb => ?_⟩
      · rw [putC, if_pos hok, hsd]; exact hC'.kept0 k5
      · rw [he]
      · rw [putL, if_pos hok, putB, hsd]
        refine SPb.weak (m0 := m1.length) (by simpa using c5.2.2) (by omega)
      · rcases bw5 b hb with h | h
        · have h1 := hY b h
          have h2 := g3lt b h
          refine ⟨by omega, fun h3 => ?_⟩
          rcases hR' b h3 with h4 | h4
          · have := hRm b h4; omega
          · omega
        · refine ⟨by omega, fun h3 => ?_⟩
          have := hRlt b h3; omega
  · have he : errP s = 7 := by rw [errP, if_neg (by omega), if_pos h3]
    have hn : ¬ okP s := fun h => h3 h.2.1
    simp -implicitDefEqProofs (disch := (first | omega | (simp only [lenB, lowB_len, numB_len, nsumB_len] <;> omega) | fail)) only [admQ, lenB, lowB_len, numB_len, nsumB_len, aFill, AK.cls, implies_true, if_true, if_false, seval, -List.reduceReplicate, dec_f h3, Bool.not_false]
    exact hno _ _ hn he k0
end Go.Proofs.Ytoegmnnecanhfaa
end
section
/- Sectors: got. -/
namespace Go.Proofs.Ytoegmnnecanhfaa
open Go Go.Adm
set_option linter.unusedSimpArgs false
set_option linter.unusedVariables false
set_option maxRecDepth 100000
theorem rdb_ap {X : List Nat} {m m' : Mem} {x : AV} {l : List B8} (h : RdB m x l) (hk : Kept X m m') (ha : ∀ b ∈ blkOf x, b ∉ X) : RdB m' x l :=
  h.kept hk fun b o n cap s e => ha b (by rw [e]; simp [blkOf])
def nE (b : List B8) : Int := intB ((b.drop 1).take 8)
def nN (b : List B8) : Int := intB ((b.drop 9).take 8)
open Classical in
noncomputable def getE (c : CyS) (k a : Int) (b : List B8) : Int :=
  if b.length < 17 then 2 else if b.length > 1024 then 3 else if k = 0 ∨ kindB b ≠ k then 5 else if ¬ rightP (nE b) (nN b) a then 7 else
  match cyOp c (nE b) (nN b) (headB k a.toNat) (b.drop 17) with
  | none => 19
  | some _ => 0
def sec0 : Sec := ⟨0, 0, 0, 0, []⟩
open Classical in
noncomputable def getS (c : CyS) (k a : Int) (b : List B8) : Sec :=
  if getE c k a b = 0 then ⟨k, nE b, nN b, a, (cyOp c (nE b) (nN b) (headB k a.toNat) (b.drop 17)).getD []⟩ else sec0
theorem ans_scgetS {m : Mem} {x : Nat} {W R : List Nat} {c : CyS} {k a : Int} {y : AV} {b : List B8} (hC : Cy m x W R c) (hy : RdB m y b) (hk : cyOk c 1000) (hl : b.length ≤ 100000) :
    Ans Try.prog 37 [.iface (cyT c) (.ptr x 0), .int .i64 k, .int .i64 a, y] m fun r m' => Kept [] m m' ∧ ∃ w, r = .tup [secV (getS c k a b) w, .int .i64 (getE c k a b)] ∧ SPb m.length m' w (getS c k a b).p := by
  refine ans_ret mixed ok37 ?_
  have hno : ∀ (m' : Mem) (er : Int), er ≠ 0 → getE c k a b = er → Kept [] m m' → Kept [] m m' ∧ ∃ w, AV.tup [.agg [.int .i64 0, .int .i64 0, .int .i64 0, .int .i64 0, .nils], .int .i64 er] = .tup [secV (getS c k a b) w, .int .i64 (getE c k a b)] ∧ SPb m.length m' w (getS c k a b).p := fun m' er h0 he hk => by
    rw [he]
    have hs : getS c k a b = sec0 := by rw [getS, he, if_neg h0]
    rw [hs]
    exact ⟨hk, .nils, rfl, .inl ⟨rfl, rfl⟩⟩
  by_cases h1 : b.length < 17
  · have he : getE c k a b = 2 := by rw [getE, if_pos h1]
    simp -implicitDefEqProofs (disch := (first | omega | (simp only [lenB, lowB_len, numB_len, nsumB_len] <;> omega) | fail)) only [admQ, lenB, lowB_len, numB_len, nsumB_len, aFill, AK.cls, implies_true, if_true, if_false, seval, -List.reduceReplicate, c37, r37, hy.len, dec_t (show (b.length : Int) < 17 by omega)]
    exact hno _ _ (by omega) he (.app _ _ _)
  by_cases h2 : b.length > 1024
  · have he : getE c k a b = 3 := by rw [getE, if_neg h1, if_pos h2]
    simp -implicitDefEqProofs (disch := (first | omega | (simp only [lenB, lowB_len, numB_len, nsumB_len] <;> omega) | fail)) only [admQ, lenB, lowB_len, numB_len, nsumB_len, aFill, AK.cls, implies_true, if_true, if_false, seval, -List.reduceReplicate, c37, r37, hy.len, dec_f (show ¬ (b.length : Int) < 17 by omega), dec_t (show (b.length : Int) > 1024 by omega)]
    exact hno _ _ (by omega) he (.app _ _ _)
  by_cases h3 : k = 0
  · have he : getE c k a b = 5 := by rw [getE, if_neg h1, if_neg h2, if_pos (.inl h3)]
    simp -implicitDefEqProofs (disch := (first | omega | (simp only [lenB, lowB_len, numB_len, nsumB_len] <;> omega) | fail)) only [admQ, lenB, lowB_len, numB_len, nsumB_len, aFill, AK.cls, implies_true, if_true, if_false, seval, -List.reduceReplicate, c37, r37, hy.len, dec_f (show ¬ (b.length : Int) < 17 by omega), dec_f (show ¬ (b.length : Int) > 1024 by omega), beq_iff_eq.mpr h3]
    exact hno _ _ (by omega) he (.app _ _ _)
  simp -implicitDefEqProofs (disch := (first | omega | (simp only [lenB, lowB_len, numB_len, nsumB_len] <;> omega) | fail)) only [admQ, lenB, lowB_len, numB_len, nsumB_len, aFill, AK.cls, implies_true, if_true, if_false, seval, -List.reduceReplicate, c37, r37, hy.len, dec_f (show ¬ (b.length : Int) < 17 by omega), dec_f (show ¬ (b.length : Int) > 1024 by omega), beq_eq_false_iff_ne.mpr h3]
  have k0 := Kept.app [] m [Blk.row [.int .i64 0, .int .i64 0, .int .i64 0, .int .i64 0, .nils] false]
  have o0 : own (m ++ [Blk.row [.int .i64 0, .int .i64 0, .int .i64 0, .int .i64 0, .nils] false]) m.length = some [.int .i64 0, .int .i64 0, .int .i64 0, .int .i64 0, .nils] := by rw [own_app_at0]; rfl
  generalize m ++ [Blk.row [.int .i64 0, .int .i64 0, .int .i64 0, .int .i64 0, .nils] false] = A at k0 o0
  have hyA := hy.kept0 k0
  refine (ans_sckind hyA).mono ?_
  rintro _ M ⟨rfl, hM⟩
  subst hM
  by_cases h4 : kindB b = k
  · obtain ⟨q, o, cap, sl, cc, rfl, hrow, hat, hlen, hcap, hsl, htk⟩ := hyA.cons (i := 0) (by omega)
    have hsub : RdB M (.sl q (o + 1) 16 (cap - 1) sl) ((b.drop 1).take 16) := by
      have hd := hyA.drop (k := 1) (by omega)
      have h := hd.take (k := 16) (by omega)
      exact h
    simp -implicitDefEqProofs (disch := (first | omega | (simp only [lenB, lowB_len, numB_len, nsumB_len] <;> omega) | fail)) only [admQ, lenB, lowB_len, numB_len, nsumB_len, aFill, AK.cls, implies_true, if_true, if_false, seval, -List.reduceReplicate, beq_eq_false_iff_ne.mpr h3, beq_iff_eq.mpr h4, Bool.not_true]
    have hl16 : ((b.drop 1).take 16).length = 16 := by rw [List.length_take, List.length_drop]; omega
    refine (ans_pread hsub (by omega)).mono ?_
    rintro _ m1 ⟨k1, p, rfl, hp, hR1⟩
    simp -implicitDefEqProofs (disch := (first | omega | (simp only [lenB, lowB_len, numB_len, nsumB_len] <;> omega) | fail)) only [admQ, lenB, lowB_len, numB_len, nsumB_len, aFill, AK.cls, implies_true, if_true, if_false, seval, -List.reduceReplicate]
    refine (ans_print hR1 (by omega)).mono ?_
    rintro _ m2 ⟨rfl, k2, hR2⟩
    simp -implicitDefEqProofs (disch := (first | omega | (simp only [lenB, lowB_len, numB_len, nsumB_len] <;> omega) | fail)) only [admQ, lenB, lowB_len, numB_len, nsumB_len, aFill, AK.cls, implies_true, if_true, if_false, seval, -List.reduceReplicate]
    refine (ans_print hR2 (by rw [List.length_drop]; omega)).mono ?_
    rintro _ m3 ⟨rfl, k3, -⟩
    have e1 : ((b.drop 1).take 16).take 8 = (b.drop 1).take 8 := by rw [List.take_take]; rfl
    have e2 : (((b.drop 1).take 16).drop 8).take 8 = (b.drop 9).take 8 := by rw [List.drop_take, List.take_take, List.drop_drop]; rfl
    have hE : intB (((b.drop 1).take 16).take 8) = nE b := by rw [e1]; rfl
    have hNn : intB ((((b.drop 1).take 16).drop 8).take 8) = nN b := by rw [e2]; rfl
    have K3 : Kept [] M m3 := (k1.upon k2 (by simpa using hp)).upon k3 (by simpa using hp)
    have o3 := K3.own o0 (by simp)
    rw [hE, hNn]
    simp -implicitDefEqProofs (disch := (first | omega | (simp only [lenB, lowB_len, numB_len, nsumB_len] <;> omega) | fail)) only [admQ, lenB, lowB_len, numB_len, nsumB_len, aFill, AK.cls, implies_true, if_true, if_false, seval, -List.reduceReplicate]
    have k4 := Kept.app [] m3 [Blk.row [.int .i64 k, .int .i64 (nE b), .int .i64 (nN b), .int .i64 a, .nils] false]
    have b4 : own (m3 ++ [Blk.row [.int .i64 k, .int .i64 (nE b), .int .i64 (nN b), .int .i64 a, .nils] false]) m3.length = some [.int .i64 k, .int .i64 (nE b), .int .i64 (nN b), .int .i64 a, .nils] := by rw [own_app_at0]; rfl
    generalize m3 ++ [Blk.row [.int .i64 k, .int .i64 (nE b), .int .i64 (nN b), .int .i64 a, .nils] false] = B at k4 b4
    have o4 := k4.own o3 (by simp)
    have KB := (k0.trans K3).trans k4
    have hMl := own_lt o0
    have hK3l := K3.len
    refine (ans_scright (nE b) (nN b) a B).mono ?_
    rintro _ M2 ⟨rfl, hM⟩
    subst hM
    by_cases h5 : rightP (nE b) (nN b) a
    · simp -implicitDefEqProofs (disch := (first | omega | (simp only [lenB, lowB_len, numB_len, nsumB_len] <;> omega) | fail)) only [admQ, lenB, lowB_len, numB_len, nsumB_len, aFill, AK.cls, implies_true, if_true, if_false, seval, -List.reduceReplicate, dec_t h5, Bool.not_true, rowOf_own b4]
      obtain ⟨a, rfl⟩ : ∃ a' : Nat, a = a' := ⟨a.toNat, by have := h5.1; omega⟩
      have ha := h5.2.2
      refine (ans_schead k a (by omega) M2).mono ?_
      rintro y1 m5 ⟨k5, g5⟩
      have b5 := k5.own b4 (by simp)
      have K5 := KB.trans k5
      have hy5 := hy.kept0 K5
      have hdr := hy5.drop (k := 17) (by omega)
      simp -implicitDefEqProofs (disch := (first | omega | (simp only [lenB, lowB_len, numB_len, nsumB_len] <;> omega) | fail)) only [admQ, lenB, lowB_len, numB_len, nsumB_len, aFill, AK.cls, implies_true, if_true, if_false, seval, -List.reduceReplicate, rowOf_own b5, rowOf_own b4, cyn_open c, opW_invoke _ (cym_open c), opDW_invoke _ (cym_open c)]
      refine (ans_cyopenS (e := nE b) (n := nN b) (hC.kept0 K5) g5.rd hdr hk ⟨by rw [headB_len]; omega, by rw [List.length_drop]; omega⟩).mono ?_
      rintro _ m6 ⟨k6, w, rfl, rs6⟩
      have rw6 := rs6.rd
      have lw6 := rs6.low
      have b6 := k6.own b5 (by simp)
      have K6 := K5.trans k6
      have o6 := (k5.trans k6).own o4 (by simp)
      have h8 := K6.len
      have hne : m3.length ≠ m.length := by omega
      cases hop : cyOp c (nE b) (nN b) (headB k a) (b.drop 17) with
      | none =>
        have he : getE c k a b = 19 := by rw [getE, if_neg h1, if_neg h2, if_neg (by rintro (h | h); exact h3 h; exact h h4), if_neg (by simpa using h5), Int.toNat_natCast, hop]
        simp -implicitDefEqProofs (disch := (first | omega | (simp only [lenB, lowB_len, numB_len, nsumB_len] <;> omega) | fail)) only [admQ, lenB, lowB_len, numB_len, nsumB_len, aFill, AK.cls, implies_true, if_true, if_false, seval, -List.reduceReplicate, rowOf_own b6, rowOf_own b5, rowOf_own b4, Option.isSome_none, Bool.not_false, o6, own_set (own_lt o6), rowOf_own (own_set (own_lt o6) _)]
        exact hno _ _ (by omega) he (K6.write (.inr (Nat.le_refl _)) _)
      | some pl =>
        have he : getE c k a b = 0 := by rw [getE, if_neg h1, if_neg h2, if_neg (by rintro (h | h); exact h3 h; exact h h4), if_neg (by simpa using h5), Int.toNat_natCast, hop]
        have hs : getS c k a b = ⟨k, nE b, nN b, a, pl⟩ := by rw [getS, if_pos he, Int.toNat_natCast, hop]; rfl
        have w1 := own_set (own_lt b6) [AV.int .i64 k, .int .i64 (nE b), .int .i64 (nN b), .int .i64 a, w]
        have o7 := own_set_ne' o6 hne (.row [AV.int .i64 k, .int .i64 (nE b), .int .i64 (nN b), .int .i64 a, w] false)
        rw [hop] at rw6 rs6
        simp -implicitDefEqProofs (disch := (first | omega | (simp only [lenB, lowB_len, numB_len, nsumB_len] <;> omega) | fail)) only [admQ, lenB, lowB_len, numB_len, nsumB_len, aFill, AK.cls, implies_true, if_true, if_false, seval, -List.reduceReplicate, rowOf_own b6, rowOf_own b5, rowOf_own b4, Option.isSome_some, Bool.not_true, b6, (rd_one rw6).1, (rd_one rw6).2, rowOf_own w1, w1, o7, own_set (own_lt o7), rowOf_own (own_set (own_lt o7) _)]
        have KX := (Kept.set (X := [m.length, m3.length]) m6 m3.length (.row [AV.int .i64 k, .int .i64 (nE b), .int .i64 (nN b), .int .i64 a, w] false) (by simp)).trans (.set _ m.length (.row [AV.int .i64 k, .int .i64 (nE b), .int .i64 (nN b), .int .i64 a, w] false) (by simp))
        refine ⟨(K6.write (.inr (by omega)) _).write (.inr (Nat.le_refl _)) _, w, by rw [hs, he]; rfl, ?_⟩
        rw [hs]
        refine (rs6.weak K5.len).kept KX fun q hq hX => ?_
        have h9 := lw6 q hq
        have h10 := K5.len
        have h11 := own_lt b5
        have h12 := own_lt (k5.own o4 (by simp))
        simp only [List.mem_cons, List.not_mem_nil, or_false] at hX
        omega
    · have he : getE c k a b = 7 := by rw [getE, if_neg h1, if_neg h2, if_neg (by rintro (h | h); exact h3 h; exact h h4), if_pos h5]
      simp -implicitDefEqProofs (disch := (first | omega | (simp only [lenB, lowB_len, numB_len, nsumB_len] <;> omega) | fail)) only [admQ, lenB, lowB_len, numB_len, nsumB_len, aFill, AK.cls, implies_true, if_true, if_false, seval, -List.reduceReplicate, dec_f h5, Bool.not_false, o4, own_set (own_lt o4), rowOf_own (own_set (own_lt o4) _)]
      exact hno _ _ (by omega) he (KB.write (.inr (Nat.le_refl _)) _)
  · have he : getE c k a b = 5 := by rw [getE, if_neg h1, if_neg h2, if_pos (.inr h4)]
    simp -implicitDefEqProofs (disch := (first | omega | (simp only [lenB, lowB_len, numB_len, nsumB_len] <;> omega) | fail)) only [admQ, lenB, lowB_len, numB_len, nsumB_len, aFill, AK.cls, implies_true, if_true, if_false, seval, -List.reduceReplicate, beq_eq_false_iff_ne.mpr h4, Bool.not_false, o0, own_set (own_lt o0), rowOf_own (own_set (own_lt o0) _)]
    exact hno _ _ (by omega) he (k0.write (.inr (Nat.le_refl _)) _)
theorem ans_scget {m : Mem} {x : Nat} {W R : List Nat} {c : CyS} {k a : Int} {y : AV} {b : List B8} (hC : Cy m x W R c) (hy : RdB m y b) (hk : cyOk c 1000) (hl : b.length ≤ 100000) :
    Ans Try.prog 37 [.iface (cyT c) (.ptr x 0), .int .i64 k, .int .i64 a, y] m fun r m' => Kept [] m m' ∧ ∃ w, r = .tup [secV (getS c k a b) w, .int .i64 (getE c k a b)] ∧ RdB m' w (getS c k a b).p ∧ ∀ q ∈ blkOf w, m.length ≤ q :=
  (ans_scgetS hC hy hk hl).mono fun r m' ⟨h1, w, h2, h3⟩ => ⟨h1, w, h2, h3.rd, h3.low⟩
end Go.Proofs.Ytoegmnnecanhfaa
end
section
/- Sectors: what was put is got, and what is got was put; purely. -/
namespace Go.Proofs.Ytoegmnnecanhfaa
open Go Go.Adm
set_option linter.unusedSimpArgs false
set_option linter.unusedVariables false
set_option maxRecDepth 100000
theorem intB_nn {l : List B8} (hl : l.length = 8) (h : 0 ≤ intB l) : numB (intB l).toNat = l := by
  have h1 := beN_lt 8 l hl
  have e0 : (256 : Nat) ^ 8 = 18446744073709551616 := by decide
  have e1 : (2 : Int) ^ IntKind.i64.bits = 18446744073709551616 := by decide
  have e2 : (2 : Int) ^ (IntKind.i64.bits - 1) = 9223372036854775808 := by decide
  rw [e0] at h1
  have h2 : intB l = beN l := by
    unfold intB IntKind.wrap at h ⊢
    simp only [e1, e2, IntKind.signed, Bool.true_and, decide_eq_true_eq, ge_iff_le] at h ⊢
    split at h
    · split <;> omega
    · split <;> omega
  rw [h2, Int.toNat_natCast, numB_beN hl]
theorem intB_num {v : Nat} (h : v < 9223372036854775808) : intB (numB v) = v := by
  rw [intB, beN_numB (by omega), wrap_i64 (by omega) (by omega)]
theorem kB_nat {k : Int} (h : 1 ≤ k ∧ k ≤ 5) : ((kB k).toNat : Int) = k := by
  have : k = 1 ∨ k = 2 ∨ k = 3 ∨ k = 4 ∨ k = 5 := by omega
  rcases this with rfl | rfl | rfl | rfl | rfl <;> decide
theorem okP_may {s : Sec} (h : okP s) : mayP (secD s) := ⟨⟨h.2.1.1.1, h.2.1.2.1.1⟩, h.2.1.1.2.1, h.2.1.2.1.2⟩
theorem secD_inj {s t : Sec} (hs : okP s) (ht : okP t) (h : secD s = secD t) : s = t := by
  obtain ⟨k, e, n, a, p⟩ := s
  obtain ⟨k', e', n', a', p'⟩ := t
  simp only [secD, headB, Prod.mk.injEq, List.cons.injEq] at h
  obtain ⟨h1, h2, ⟨h3, h4⟩, h5⟩ := h
  have k1 := kB_nat hs.1
  have k2 := kB_nat ht.1
  simp only at k1 k2
  have hk : k = k' := by rw [← k1, ← k2, h3]
  have a1 := hs.2.1
  have a2 := ht.2.1
  simp only [rightP] at a1 a2
  have b1 := beN_numB (v := a.toNat) (by omega)
  have b2 := beN_numB (v := a'.toNat) (by omega)
  rw [h4] at b1
  have ha : a.toNat = a'.toNat := b1.symm.trans b2
  subst h1; subst h2; subst hk; subst h5
  have : a = a' := by omega
  rw [this]
/-- What was sealed by c as d is still known to c2. -/
def cyHas : CyS → CyS → Sd → Prop
  | .nm S _, .nm S2 _, d => fidx d S2 = some (posN d S - 1)
theorem cyHas_nx (c : CyS) {d : Sd} (hd : mayP d) : cyHas c (cyNx c d) d := by
  cases c with
  | nm S T => simp only [cyNx, cyHas, sealS2, if_pos hd]; exact fidx_addself d S
theorem cyHas_more {c c2 : CyS} {d : Sd} (h : cyHas c c2 d) (d2 : Sd) : cyHas c (cyNx c2 d2) d := by
  cases c with
  | nm S T => cases c2 with
    | nm S2 T2 => simp only [cyNx, cyHas] at h ⊢; exact fidx_seal h
theorem cySl_has {c : CyS} {d : Sd} (hd : mayP d) : (cySl c d).length = d.2.2.2.length + 32 := by
  cases c with
  | nm S T => simp only [cySl, sealR, if_pos hd, nsealB_len]
theorem cyOp_seal {c c2 : CyS} {d : Sd} (hd : mayP d) (h : cyHas c c2 d) : cyOp c2 d.1 d.2.1 d.2.2.1 (cySl c d) = some d.2.2.2 := by
  cases c with
  | nm S T => cases c2 with
    | nm S2 T2 =>
      obtain ⟨e, n, hd', pl⟩ := d
      simp only [cyHas] at h
      obtain ⟨h1, h2⟩ := nopenP_seal S2 h
      have hs : cySl (.nm S T) (e, n, hd', pl) = nsealB S (e, n, hd', pl) := by simp only [cySl, sealR, if_pos hd]
      rw [hs, cyOp, if_pos h1, h2]
theorem putL_len {c : CyS} {s : Sec} (h : okP s) : (putL c s).length = 49 + s.p.length := by
  rw [putL, if_pos h, putB]
  simp only [List.length_append, List.length_cons, numB_len, cySl_has (okP_may h)]
  simp only [secD]; omega
theorem putL_parts {c : CyS} {s : Sec} (h : okP s) : kindB (putL c s) = s.k ∧ nE (putL c s) = s.e ∧ nN (putL c s) = s.n ∧ (putL c s).drop 17 = cySl c (secD s) := by
  have hl := putL_len (c := c) h
  rw [putL, if_pos h, putB] at hl ⊢
  have hr := h.2.1
  simp only [rightP] at hr
  have hk := kB_nat h.1
  have l1 : (kB s.k :: numB s.e.toNat).length = 9 := by simp [numB_len]
  have l2 : (kB s.k :: numB s.e.toNat ++ numB s.n.toNat).length = 17 := by simp [numB_len]
  refine ⟨?_, ?_, ?_, List.drop_left' l2⟩
  · unfold kindB
    have e0 : gb (kB s.k :: numB s.e.toNat ++ numB s.n.toNat ++ cySl c (secD s)) 0 = kB s.k := rfl
    rw [e0, if_neg (by have := h.1; omega), hk]
  · unfold nE
    rw [List.append_assoc, List.cons_append, List.drop_succ_cons, List.drop_zero, List.take_left' (numB_len _), intB_num (by omega)]
    omega
  · unfold nN
    rw [List.append_assoc, List.drop_left' l1, List.take_left' (numB_len _), intB_num (by omega)]
    omega
/-- What was put is got. -/
theorem get_put {c c2 : CyS} {s : Sec} (h : okP s) (hc : cyHas c c2 (secD s)) : getE c2 s.k s.a (putL c s) = 0 ∧ getS c2 s.k s.a (putL c s) = s := by
  obtain ⟨h1, h2, h3, h4⟩ := putL_parts (c := c) h
  have hl := putL_len (c := c) h
  have ho : cyOp c2 s.e s.n (headB s.k s.a.toNat) (cySl c (secD s)) = some s.p := cyOp_seal (okP_may h) hc
  have he : getE c2 s.k s.a (putL c s) = 0 := by
    have := h.1
    have := h.2.2
    rw [getE, if_neg (by omega), if_neg (by omega), if_neg (by rw [h1]; omega), h2, h3, h4, ho, if_neg (by simpa using h.2.1)]
  refine ⟨he, ?_⟩
  rw [getS, if_pos he, h2, h3, h4, ho]
  rfl
/-- What is opened was sealed. -/
theorem cyOp_back {c : CyS} {d : Sd} {b : List B8} (hd : mayP d) (h : cyOp c d.1 d.2.1 d.2.2.1 b = some d.2.2.2) : cySl c d = b ∧ cyHas c c d := by
  obtain ⟨e, n, hd', pl⟩ := d
  simp only at h
  cases c with
  | nm S T =>
    simp only [cyOp] at h
    split at h
    · rename_i ho
      simp only [Option.some.injEq] at h
      obtain ⟨hl, i, hi, hz⟩ := ho
      rw [h] at hi
      obtain ⟨-, hp⟩ := addN_in hi
      refine ⟨?_, ?_⟩
      · simp only [cySl, sealR, if_pos hd, nsealB]
        rw [hp, List.append_assoc, ← hz, ← h, List.take_append_drop]
      · simp only [cyHas]; rw [hp, hi]; rfl
    · cases h
/-- What is got was put: by the same crypt it is put as just these bytes. -/
theorem put_get {c : CyS} {k a : Int} {b : List B8} (h : getE c k a b = 0) :
    okP (getS c k a b) ∧ (getS c k a b).k = k ∧ (getS c k a b).a = a ∧ putL c (getS c k a b) = b ∧ cyHas c c (secD (getS c k a b)) := by
  have hh := h
  rw [getE] at hh
  split at hh
  · cases hh
  split at hh
  · cases hh
  split at hh
  · cases hh
  split at hh
  · cases hh
  rename_i h1 h2 h3 h4
  have h3a : k ≠ 0 := fun h => h3 (.inl h)
  have h3b : kindB b = k := Decidable.not_not.mp fun h => h3 (.inr h)
  have h4 := Decidable.not_not.mp h4
  cases ho : cyOp c (nE b) (nN b) (headB k a.toNat) (b.drop 17) with
  | none => rw [ho] at hh; cases hh
  | some pl =>
    have hs : getS c k a b = ⟨k, nE b, nN b, a, pl⟩ := by rw [getS, if_pos h, ho]; rfl
    rw [hs]
    have hm : mayP (nE b, nN b, headB k a.toNat, pl) := ⟨⟨h4.1.1, h4.2.1.1⟩, h4.1.2.1, h4.2.1.2⟩
    obtain ⟨q1, q2⟩ := cyOp_back (d := (nE b, nN b, headB k a.toNat, pl)) hm ho
    have hpl : pl.length + 32 = b.length - 17 := by
      have := cySl_has (c := c) hm
      rw [q1, List.length_drop] at this
      exact this.symm
    have hk5 : 1 ≤ k ∧ k ≤ 5 ∧ ((gb b 0).toNat : Int) = k := by
      unfold kindB at h3b
      split at h3b
      · exact absurd h3b.symm h3a
      · omega
    have hok : okP ⟨k, nE b, nN b, a, pl⟩ := ⟨⟨hk5.1, hk5.2.1⟩, h4, by simp only; omega⟩
    refine ⟨hok, rfl, rfl, ?_, q2⟩
    rw [putL, if_pos hok, putB]
    have e1 : numB (nE b).toNat = (b.drop 1).take 8 := intB_nn (by rw [List.length_take, List.length_drop]; omega) h4.1.1
    have e2 : numB (nN b).toNat = (b.drop 9).take 8 := intB_nn (by rw [List.length_take, List.length_drop]; omega) h4.1.2.1
    simp only [secD]
    rw [e1, e2, q1]
    have e3 : kB k = gb b 0 := by
      have := kB_nat ⟨hk5.1, hk5.2.1⟩
      apply BitVec.eq_of_toNat_eq
      omega
    rw [e3]
    cases b with
    | nil => simp at h1
    | cons x l =>
      have e4 : gb (x :: l) 0 = x := rfl
      rw [e4]
      simp only [List.drop_succ_cons, List.drop_zero, List.cons_append, List.append_assoc, List.cons.injEq, true_and]
      have e5 : l.drop 16 = (l.drop 8).drop 8 := by rw [List.drop_drop]
      rw [e5, List.take_append_drop, List.take_append_drop]
/-- Of Names: the sectors that were put are read, and no others. -/
theorem has_mem {S : List Sd} {T T' : List (List B8)} {d : Sd} : cyHas (.nm S T) (.nm S T') d ↔ d ∈ S := by
  simp only [cyHas]
  constructor
  · exact fun h => List.mem_of_getElem? (fidx_some h)
  · intro h
    cases hf : fidx d S with
    | none => exact absurd h (fidx_none.mp hf)
    | some i => rw [(addN_in hf).2]; rfl
theorem putL_has {c c2 : CyS} {s : Sec} (h : cyHas c c2 (secD s)) : putL c2 s = putL c s := by
  have hs : cySl c2 (secD s) = cySl c (secD s) := by
    cases c with
    | nm S T => cases c2 with
      | nm S2 T2 =>
        simp only [cyHas] at h
        obtain ⟨-, hp⟩ := addN_in h
        have h1 := (posN_le (secD s) S).1
        have h2 : posN (secD s) S2 = posN (secD s) S := by omega
        simp only [cySl, sealR, nsealB, h2]
  rw [putL, putL, putB, putB, hs]
end Go.Proofs.Ytoegmnnecanhfaa
end
section
/- Sectors: what may be; the known example. -/
namespace Go.Proofs.Ytoegmnnecanhfaa
open Go Go.Adm
set_option linter.unusedSimpArgs false
set_option linter.unusedVariables false
set_option maxRecDepth 100000
end Go.Proofs.Ytoegmnnecanhfaa
end
section
/- Sectors: what is read, put again, is just these bytes. -/
namespace Go.Proofs.Ytoegmnnecanhfaa
open Go Go.Adm
set_option linter.unusedSimpArgs false
set_option linter.unusedVariables false
set_option maxRecDepth 100000
end Go.Proofs.Ytoegmnnecanhfaa
end
section
/- Sectors: unlike ones have unlike bytes. -/
namespace Go.Proofs.Ytoegmnnecanhfaa
open Go Go.Adm
set_option linter.unusedSimpArgs false
set_option linter.unusedVariables false
set_option maxRecDepth 100000
theorem putC_ok {c : CyS} {s : Sec} (h : okP s) : cyHas c (putC c s) (secD s) := by rw [putC, if_pos h]; exact cyHas_nx c (okP_may h)
theorem putC_has {c c2 : CyS} {d : Sd} (t : Sec) (h : cyHas c c2 d) : cyHas c (putC c2 t) d := by
  rw [putC]; split
  · exact cyHas_more h _
  · exact h
/-- A Names as sectors are put: its things sealed. -/
def putS (S : List Sd) (s : Sec) : List Sd := if okP s then sealS2 S (secD s) else S
theorem putC_nm (S : List Sd) (T : List (List B8)) (s : Sec) : putC (.nm S T) s = .nm (putS S s) T := by
  unfold putC putS; split <;> rfl
theorem putS_len (S : List Sd) (s : Sec) : (putS S s).length ≤ S.length + 1 := by
  unfold putS; split
  · exact sealS2_len _ _
  · omega
theorem putL_same {c : CyS} {s : Sec} (h : okP s) : putL (putC c s) s = putL c s := putL_has (putC_ok h)
theorem putS_mem {S : List Sd} {s : Sec} {t : Sd} : t ∈ putS S s ↔ t ∈ S ∨ (t = secD s ∧ okP s) := by
  unfold putS
  by_cases h : okP s
  · rw [if_pos h, mem_seal]
    simp [h, okP_may h]
  · rw [if_neg h]; simp [h]
theorem putL_mem {S : List Sd} {T : List (List B8)} {s t : Sec} (h : secD s ∈ S) : putL (.nm (putS S t) T) s = putL (.nm S T) s := by
  rw [← putC_nm]
  exact putL_has (putC_has t (has_mem.mpr h))
end Go.Proofs.Ytoegmnnecanhfaa
end
section
/- Sectors: what was put is read as it was, with either crypt. -/
namespace Go.Proofs.Ytoegmnnecanhfaa
open Go Go.Adm
set_option linter.unusedSimpArgs false
set_option linter.unusedVariables false
set_option maxRecDepth 100000
theorem cyOk_mono {c : CyS} {k k' : Nat} (h : cyOk c k) (hk : k ≤ k') : cyOk c k' := by
  cases c with
  | nm S T => exact Nat.le_trans h hk
theorem cyT_put (c : CyS) (s : Sec) : cyT (putC c s) = cyT c := by
  unfold putC; split
  · exact cyT_nx _ _
  · rfl
end Go.Proofs.Ytoegmnnecanhfaa
end
section
/- Sectors: with a Names, what was put is read, and no others. -/
namespace Go.Proofs.Ytoegmnnecanhfaa
open Go Go.Adm
set_option linter.unusedSimpArgs false
set_option linter.unusedVariables false
set_option maxRecDepth 100000
end Go.Proofs.Ytoegmnnecanhfaa
end
section
/- Geometries. -/
namespace Go.Proofs.Ytoegmnnecanhfaa
open Go Go.Adm
set_option linter.unusedSimpArgs false
set_option linter.unusedVariables false
set_option maxRecDepth 100000
/-- A geometry: segments, slots, blocks. -/
structure Geo where
  s : Int
  n : Int
  b : Int
deriving DecidableEq
def geoC (g : Geo) : List AV := [.int .i64 g.s, .int .i64 g.n, .int .i64 g.b]
def geoV (g : Geo) : AV := .agg (geoC g)
def needG (n b : Nat) : Nat := (b * 4 + n - 2) / (n - 1)
def leanG (n : Nat) : Nat := (n - 1) / 5
def inG (g : Geo) : Prop := (16 ≤ g.s ∧ g.s ≤ 32) ∧ (32 ≤ g.n ∧ g.n ≤ 64) ∧ 1 ≤ g.b ∧ g.b ≤ 64
instance (g : Geo) : Decidable (inG g) := by unfold inG; infer_instance
def okG (g : Geo) : Prop := inG g ∧ g.b + 9 < (g.s - needG g.n.toNat g.b.toNat - 14) * (leanG g.n.toNat + 1)
instance (g : Geo) : Decidable (okG g) := by unfold okG; infer_instance
def errG (g : Geo) : Int := if okG g then 0 else 15
theorem errG_ok (g : Geo) : errG g = 0 ↔ okG g := by unfold errG; split <;> simp [*]
theorem take3 {xs : List AV} {i : Nat} {a b c : AV} (h1 : xs[i]? = some a) (h2 : xs[i + 1]? = some b) (h3 : xs[i + 2]? = some c) : List.take 3 (List.drop i xs) = [a, b, c] := by
  have e1 := List.getElem?_eq_some_iff.mp h1
  have e2 := List.getElem?_eq_some_iff.mp h2
  have e3 := List.getElem?_eq_some_iff.mp h3
  rw [List.drop_eq_getElem_cons e1.1, List.drop_eq_getElem_cons e2.1, List.drop_eq_getElem_cons e3.1, e1.2, e2.2, e3.2]
  rfl
def spanP (t : Int × Int × Int) : Bool := decide (t.2.1 ≤ t.1) && decide (t.1 ≤ t.2.2)
theorem ans_gwithin {m : Mem} {p k : Nat} {xs : List AV} {L : List (Int × Int × Int)} (hp : rowOf m p = some xs) (hk : L.length = k) (hs : k ≤ 1000)
    (hel : ∀ (i : Nat) t, L[i]? = some t → xs[i * 3]? = some (.int .i64 t.1) ∧ xs[i * 3 + 1]? = some (.int .i64 t.2.1) ∧ xs[i * 3 + 2]? = some (.int .i64 t.2.2)) :
    Ans Try.prog 51 [.sl p 0 k k 0] m fun r m' => r = .bool (L.all spanP) ∧ Kept [] m m' := by
  refine ans_ret mixed ok51 ?_
  simp -implicitDefEqProofs (disch := (first | omega | (simp only [lenB, lowB_len, numB_len, nsumB_len] <;> omega) | fail)) only [admQ, lenB, lowB_len, numB_len, nsumB_len, aFill, AK.cls, implies_true, if_true, if_false, seval, -List.reduceReplicate, c51, r51]
  refine LoopW.on (fun i : Nat => [(5, .sl p 0 k k 0), (6, .int .i64 k), (7, .int .i64 i)]) (fun i => k - i) (fun i M => i ≤ k ∧ Kept [] m M ∧ (L.take i).all spanP = true) ?_ 0 _ _ rfl ⟨Nat.zero_le _, .refl _ _, by simp⟩
  rintro i M X ⟨hi, kk, hall⟩ hX
  by_cases hlt : i < k
  · obtain ⟨t, ht⟩ : ∃ t, L[i]? = some t := ⟨_, List.getElem?_eq_getElem (by omega)⟩
    obtain ⟨a1, a2, a3⟩ := hel i t ht
    have t3 := take3 a1 a2 a3
    have hl3 := lt_of_get a3
    have hr := kk.row hp (by simp)
    have hsplit : L.take (i + 1) = L.take i ++ [t] := by rw [List.take_add_one, ht]; rfl
    have hL : spanP t = false → L.all spanP = false := fun h => by
      rw [List.all_eq_false]
      exact ⟨t, List.mem_of_getElem? ht, by simp [h]⟩
    by_cases h1 : t.1 < t.2.1
    · have hf : spanP t = false := by simp [spanP]; omega
      simp -implicitDefEqProofs (disch := (first | omega | (simp only [lenB, lowB_len, numB_len, nsumB_len] <;> omega) | fail)) only [admQ, lenB, lowB_len, numB_len, nsumB_len, aFill, AK.cls, implies_true, if_true, if_false, seval, -List.reduceReplicate, dec_t (show (i : Int) < k by omega), hr, a1, a2, a3, t3, dec_t h1]
      exact ⟨by rw [hL hf], kk.more_app _⟩
    · by_cases h2 : t.1 > t.2.2
      · have hf : spanP t = false := by simp [spanP]; omega
        simp -implicitDefEqProofs (disch := (first | omega | (simp only [lenB, lowB_len, numB_len, nsumB_len] <;> omega) | fail)) only [admQ, lenB, lowB_len, numB_len, nsumB_len, aFill, AK.cls, implies_true, if_true, if_false, seval, -List.reduceReplicate, dec_t (show (i : Int) < k by omega), hr, a1, a2, a3, t3, dec_f h1, dec_t h2]
        exact ⟨by rw [hL hf], kk.more_app _⟩
      · have hf : spanP t = true := by simp [spanP]; omega
        simp -implicitDefEqProofs (disch := (first | omega | (simp only [lenB, lowB_len, numB_len, nsumB_len] <;> omega) | fail)) only [admQ, lenB, lowB_len, numB_len, nsumB_len, aFill, AK.cls, implies_true, if_true, if_false, seval, -List.reduceReplicate, dec_t (show (i : Int) < k by omega), hr, a1, a2, a3, t3, dec_f h1, dec_f h2]
        exact hX (i + 1) _ _ rfl (by omega) ⟨by omega, kk.more_app _, by rw [hsplit, List.all_append, hall]; simp [hf]⟩
  · obtain rfl : i = k := by omega
    simp -implicitDefEqProofs (disch := (first | omega | (simp only [lenB, lowB_len, numB_len, nsumB_len] <;> omega) | fail)) only [admQ, lenB, lowB_len, numB_len, nsumB_len, aFill, AK.cls, implies_true, if_true, if_false, seval, -List.reduceReplicate]
    rw [← hk, List.take_length] at hall
    exact ⟨by rw [hall], kk⟩
theorem ans_gneed (s n b : Nat) (hn : 2 ≤ n ∧ n ≤ 1000000) (hb : b ≤ 1000000) (x : AV) (m : Mem) : Ans Try.prog 52 [geoV ⟨s, n, b⟩, .int .i64 b] m fun r m' => r = .int .i64 (needG n b : Nat) ∧ Kept [] m m' := by
  refine ans_ret mixed ok52 ?_
  unfold geoV geoC
  have hq : (b * 4 + n - 2) / (n - 1) ≤ b * 4 + n - 2 := Nat.div_le_self _ _
  have hw0 : ∀ q : Nat, q ≤ 5000000 → IntKind.i64.wrap (q : Int) = q := fun q h => wrap_i64 (by omega) (by omega)
  have hw := hw0 ((b * 4 + n - 2) / (n - 1)) (by omega)
  simp -implicitDefEqProofs (disch := (first | omega | (simp only [lenB, lowB_len, numB_len, nsumB_len] <;> omega) | fail)) only [admQ, lenB, lowB_len, numB_len, nsumB_len, aFill, AK.cls, implies_true, if_true, if_false, seval, -List.reduceReplicate, c52, r52, hw]
  exact ⟨rfl, .app _ _ _⟩
theorem ans_glean (s n b : Nat) (hn : 1 ≤ n ∧ n ≤ 1000000) (m : Mem) : Ans Try.prog 53 [geoV ⟨s, n, b⟩] m fun r m' => r = .int .i64 (leanG n : Nat) ∧ Kept [] m m' := by
  refine ans_ret mixed ok53 ?_
  unfold geoV geoC
  simp -implicitDefEqProofs (disch := (first | omega | (simp only [lenB, lowB_len, numB_len, nsumB_len] <;> omega) | fail)) only [admQ, lenB, lowB_len, numB_len, nsumB_len, aFill, AK.cls, implies_true, if_true, if_false, seval, -List.reduceReplicate, c53, r53]
  exact ⟨rfl, .app _ _ _⟩
theorem ans_gmay (g : Geo) (m : Mem) : Ans Try.prog 39 [geoV g] m fun r m' => r = .bool (decide (okG g)) ∧ Kept [] m m' := by
  refine ans_ret mixed ok39 ?_
  unfold geoV geoC
  have k0 := Kept.app [] m [.row [.int .i64 g.s, .int .i64 g.n, .int .i64 g.b] false]
  have o0 : own (m ++ [.row [.int .i64 g.s, .int .i64 g.n, .int .i64 g.b] false]) m.length = some [.int .i64 g.s, .int .i64 g.n, .int .i64 g.b] := by rw [own_app_at0]; rfl
  simp -implicitDefEqProofs (disch := (first | omega | (simp only [lenB, lowB_len, numB_len, nsumB_len] <;> omega) | fail)) only [admQ, lenB, lowB_len, numB_len, nsumB_len, aFill, AK.cls, implies_true, if_true, if_false, seval, -List.reduceReplicate, c39, r39]
  generalize m ++ [.row [.int .i64 g.s, .int .i64 g.n, .int .i64 g.b] false] = A at *
  refine someW_eq (show _ = some [AV.int .i64 g.s, .int .i64 16, .int .i64 32, .int .i64 g.n, .int .i64 32, .int .i64 64, .int .i64 g.b, .int .i64 1, .int .i64 64] from rfl) ?_
  simp -implicitDefEqProofs (disch := (first | omega | (simp only [lenB, lowB_len, numB_len, nsumB_len] <;> omega) | fail)) only [admQ, lenB, lowB_len, numB_len, nsumB_len, aFill, AK.cls, implies_true, if_true, if_false, seval, -List.reduceReplicate, rowOf_own o0]
  generalize hB : A ++ _ = B
  have k1 : Kept [] A B := by rw [← hB]; exact .app _ _ _
  have o1 : own B A.length = some [AV.int .i64 g.s, .int .i64 16, .int .i64 32, .int .i64 g.n, .int .i64 32, .int .i64 64, .int .i64 g.b, .int .i64 1, .int .i64 64] := by rw [← hB, own_app_at0]; rfl
  clear hB
  have p0 := k1.own o0 (by simp)
  refine (ans_gwithin (L := [(g.s, 16, 32), (g.n, 32, 64), (g.b, 1, 64)]) (rowOf_own o1) rfl (show 3 ≤ 1000 by omega) (fun i t ht => ?_)).mono ?_
  · have hi := lt_of_get ht
    simp only [List.length_cons, List.length_nil] at hi
    match i, hi with
    | 0, _ => cases ht; exact ⟨rfl, rfl, rfl⟩
    | 1, _ => cases ht; exact ⟨rfl, rfl, rfl⟩
    | 2, _ => cases ht; exact ⟨rfl, rfl, rfl⟩
  rintro _ m2 ⟨rfl, k2⟩
  have p2 := k2.own p0 (by simp)
  have K2 := (k0.trans k1).trans k2
  have o2 := k2.own o1 (by simp)
  have hall : [(g.s, (16 : Int), (32 : Int)), (g.n, 32, 64), (g.b, 1, 64)].all spanP = decide (inG g) := by
    rw [Bool.eq_iff_iff]
    simp only [List.all_cons, List.all_nil, spanP, Bool.and_true, Bool.and_eq_true, inG]
    simp [and_assoc]
  rw [hall]
  by_cases hi : inG g
  · obtain ⟨s, n, b⟩ := g
    have hi' := hi
    simp only [inG] at hi'
    simp only at *
    obtain ⟨s, rfl⟩ : ∃ e' : Nat, s = e' := ⟨s.toNat, by omega⟩
    obtain ⟨n, rfl⟩ : ∃ n' : Nat, n = n' := ⟨n.toNat, by omega⟩
    obtain ⟨b, rfl⟩ : ∃ a' : Nat, b = a' := ⟨b.toNat, by omega⟩
    have hneed : needG n b ≤ 10 := by
      unfold needG
      exact Nat.div_le_of_le_mul (by omega)
    have hlean : leanG n ≤ 12 := by unfold leanG; omega
    simp -implicitDefEqProofs (disch := (first | omega | (simp only [lenB, lowB_len, numB_len, nsumB_len] <;> omega) | fail)) only [admQ, lenB, lowB_len, numB_len, nsumB_len, aFill, AK.cls, implies_true, if_true, if_false, seval, -List.reduceReplicate, dec_t hi, rowOf_own p2, rowOf_own p0, own_some o2]
    refine (ans_gneed s n b (by omega) (by omega) .nils m2).mono ?_
    rintro _ m3 ⟨rfl, k3⟩
    have p3 := k3.own p2 (by simp)
    have o3 := k3.own o2 (by simp)
    have w1 : IntKind.i64.wrap ((s : Int) - (needG n b : Nat)) = (s : Int) - (needG n b : Nat) := wrap_i64 (by omega) (by omega)
    have w2 : IntKind.i64.wrap ((s : Int) - (needG n b : Nat) - 14) = (s : Int) - (needG n b : Nat) - 14 := wrap_i64 (by omega) (by omega)
    simp -implicitDefEqProofs (disch := (first | omega | (simp only [lenB, lowB_len, numB_len, nsumB_len] <;> omega) | fail)) only [admQ, lenB, lowB_len, numB_len, nsumB_len, aFill, AK.cls, implies_true, if_true, if_false, seval, -List.reduceReplicate, rowOf_own p3, rowOf_own p2, rowOf_own p0, own_some o3, w1, w2]
    refine (ans_glean s n b (by omega) m3).mono ?_
    rintro _ m4 ⟨rfl, k4⟩
    have p4 := k4.own p3 (by simp)
    have o4 := k4.own o3 (by simp)
    simp -implicitDefEqProofs (disch := (first | omega | (simp only [lenB, lowB_len, numB_len, nsumB_len] <;> omega) | fail)) only [admQ, lenB, lowB_len, numB_len, nsumB_len, aFill, AK.cls, implies_true, if_true, if_false, seval, -List.reduceReplicate, rowOf_own p4, rowOf_own p3, rowOf_own p2, rowOf_own p0, own_some o4]
    have hx : ((s - needG n b : Nat) : Int) - 14 = (s : Int) - (needG n b : Nat) - 14 := by omega
    have hy : ∀ z : Int, -100 ≤ z → z ≤ 100 → -10000 ≤ z * ((leanG n + 1 : Nat) : Int) ∧ z * ((leanG n + 1 : Nat) : Int) ≤ 10000 := fun z h1 h2 => by
      have : leanG n = 0 ∨ leanG n = 1 ∨ leanG n = 2 ∨ leanG n = 3 ∨ leanG n = 4 ∨ leanG n = 5 ∨ leanG n = 6 ∨ leanG n = 7 ∨ leanG n = 8 ∨ leanG n = 9 ∨ leanG n = 10 ∨ leanG n = 11 ∨ leanG n = 12 := by omega
      rcases this with h | h | h | h | h | h | h | h | h | h | h | h | h <;> rw [h] <;> omega
    rw [hx]
    obtain ⟨y1, y2⟩ := hy ((s : Int) - (needG n b : Nat) - 14) (by omega) (by omega)
    rw [wrap_i64 (by omega) (by omega)]
    refine ⟨?_, (K2.trans k3).trans k4⟩
    congr 2
    simp only [okG, hi, true_and, Int.toNat_natCast, Int.natCast_add, Int.natCast_one]
    rfl
  · simp -implicitDefEqProofs (disch := (first | omega | (simp only [lenB, lowB_len, numB_len, nsumB_len] <;> omega) | fail)) only [admQ, lenB, lowB_len, numB_len, nsumB_len, aFill, AK.cls, implies_true, if_true, if_false, seval, -List.reduceReplicate, dec_f hi, rowOf_own p2, rowOf_own p0, own_some o2, dec_f (show ¬ okG g from fun h => hi h.1)]
    exact K2
theorem ans_gcheck (g : Geo) (m : Mem) : Ans Try.prog 23 [geoV g] m fun r m' => r = .int .i64 (errG g) ∧ Kept [] m m' := by
  refine ans_ret mixed ok23 ?_
  unfold geoV geoC
  have k0 := Kept.app [] m [.row [.int .i64 g.s, .int .i64 g.n, .int .i64 g.b] false]
  simp -implicitDefEqProofs (disch := (first | omega | (simp only [lenB, lowB_len, numB_len, nsumB_len] <;> omega) | fail)) only [admQ, lenB, lowB_len, numB_len, nsumB_len, aFill, AK.cls, implies_true, if_true, if_false, seval, -List.reduceReplicate, c23, r23]
  refine (ans_gmay g _).mono ?_
  rintro _ m1 ⟨rfl, k1⟩
  unfold errG
  by_cases h : okG g
  · rw [if_pos h]
    simp -implicitDefEqProofs (disch := (first | omega | (simp only [lenB, lowB_len, numB_len, nsumB_len] <;> omega) | fail)) only [admQ, lenB, lowB_len, numB_len, nsumB_len, aFill, AK.cls, implies_true, if_true, if_false, seval, -List.reduceReplicate, dec_t h, Bool.not_true]
    exact k0.trans k1
  · rw [if_neg h]
    simp -implicitDefEqProofs (disch := (first | omega | (simp only [lenB, lowB_len, numB_len, nsumB_len] <;> omega) | fail)) only [admQ, lenB, lowB_len, numB_len, nsumB_len, aFill, AK.cls, implies_true, if_true, if_false, seval, -List.reduceReplicate, dec_f h, Bool.not_false]
    exact k0.trans k1
end Go.Proofs.Ytoegmnnecanhfaa
end
section
/- Geometries as bytes. -/
namespace Go.Proofs.Ytoegmnnecanhfaa
open Go Go.Adm
set_option linter.unusedSimpArgs false
set_option linter.unusedVariables false
set_option maxRecDepth 100000
/-- A reader at r, bad or not. -/
def Rdr2 (m : Mem) (r : Nat) (l : List B8) (bad : Bool) : Prop := ∃ p o cap sl B, own m r = some [.sl p o l.length cap sl, .bool bad] ∧ own m p = some B ∧ RdB m (.sl p o l.length cap sl) l ∧ p ≠ r
theorem Rdr.two {m : Mem} {r : Nat} {l : List B8} (h : Rdr m r l) : Rdr2 m r l false := h
/-- What is read of so much, how much is left, whether it is bad. -/
def rdN (t : List B8 × Bool) : Int := if t.2 = false ∧ 8 ≤ t.1.length then intB (t.1.take 8) else 0
def rdT (t : List B8 × Bool) : List B8 × Bool := if t.2 = false ∧ 8 ≤ t.1.length then (t.1.drop 8, false) else (t.1, true)
theorem ans_print2 {m : Mem} {r : Nat} {l : List B8} {bad : Bool} (h : Rdr2 m r l bad) (hb : l.length ≤ 1000000000) :
    Ans Try.prog 28 [.ptr r 0] m fun v m' => v = .int .i64 (rdN (l, bad)) ∧ Kept [r] m m' ∧ Rdr2 m' r (rdT (l, bad)).1 (rdT (l, bad)).2 := by
  by_cases hok : bad = false ∧ 8 ≤ l.length
  · obtain ⟨rfl, hl⟩ := hok
    rw [rdN, rdT, if_pos ⟨rfl, hl⟩, if_pos ⟨rfl, hl⟩]
    exact ans_print h hl
  · rw [rdN, rdT, if_neg hok, if_neg hok]
    obtain ⟨p, o, cap, sl, B, h1, h2, h3, h4⟩ := h
    have hr := own_lt h1
    have h1' := own_set hr [AV.sl p o l.length cap sl, .bool true]
    have kX := Kept.set1 m r (.row [AV.sl p o l.length cap sl, .bool true] false)
    have h38 := h3.kept kX (fun b o n cap s e => by cases e; simpa using h4)
    refine ans_ret mixed ok28 ?_
    simp -implicitDefEqProofs (disch := (first | omega | (simp only [lenB, lowB_len, numB_len, nsumB_len] <;> omega) | fail)) only [admQ, lenB, lowB_len, numB_len, nsumB_len, aFill, AK.cls, implies_true, if_true, if_false, seval, -List.reduceReplicate, c28, r28]
    have htk : Ans Try.prog 43 [.ptr r 0, .int .i64 8, .fn (.func 44) [] []] m fun v m' => v = .int .i64 0 ∧ Kept [r] m m' ∧ Rdr2 m' r l true := by
      refine ans_ret mixed ok43 ?_
      cases bad with
      | true =>
        simp -implicitDefEqProofs (disch := (first | omega | (simp only [lenB, lowB_len, numB_len, nsumB_len] <;> omega) | fail)) only [admQ, lenB, lowB_len, numB_len, nsumB_len, aFill, AK.cls, implies_true, if_true, if_false, seval, -List.reduceReplicate, c43, r43, rowOf_own h1, h1]
        exact ⟨kX, p, o, cap, sl, B, h1', kX.own h2 (by simpa using h4), h38, h4⟩
      | false =>
        have hlt : ¬ 8 ≤ l.length := fun h => hok ⟨rfl, h⟩
        simp -implicitDefEqProofs (disch := (first | omega | (simp only [lenB, lowB_len, numB_len, nsumB_len] <;> omega) | fail)) only [admQ, lenB, lowB_len, numB_len, nsumB_len, aFill, AK.cls, implies_true, if_true, if_false, seval, -List.reduceReplicate, c43, r43, rowOf_own h1, h1, dec_t (show (l.length : Int) < 8 by omega)]
        exact ⟨kX, p, o, cap, sl, B, h1', kX.own h2 (by simpa using h4), h38, h4⟩
    refine htk.mono ?_
    rintro v m' ⟨rfl, h5, h6⟩
    simp -implicitDefEqProofs (disch := (first | omega | (simp only [lenB, lowB_len, numB_len, nsumB_len] <;> omega) | fail)) only [admQ, lenB, lowB_len, numB_len, nsumB_len, aFill, AK.cls, implies_true, if_true, if_false, seval, -List.reduceReplicate]
    exact ⟨h5, h6⟩
theorem ans_pend {m : Mem} {r : Nat} {l : List B8} {bad : Bool} (h : Rdr2 m r l bad) : Ans Try.prog 29 [.ptr r 0] m fun v m' => v = .int .i64 (if bad = true then 4 else if 0 < l.length then 3 else 0) ∧ m' = m := by
  obtain ⟨p, o, cap, sl, B, h1, h2, h3, h4⟩ := h
  refine ans_ret mixed ok29 ?_
  cases bad with
  | true => simp -implicitDefEqProofs (disch := (first | omega | (simp only [lenB, lowB_len, numB_len, nsumB_len] <;> omega) | fail)) only [admQ, lenB, lowB_len, numB_len, nsumB_len, aFill, AK.cls, implies_true, if_true, if_false, seval, -List.reduceReplicate, c29, r29, rowOf_own h1]
  | false =>
    by_cases hl : 0 < l.length
    · simp -implicitDefEqProofs (disch := (first | omega | (simp only [lenB, lowB_len, numB_len, nsumB_len] <;> omega) | fail)) only [admQ, lenB, lowB_len, numB_len, nsumB_len, aFill, AK.cls, implies_true, if_true, if_false, seval, -List.reduceReplicate, c29, r29, rowOf_own h1, dec_t (show (l.length : Int) > 0 by omega), hl]
    · simp -implicitDefEqProofs (disch := (first | omega | (simp only [lenB, lowB_len, numB_len, nsumB_len] <;> omega) | fail)) only [admQ, lenB, lowB_len, numB_len, nsumB_len, aFill, AK.cls, implies_true, if_true, if_false, seval, -List.reduceReplicate, c29, r29, rowOf_own h1, dec_f (show ¬ (l.length : Int) > 0 by omega), hl]
def geo0 : Geo := ⟨0, 0, 0⟩
def geoB (g : Geo) : List B8 := numB g.s.toNat ++ numB g.n.toNat ++ numB g.b.toNat
def putG (g : Geo) : List B8 := if okG g then geoB g else []
def rawG (b : List B8) : Geo := ⟨intB (b.take 8), intB ((b.drop 8).take 8), intB ((b.drop 16).take 8)⟩
def getGE (b : List B8) : Int := if b.length < 24 then 4 else if 24 < b.length then 3 else errG (rawG b)
def getG (b : List B8) : Geo := if getGE b = 0 then rawG b else geo0
theorem geoB_len (g : Geo) : (geoB g).length = 24 := by simp [geoB, numB_len]
theorem raw_geoB {g : Geo} (h : okG g) : rawG (geoB g) = g := by
  obtain ⟨s, n, b⟩ := g
  have hi := h.1
  simp only [inG] at hi
  simp only [rawG, geoB, Geo.mk.injEq]
  refine ⟨?_, ?_, ?_⟩
  · rw [List.append_assoc, List.take_left' (numB_len _), intB_num (by omega)]; omega
  · rw [List.append_assoc, List.drop_left' (numB_len _), List.take_left' (numB_len _), intB_num (by omega)]; omega
  · rw [List.drop_left' (by simp [numB_len]), List.take_of_length_le (by simp [numB_len]), intB_num (by omega)]; omega
theorem get_putG {g : Geo} (h : okG g) : getGE (putG g) = 0 ∧ getG (putG g) = g := by
  have hl := geoB_len g
  have he : getGE (putG g) = 0 := by rw [putG, if_pos h, getGE, if_neg (by omega), if_neg (by omega), raw_geoB h]; exact (errG_ok g).mpr h
  refine ⟨he, ?_⟩
  rw [getG, if_pos he, putG, if_pos h, raw_geoB h]
theorem ans_suput (g : Geo) (m : Mem) : Ans Try.prog 8 [geoV g] m fun r m' => Kept [] m m' ∧ ∃ w, r = .tup [w, .int .i64 (errG g)] ∧ RdB m' w (putG g) ∧ ∀ q ∈ blkOf w, m.length ≤ q := by
  refine ans_ret mixed ok8 ?_
  unfold geoV geoC
  have k0 := Kept.app [] m [.row [.int .i64 g.s, .int .i64 g.n, .int .i64 g.b] false]
  have o0 : own (m ++ [.row [.int .i64 g.s, .int .i64 g.n, .int .i64 g.b] false]) m.length = some [.int .i64 g.s, .int .i64 g.n, .int .i64 g.b] := by rw [own_app_at0]; rfl
  simp -implicitDefEqProofs (disch := (first | omega | (simp only [lenB, lowB_len, numB_len, nsumB_len] <;> omega) | fail)) only [admQ, lenB, lowB_len, numB_len, nsumB_len, aFill, AK.cls, implies_true, if_true, if_false, seval, -List.reduceReplicate, c8, r8]
  generalize m ++ [.row [.int .i64 g.s, .int .i64 g.n, .int .i64 g.b] false] = A at *
  refine (ans_gcheck g _).mono ?_
  rintro _ m1 ⟨rfl, k1⟩
  have o1 := k1.own o0 (by simp)
  have K1 := k0.trans k1
  by_cases h : okG g
  · have he := (errG_ok g).mpr h
    rw [he]
    obtain ⟨s, n, b⟩ := g
    have hi := h.1
    simp only [inG] at hi
    simp only at *
    obtain ⟨s, rfl⟩ : ∃ e' : Nat, s = e' := ⟨s.toNat, by omega⟩
    obtain ⟨n, rfl⟩ : ∃ n' : Nat, n = n' := ⟨n.toNat, by omega⟩
    obtain ⟨b, rfl⟩ : ∃ a' : Nat, b = a' := ⟨b.toNat, by omega⟩
    simp -implicitDefEqProofs (disch := (first | omega | (simp only [lenB, lowB_len, numB_len, nsumB_len] <;> omega) | fail)) only [admQ, lenB, lowB_len, numB_len, nsumB_len, aFill, AK.cls, implies_true, if_true, if_false, seval, -List.reduceReplicate, rowOf_own o1]
    refine (ans_pint s (by omega) (.nils m1) (by simp)).mono ?_
    rintro y1 m2 ⟨k2, g2⟩
    have o2 := k2.own o1 (by simp)
    rw [List.nil_append] at g2
    simp -implicitDefEqProofs (disch := (first | omega | (simp only [lenB, lowB_len, numB_len, nsumB_len] <;> omega) | fail)) only [admQ, lenB, lowB_len, numB_len, nsumB_len, aFill, AK.cls, implies_true, if_true, if_false, seval, -List.reduceReplicate, rowOf_own o1, rowOf_own o2]
    refine (ans_pint n (by omega) g2.rd (by simp [numB_len])).mono ?_
    rintro y2 m3 ⟨k3, g3⟩
    have o3 := k3.own o2 (by simp)
    simp -implicitDefEqProofs (disch := (first | omega | (simp only [lenB, lowB_len, numB_len, nsumB_len] <;> omega) | fail)) only [admQ, lenB, lowB_len, numB_len, nsumB_len, aFill, AK.cls, implies_true, if_true, if_false, seval, -List.reduceReplicate, rowOf_own o1, rowOf_own o2, rowOf_own o3]
    refine (ans_pint b (by omega) g3.rd (by simp [numB_len])).mono ?_
    rintro y3 m4 ⟨k4, g4⟩
    have o4 := k4.own o3 (by simp)
    simp -implicitDefEqProofs (disch := (first | omega | (simp only [lenB, lowB_len, numB_len, nsumB_len] <;> omega) | fail)) only [admQ, lenB, lowB_len, numB_len, nsumB_len, aFill, AK.cls, implies_true, if_true, if_false, seval, -List.reduceReplicate, rowOf_own o1, rowOf_own o2, rowOf_own o3, rowOf_own o4]
    have l1 := K1.len
    have l2 := k2.len
    have l3 := k3.len
    refine ⟨(K1.trans k2).trans (k3.trans k4), y3, rfl, ?_, fun q hq => by have := g4.low q hq; omega⟩
    rw [putG, if_pos h, geoB]
    simpa using g4.rd
  · have he : errG g = 15 := if_neg h
    rw [he]
    simp -implicitDefEqProofs (disch := (first | omega | (simp only [lenB, lowB_len, numB_len, nsumB_len] <;> omega) | fail)) only [admQ, lenB, lowB_len, numB_len, nsumB_len, aFill, AK.cls, implies_true, if_true, if_false, seval, -List.reduceReplicate]
    exact ⟨K1, .nils, rfl, by rw [putG, if_neg h]; exact .nils _, by simp [blkOf]⟩
theorem rdT_len (t : List B8 × Bool) : (rdT t).1.length ≤ t.1.length := by unfold rdT; split <;> simp
theorem rdT_bad (l : List B8) : rdT (l, true) = (l, true) := by simp [rdT]
theorem rdT_short {l : List B8} (h : l.length < 8) : rdT (l, false) = (l, true) := by rw [rdT, if_neg (by simp; omega)]
theorem rdT_ok {l : List B8} (h : 8 ≤ l.length) : rdT (l, false) = (l.drop 8, false) ∧ rdN (l, false) = intB (l.take 8) := by rw [rdT, rdN, if_pos ⟨rfl, h⟩, if_pos ⟨rfl, h⟩]; exact ⟨rfl, rfl⟩
theorem rd_three {b : List B8} : (if (rdT (rdT (rdT (b, false)))).2 = true then (4 : Int) else if 0 < (rdT (rdT (rdT (b, false)))).1.length then 3 else 0) = (if b.length < 24 then 4 else if 24 < b.length then 3 else 0) ∧
    (24 ≤ b.length → rawG b = ⟨rdN (b, false), rdN (rdT (b, false)), rdN (rdT (rdT (b, false)))⟩) := by
  by_cases h1 : b.length < 8
  · rw [rdT_short h1, rdT_bad, rdT_bad, if_pos rfl, if_pos (by omega)]
    exact ⟨rfl, fun h => by omega⟩
  · obtain ⟨a1, a2⟩ := rdT_ok (l := b) (by omega)
    rw [a1]
    by_cases h2 : b.length < 16
    · rw [rdT_short (l := b.drop 8) (by rw [List.length_drop]; omega), rdT_bad, if_pos rfl, if_pos (by omega)]
      exact ⟨rfl, fun h => by omega⟩
    · obtain ⟨b1, b2⟩ := rdT_ok (l := b.drop 8) (by rw [List.length_drop]; omega)
      rw [b1, List.drop_drop]
      by_cases h3 : b.length < 24
      · rw [rdT_short (l := b.drop (8 + 8)) (by rw [List.length_drop]; omega), if_pos rfl, if_pos h3]
        exact ⟨rfl, fun h => by omega⟩
      · obtain ⟨c1, c2⟩ := rdT_ok (l := b.drop (8 + 8)) (by rw [List.length_drop]; omega)
        rw [c1, if_neg (by simp), if_neg h3, List.drop_drop, List.length_drop, a2, b2, c2]
        refine ⟨?_, fun _ => rfl⟩
        by_cases h4 : 24 < b.length
        · rw [if_pos (by omega), if_pos h4]
        · rw [if_neg (by omega), if_neg h4]
theorem ans_suget {m : Mem} {x : AV} {b : List B8} (hx : RdB m x b) (hl : b.length ≤ 100000) : Ans Try.prog 10 [x] m fun r m' => Kept [] m m' ∧ r = .tup [geoV (getG b), .int .i64 (getGE b)] := by
  refine ans_ret mixed ok10 ?_
  simp -implicitDefEqProofs (disch := (first | omega | (simp only [lenB, lowB_len, numB_len, nsumB_len] <;> omega) | fail)) only [admQ, lenB, lowB_len, numB_len, nsumB_len, aFill, AK.cls, implies_true, if_true, if_false, seval, -List.reduceReplicate, c10, r10]
  have k0 := Kept.app [] m [.row [.int .i64 0, .int .i64 0, .int .i64 0] false]
  have o0 : own (m ++ [.row [.int .i64 0, .int .i64 0, .int .i64 0] false]) m.length = some [.int .i64 0, .int .i64 0, .int .i64 0] := by rw [own_app_at0]; rfl
  generalize m ++ [.row [.int .i64 0, .int .i64 0, .int .i64 0] false] = A at *
  refine (ans_pread (hx.kept0 k0) (by omega)).mono ?_
  rintro _ m1 ⟨k1, p, rfl, hp, hR⟩
  simp -implicitDefEqProofs (disch := (first | omega | (simp only [lenB, lowB_len, numB_len, nsumB_len] <;> omega) | fail)) only [admQ, lenB, lowB_len, numB_len, nsumB_len, aFill, AK.cls, implies_true, if_true, if_false, seval, -List.reduceReplicate]
  refine (ans_print2 hR.two (by omega)).mono ?_
  rintro _ m2 ⟨rfl, k2, hR2⟩
  have hl1 := rdT_len (b, false)
  simp only at hl1
  simp -implicitDefEqProofs (disch := (first | omega | (simp only [lenB, lowB_len, numB_len, nsumB_len] <;> omega) | fail)) only [admQ, lenB, lowB_len, numB_len, nsumB_len, aFill, AK.cls, implies_true, if_true, if_false, seval, -List.reduceReplicate]
  refine (ans_print2 hR2 (by omega)).mono ?_
  rintro _ m3 ⟨rfl, k3, hR3⟩
  have hl2 := rdT_len (rdT (b, false))
  simp -implicitDefEqProofs (disch := (first | omega | (simp only [lenB, lowB_len, numB_len, nsumB_len] <;> omega) | fail)) only [admQ, lenB, lowB_len, numB_len, nsumB_len, aFill, AK.cls, implies_true, if_true, if_false, seval, -List.reduceReplicate]
  refine (ans_print2 hR3 (Nat.le_trans hl2 (by omega))).mono ?_
  rintro _ m4 ⟨rfl, k4, hR4⟩
  obtain ⟨q1, q2⟩ := rd_three (b := b)
  have hpl := hR4
  simp only [Prod.eta] at hR4 ⊢
  generalize hv1 : rdN (b, false) = v1 at q2 ⊢
  generalize hv2 : rdN (rdT (b, false)) = v2 at q2 ⊢
  generalize hv3 : rdN (rdT (rdT (b, false))) = v3 at q2 ⊢
  simp -implicitDefEqProofs (disch := (first | omega | (simp only [lenB, lowB_len, numB_len, nsumB_len] <;> omega) | fail)) only [admQ, lenB, lowB_len, numB_len, nsumB_len, aFill, AK.cls, implies_true, if_true, if_false, seval, -List.reduceReplicate]
  have K4 : Kept [] A m4 := ((k1.upon k2 (by simpa using hp)).upon k3 (by simpa using hp)).upon k4 (by simpa using hp)
  have k5 := Kept.app [] m4 [.row [.int .i64 v1, .int .i64 v2, .int .i64 v3] false]
  have o5 : own (m4 ++ [.row [.int .i64 v1, .int .i64 v2, .int .i64 v3] false]) m4.length = some [.int .i64 v1, .int .i64 v2, .int .i64 v3] := by rw [own_app_at0]; rfl
  generalize m4 ++ [.row [.int .i64 v1, .int .i64 v2, .int .i64 v3] false] = B at *
  have o5' := (K4.trans k5).own o0 (by simp)
  have hR5 : Rdr2 B p (rdT (rdT (rdT (b, false)))).1 (rdT (rdT (rdT (b, false)))).2 := by
    obtain ⟨p', o, cap, sl, C, h1, h2, h3, h4⟩ := hR4
    exact ⟨p', o, cap, sl, C, k5.own h1 (by simp), k5.own h2 (by simp), h3.kept0 k5, h4⟩
  refine (ans_pend hR5).mono ?_
  rintro _ M ⟨rfl, hM⟩
  subst hM
  rw [q1]
  have KB := (k0.trans K4).trans k5
  have lA := own_lt o0
  have lB := (K4.trans k5).len
  have fin0 : ∀ (m' : Mem) (e : Int), e ≠ 0 → getGE b = e → Kept [] m m' → Kept [] m m' ∧ AV.tup [.agg [.int .i64 0, .int .i64 0, .int .i64 0], .int .i64 e] = .tup [geoV (getG b), .int .i64 (getGE b)] := fun m' e h0 he hk => by
    refine ⟨hk, ?_⟩
    rw [he, getG, he, if_neg h0]; rfl
  by_cases h1 : b.length < 24
  · have he : getGE b = 4 := by rw [getGE, if_pos h1]
    rw [if_pos h1]
    simp -implicitDefEqProofs (disch := (first | omega | (simp only [lenB, lowB_len, numB_len, nsumB_len] <;> omega) | fail)) only [admQ, lenB, lowB_len, numB_len, nsumB_len, aFill, AK.cls, implies_true, if_true, if_false, seval, -List.reduceReplicate, o5', own_set (own_lt o5'), rowOf_own (own_set (own_lt o5') _)]
    exact fin0 _ _ (by omega) he (KB.write (.inr (Nat.le_refl _)) _)
  by_cases h2 : 24 < b.length
  · have he : getGE b = 3 := by rw [getGE, if_neg h1, if_pos h2]
    rw [if_neg h1, if_pos h2]
    simp -implicitDefEqProofs (disch := (first | omega | (simp only [lenB, lowB_len, numB_len, nsumB_len] <;> omega) | fail)) only [admQ, lenB, lowB_len, numB_len, nsumB_len, aFill, AK.cls, implies_true, if_true, if_false, seval, -List.reduceReplicate, o5', own_set (own_lt o5'), rowOf_own (own_set (own_lt o5') _)]
    exact fin0 _ _ (by omega) he (KB.write (.inr (Nat.le_refl _)) _)
  have hraw := q2 (by omega)
  rw [if_neg h1, if_neg h2]
  simp -implicitDefEqProofs (disch := (first | omega | (simp only [lenB, lowB_len, numB_len, nsumB_len] <;> omega) | fail)) only [admQ, lenB, lowB_len, numB_len, nsumB_len, aFill, AK.cls, implies_true, if_true, if_false, seval, -List.reduceReplicate, rowOf_own o5]
  refine (ans_gcheck ⟨v1, v2, v3⟩ M).mono ?_
  rintro _ m6 ⟨rfl, k6⟩
  have o6 := k6.own o5 (by simp)
  have o6' := k6.own o5' (by simp)
  have he : getGE b = errG ⟨v1, v2, v3⟩ := by rw [getGE, if_neg h1, if_neg h2, hraw]
  have K6 := KB.trans k6
  by_cases h3 : errG ⟨v1, v2, v3⟩ = 0
  · rw [h3]
    simp -implicitDefEqProofs (disch := (first | omega | (simp only [lenB, lowB_len, numB_len, nsumB_len] <;> omega) | fail)) only [admQ, lenB, lowB_len, numB_len, nsumB_len, aFill, AK.cls, implies_true, if_true, if_false, seval, -List.reduceReplicate, rowOf_own o6, o6', own_set (own_lt o6'), rowOf_own (own_set (own_lt o6') _)]
    refine ⟨K6.write (.inr (Nat.le_refl _)) _, ?_⟩
    rw [getG, he, h3, if_pos rfl, hraw]; rfl
  · simp -implicitDefEqProofs (disch := (first | omega | (simp only [lenB, lowB_len, numB_len, nsumB_len] <;> omega) | fail)) only [admQ, lenB, lowB_len, numB_len, nsumB_len, aFill, AK.cls, implies_true, if_true, if_false, seval, -List.reduceReplicate, beq_eq_false_iff_ne.mpr h3, o6', own_set (own_lt o6'), rowOf_own (own_set (own_lt o6') _)]
    exact fin0 _ _ h3 he (K6.write (.inr (Nat.le_refl _)) _)
end Go.Proofs.Ytoegmnnecanhfaa
end
