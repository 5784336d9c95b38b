/- Texts of this seat, joined (part 3 of 6): an abstract memory for Go programs, this seat's functions as abstract code, and what each of them does. -/
import Derived.Test.YtehnkcnjmfbjpaaGreatProg
import Derived.KernelRfl
import Derived.Test.YtehnkcnjmfbjpaaGreatP2
set_option linter.unusedSimpArgs false
set_option linter.defProp false
section
namespace Go.Proofs.YtehnkcnjmfbjpaaGreat
open Go.Adm
abbrev ox (d : Nat) (k : AK) (xs : List AX) : AOper := ⟨some d, k, xs, none, 0, 0⟩
abbrev oy (k : AK) (xs : List AX) : AOper := ⟨none, k, xs, none, 0, 0⟩
abbrev og (d : Nat) (k : AK) (xs : List AX) (j : Nat) (b : Bool) : AOper := ⟨some d, k, xs, some (j, b), 0, 0⟩
abbrev od (d : Nat) (k : AK) (xs : List AX) (lo hi : Nat) : AOper := ⟨some d, k, xs, none, lo, hi⟩
abbrev oe (k : AK) (xs : List AX) (lo hi : Nat) : AOper := ⟨none, k, xs, none, lo, hi⟩
abbrev oh (d : Nat) (k : AK) (xs : List AX) (j : Nat) (b : Bool) (lo hi : Nat) : AOper := ⟨some d, k, xs, some (j, b), lo, hi⟩
theorem mixed : Tryz.prog.follows .mixedOrders = true := by kernel_rfl
def c3 : ACode :=
 (.seq
 (.ops [0, 1] [
 ox 4 .mv [.c (.bool false)]])
 (.seq
 (.ops [0, 1, 5] [
 ox 20 (.call 7) [],
 ox 5 .mv [.t 20]])
 (.seq
 (.seq
 (.ops [0, 1, 5, 22] [
 ox 21 .mv [.t 5],
 ox 22 (.eq false .ptr) [.t 21, .c .nilp]])
 (.cond (.t 22)
 (.seq
 (.ops [4] [
 ox 4 .mv [.c (.bool false)]])
 .ret)
 .skip))
 (.seq
 (.seq
 (.ops [0, 1, 5, 6] [
 ox 6 .mv [.c (.int .i64 0)]])
 (.block 0
 (.loop [0, 1, 5, 6]
 (.seq
 (.seq
 (.ops [0, 1, 5, 6, 30] [
 ox 23 .mv [.t 6],
 ox 24 .mv [.t 0],
 ox 25 .len [.t 24],
 ox 26 (.cmp .lss) [.t 23, .t 25],
 ox 27 .mv [.t 26],
 og 28 .mv [.t 6] 27 true,
 og 29 (.cmp .lss) [.t 28, .c (.int .i64 40)] 27 true,
 ox 30 .pick [.t 27, .t 29, .c (.bool false)]])
 (.cond (.t 30)
 .skip
 (.exit 0)))
 (.seq
 (.block 1
 (.seq
 (.ops [0, 1, 5, 6, 7] [
 ox 33 (.mkSlice [.int .u8 0] 1) [.c (.int .i64 32), .c (.int .i64 32)],
 ox 7 .mv [.t 33]])
 (.seq
 (.ops [0, 1, 5, 6, 7] [
 ox 34 .mv [.t 7],
 ox 35 .mv [.t 0],
 ox 36 .mv [.t 6],
 ox 37 (.idxAddr 3) [.t 35, .t 36],
 ox 38 (.fieldAddr 2) [.t 37],
 ox 39 (.load false 1) [.t 38],
 ox 40 (.copy 1) [.t 34, .t 39]])
 (.seq
 (.ops [0, 1, 5, 6, 7, 47] [
 ox 41 .mv [.t 0],
 ox 42 .mv [.t 6],
 ox 43 (.idxAddr 3) [.t 41, .t 42],
 ox 44 (.fieldAddr 0) [.t 43],
 ox 45 (.load false 1) [.t 44],
 ox 46 (.call 8) [.t 45, .c (.int .i64 4)],
 ox 47 (.eq false .int) [.t 46, .c (.int .i64 3)]])
 (.cond (.t 47)
 (.ops [0, 1, 5, 6] [
 ox 48 .mv [.t 5],
 ox 49 (.call 9) [.t 48]])
 (.ops [0, 1, 5, 6] [
 ox 50 .mv [.t 5],
 ox 51 .mv [.t 0],
 ox 52 .mv [.t 6],
 ox 53 (.idxAddr 3) [.t 51, .t 52],
 ox 54 (.fieldAddr 1) [.t 53],
 ox 55 (.load false 1) [.t 54],
 ox 56 (.call 8) [.t 55, .c (.int .i64 4)],
 ox 57 .mv [.t 7],
 ox 58 (.call 10) [.t 50, .t 56, .t 57]]))))))
 (.ops [0, 1, 5, 6] [
 ox 31 .mv [.t 6],
 ox 32 (.arith .add) [.t 31, .c (.int .i64 1)],
 ox 6 .mv [.t 32]]))))))
 (.seq
 (.ops [1, 5] [
 ox 59 .mv [.t 1],
 ox 60 (.call 8) [.t 59, .c (.int .i64 4)],
 ox 1 .mv [.t 60]])
 (.seq
 (.ops [1, 5, 8, 9] [
 ox 62 .mv [.t 5],
 ox 63 .nilCheck [.t 62],
 ox 64 (.fieldAddr 5) [.t 63],
 ox 65 (.load false 1) [.t 64],
 ox 66 .mv [.t 1],
 ox 67 (.call 11) [.t 65, .t 66],
 ox 61 .mv [.t 67],
 ox 68 (.extract 0) [.t 61],
 ox 69 (.extract 1) [.t 61],
 ox 8 (.alloc ([.int .i64 0] ++ (List.replicate 32 (.int .u8 0)))) [],
 oy (.store 33) [.t 8, .t 68],
 ox 9 .mv [.t 69]])
 (.seq
 (.seq
 (.ops [1, 5, 8, 71] [
 ox 70 .mv [.t 9],
 ox 71 .not [.t 70]])
 (.cond (.t 71)
 (.seq
 (.ops [4] [
 ox 72 (.call 12) [],
 ox 4 .mv [.t 72]])
 .ret)
 .skip))
 (.seq
 (.drawn [1, 5, 8, 10, 11] [
 ox 74 .mv [.t 5],
 ox 75 .nilCheck [.t 74],
 ox 76 (.fieldAddr 2) [.t 75],
 ox 77 (.load true 3) [.t 76],
 ox 78 (.fieldAddr 0) [.t 8],
 ox 79 (.load false 1) [.t 78],
 od 80 (.call 13) [.t 77, .t 79] 0 1,
 od 73 .mv [.t 80] 1 1,
 od 81 (.extract 0) [.t 73] 1 1,
 od 82 (.extract 1) [.t 73] 1 2,
 od 10 (.alloc [.int .i64 0, .int .i64 0]) [] 0 1,
 oe (.store 2) [.t 10, .t 81] 1 2,
 od 11 .mv [.t 82] 2 2])
 (.seq
 (.ops [1, 5, 8, 11, 12, 13] [
 ox 84 .mv [.t 5],
 ox 85 (.load true 2) [.t 10],
 ox 86 (.call 14) [.t 84, .t 85],
 ox 83 .mv [.t 86],
 ox 87 (.extract 0) [.t 83],
 ox 88 (.extract 1) [.t 83],
 ox 12 (.alloc ([.int .i64 0, .int .i64 0, .int .i64 0] ++ (List.replicate 32 (.int .u8 0) ++ ([.nils])))) [],
 oy (.store 36) [.t 12, .t 87],
 ox 13 .mv [.t 88]])
 (.seq
 (.seq
 (.ops [1, 5, 8, 12, 121] [
 ox 89 .mv [.t 11],
 ox 90 .not [.t 89],
 ox 91 .mv [.t 90],
 og 92 .mv [.t 13] 91 false,
 og 93 .not [.t 92] 91 false,
 ox 94 .pick [.t 91, .c (.bool true), .t 93],
 ox 95 .mv [.t 94],
 og 96 .mv [.t 5] 95 false,
 og 97 (.load true 36) [.t 12] 95 false,
 og 98 (.call 15) [.t 96, .t 97] 95 false,
 og 99 .not [.t 98] 95 false,
 ox 100 .pick [.t 95, .c (.bool true), .t 99],
 ox 101 .mv [.t 100],
 og 102 (.fieldAddr 1) [.t 12] 101 false,
 og 103 (.load false 1) [.t 102] 101 false,
 og 104 .mv [.t 1] 101 false,
 og 105 (.eq true .int) [.t 103, .t 104] 101 false,
 ox 106 .pick [.t 101, .c (.bool true), .t 105],
 ox 107 .mv [.t 106],
 og 108 (.fieldAddr 2) [.t 12] 107 false,
 og 109 (.load true 33) [.t 108] 107 false,
 og 110 (.load true 33) [.t 8] 107 false,
 og 111 (.eqAgg true (List.replicate 33 .i)) [.t 109, .t 110] 107 false,
 ox 112 .pick [.t 107, .c (.bool true), .t 111],
 ox 113 .mv [.t 112],
 og 114 .mv [.t 5] 113 false,
 og 115 (.fieldAddr 1) [.t 12] 113 false,
 og 116 (.load false 1) [.t 115] 113 false,
 og 117 (.fieldAddr 35) [.t 12] 113 false,
 og 118 (.load false 1) [.t 117] 113 false,
 og 119 (.call 10) [.t 114, .t 116, .t 118] 113 false,
 og 120 (.eq true .int) [.t 119, .c (.int .i64 0)] 113 false,
 ox 121 .pick [.t 113, .c (.bool true), .t 120]])
 (.cond (.t 121)
 (.seq
 (.ops [4] [
 ox 4 .mv [.c (.bool false)]])
 .ret)
 .skip))
 (.seq
 (.ops [5, 8, 12, 14, 15] [
 ox 123 .mv [.t 5],
 ox 124 .nilCheck [.t 123],
 ox 125 (.fieldAddr 5) [.t 124],
 ox 126 (.load false 1) [.t 125],
 ox 127 .mv [.t 1],
 ox 128 (.call 11) [.t 126, .t 127],
 ox 122 .mv [.t 128],
 ox 129 (.extract 0) [.t 122],
 ox 130 (.extract 1) [.t 122],
 ox 14 (.alloc ([.int .i64 0] ++ (List.replicate 32 (.int .u8 0)))) [],
 oy (.store 33) [.t 14, .t 129],
 ox 15 .mv [.t 130]])
 (.seq
 (.drawn [5, 8, 12, 14, 15, 16] [
 ox 132 .mv [.t 5],
 ox 133 .nilCheck [.t 132],
 ox 134 (.fieldAddr 2) [.t 133],
 ox 135 (.load true 3) [.t 134],
 ox 136 (.fieldAddr 0) [.t 14],
 ox 137 (.load false 1) [.t 136],
 od 138 (.call 13) [.t 135, .t 137] 0 1,
 od 131 .mv [.t 138] 1 1,
 od 139 (.extract 0) [.t 131] 1 1,
 od 140 (.extract 1) [.t 131] 1 2,
 od 16 (.alloc [.int .i64 0, .int .i64 0]) [] 0 1,
 oe (.store 2) [.t 16, .t 139] 1 2,
 od 17 .mv [.t 140] 2 2])
 (.seq
 (.ops [5, 8, 12, 14, 15, 18, 19] [
 ox 142 .mv [.t 5],
 ox 143 (.load true 2) [.t 16],
 ox 144 (.call 14) [.t 142, .t 143],
 ox 141 .mv [.t 144],
 ox 145 (.extract 0) [.t 141],
 ox 146 (.extract 1) [.t 141],
 ox 18 (.alloc ([.int .i64 0, .int .i64 0, .int .i64 0] ++ (List.replicate 32 (.int .u8 0) ++ ([.nils])))) [],
 oy (.store 36) [.t 18, .t 145],
 ox 19 .mv [.t 146]])
 (.seq
 (.ops [4] [
 ox 147 .mv [.t 15],
 ox 148 .mv [.t 147],
 og 149 .mv [.t 19] 148 true,
 ox 150 .pick [.t 148, .t 149, .c (.bool false)],
 ox 151 .mv [.t 150],
 og 152 (.fieldAddr 0) [.t 14] 151 true,
 og 153 (.load false 1) [.t 152] 151 true,
 og 154 (.fieldAddr 0) [.t 8] 151 true,
 og 155 (.load false 1) [.t 154] 151 true,
 og 156 (.eq true .int) [.t 153, .t 155] 151 true,
 ox 157 .pick [.t 151, .t 156, .c (.bool false)],
 ox 158 .mv [.t 157],
 og 159 .mv [.t 5] 158 true,
 og 160 (.load true 36) [.t 18] 158 true,
 og 161 (.call 15) [.t 159, .t 160] 158 true,
 ox 162 .pick [.t 158, .t 161, .c (.bool false)],
 ox 163 .mv [.t 162],
 og 164 .mv [.t 5] 163 true,
 og 165 (.load true 36) [.t 12] 163 true,
 og 166 (.call 15) [.t 164, .t 165] 163 true,
 og 167 .not [.t 166] 163 true,
 ox 168 .pick [.t 163, .t 167, .c (.bool false)],
 ox 169 .mv [.t 168],
 og 170 (.fieldAddr 35) [.t 12] 169 true,
 og 171 (.load false 1) [.t 170] 169 true,
 og 172 (.fieldAddr 35) [.t 18] 169 true,
 og 173 (.load false 1) [.t 172] 169 true,
 og 174 (.call 16) [.t 171, .t 173] 169 true,
 ox 175 .pick [.t 169, .t 174, .c (.bool false)],
 ox 176 .mv [.t 175],
 og 177 (.call 12) [] 176 true,
 ox 178 .pick [.t 176, .t 177, .c (.bool false)],
 ox 4 .mv [.t 178]])
 .ret))))))))))))))
def r3 : List ARes := [.tmp 4]
theorem ok3 : FnOk Tryz.prog 3 c3 r3 :=
 ⟨Tryz.f3, _, Tryz.func3, by kernel_rfl, rfl, by kernel_rfl, by kernel_rfl⟩
def c4 : ACode :=
 (.seq
 (.ops [0, 1, 2] [
 ox 6 .mv [.c (.bool false)]])
 (.seq
 (.ops [0, 1, 2, 7] [
 ox 20 (.call 7) [],
 ox 7 .mv [.t 20]])
 (.seq
 (.seq
 (.ops [0, 1, 2, 7, 27] [
 ox 21 .mv [.t 7],
 ox 22 (.eq false .ptr) [.t 21, .c .nilp],
 ox 23 .mv [.t 22],
 og 24 .mv [.t 2] 23 false,
 og 25 .len [.t 24] 23 false,
 og 26 (.cmp .gtr) [.t 25, .c (.int .i64 1024)] 23 false,
 ox 27 .pick [.t 23, .c (.bool true), .t 26]])
 (.cond (.t 27)
 (.seq
 (.ops [6] [
 ox 28 (.call 12) [],
 ox 6 .mv [.t 28]])
 .ret)
 .skip))
 (.seq
 (.seq
 (.ops [0, 1, 2, 7, 8] [
 ox 8 .mv [.c (.int .i64 0)]])
 (.block 0
 (.loop [0, 1, 2, 7, 8]
 (.seq
 (.seq
 (.ops [0, 1, 2, 7, 8, 36] [
 ox 29 .mv [.t 8],
 ox 30 .mv [.t 0],
 ox 31 .len [.t 30],
 ox 32 (.cmp .lss) [.t 29, .t 31],
 ox 33 .mv [.t 32],
 og 34 .mv [.t 8] 33 true,
 og 35 (.cmp .lss) [.t 34, .c (.int .i64 40)] 33 true,
 ox 36 .pick [.t 33, .t 35, .c (.bool false)]])
 (.cond (.t 36)
 .skip
 (.exit 0)))
 (.seq
 (.block 1
 (.seq
 (.ops [0, 1, 2, 7, 8, 9] [
 ox 39 (.mkSlice [.int .u8 0] 1) [.c (.int .i64 32), .c (.int .i64 32)],
 ox 9 .mv [.t 39]])
 (.seq
 (.ops [0, 1, 2, 7, 8, 9] [
 ox 40 .mv [.t 9],
 ox 41 .mv [.t 0],
 ox 42 .mv [.t 8],
 ox 43 (.idxAddr 3) [.t 41, .t 42],
 ox 44 (.fieldAddr 2) [.t 43],
 ox 45 (.load false 1) [.t 44],
 ox 46 (.copy 1) [.t 40, .t 45]])
 (.seq
 (.ops [0, 1, 2, 7, 8, 9, 53] [
 ox 47 .mv [.t 0],
 ox 48 .mv [.t 8],
 ox 49 (.idxAddr 3) [.t 47, .t 48],
 ox 50 (.fieldAddr 0) [.t 49],
 ox 51 (.load false 1) [.t 50],
 ox 52 (.call 8) [.t 51, .c (.int .i64 4)],
 ox 53 (.eq false .int) [.t 52, .c (.int .i64 3)]])
 (.cond (.t 53)
 (.ops [0, 1, 2, 7, 8] [
 ox 54 .mv [.t 7],
 ox 55 (.call 9) [.t 54]])
 (.ops [0, 1, 2, 7, 8] [
 ox 56 .mv [.t 7],
 ox 57 .mv [.t 0],
 ox 58 .mv [.t 8],
 ox 59 (.idxAddr 3) [.t 57, .t 58],
 ox 60 (.fieldAddr 1) [.t 59],
 ox 61 (.load false 1) [.t 60],
 ox 62 (.call 8) [.t 61, .c (.int .i64 4)],
 ox 63 .mv [.t 9],
 ox 64 (.call 10) [.t 56, .t 62, .t 63]]))))))
 (.ops [0, 1, 2, 7, 8] [
 ox 37 .mv [.t 8],
 ox 38 (.arith .add) [.t 37, .c (.int .i64 1)],
 ox 8 .mv [.t 38]]))))))
 (.seq
 (.ops [1, 2, 7] [
 ox 65 .mv [.t 1],
 ox 66 (.call 8) [.t 65, .c (.int .i64 64)],
 ox 1 .mv [.t 66]])
 (.seq
 (.ops [1, 2, 7, 10] [
 ox 10 (.alloc (rep 64 ([.int .i64 0, .int .i64 0, .int .i64 0] ++ (List.replicate 32 (.int .u8 0) ++ ([.nils]))))) []])
 (.seq
 (.ops [1, 2, 7, 10, 11] [
 ox 11 (.alloc (List.replicate 64 (.bool false))) []])
 (.seq
 (.seq
 (.ops [1, 2, 7, 10, 11, 12] [
 ox 12 .mv [.c (.int .i64 0)]])
 (.block 2
 (.loop [1, 2, 7, 10, 11, 12]
 (.seq
 (.seq
 (.ops [1, 2, 7, 10, 11, 12, 68] [
 ox 67 .mv [.t 12],
 ox 68 (.cmp .lss) [.t 67, .c (.int .i64 64)]])
 (.cond (.t 68)
 .skip
 (.exit 2)))
 (.seq
 (.block 3
 (.seq
 (.ops [1, 2, 7, 10, 11, 12, 13] [
 ox 72 .mv [.t 7],
 ox 73 .mv [.t 12],
 ox 74 (.arith .quo) [.t 73, .c (.int .i64 32)],
 ox 75 .mv [.t 12],
 ox 76 (.arith .rem) [.t 75, .c (.int .i64 32)],
 ox 77 (.build [.int .i64 0, .int .i64 0] [(0, 1), (1, 1)]) [.t 74, .t 76],
 ox 78 (.call 14) [.t 72, .t 77],
 ox 71 .mv [.t 78],
 ox 79 (.extract 0) [.t 71],
 ox 80 (.extract 1) [.t 71],
 ox 13 (.alloc ([.int .i64 0, .int .i64 0, .int .i64 0] ++ (List.replicate 32 (.int .u8 0) ++ ([.nils])))) [],
 oy (.store 36) [.t 13, .t 79],
 ox 14 .mv [.t 80]])
 (.seq
 (.ops [1, 2, 7, 10, 11, 12, 13] [
 ox 81 .mv [.t 12],
 ox 82 (.load true 36) [.t 13],
 ox 83 (.idxAddrArr 64 36) [.t 10, .t 81],
 oy (.store 36) [.t 83, .t 82]])
 (.ops [1, 2, 7, 10, 11, 12] [
 ox 84 .mv [.t 12],
 ox 85 .mv [.t 7],
 ox 86 (.load true 36) [.t 13],
 ox 87 (.call 15) [.t 85, .t 86],
 ox 88 (.idxAddrArr 64 1) [.t 11, .t 84],
 oy (.store 1) [.t 88, .t 87]]))))
 (.ops [1, 2, 7, 10, 11, 12] [
 ox 69 .mv [.t 12],
 ox 70 (.arith .add) [.t 69, .c (.int .i64 1)],
 ox 12 .mv [.t 70]]))))))
 (.seq
 (.ops [1, 2, 7, 10, 11, 15] [
 ox 90 .mv [.t 7],
 ox 91 .nilCheck [.t 90],
 ox 92 (.fieldAddr 0) [.t 91],
 ox 93 (.load false 1) [.t 92],
 ox 94 .mv [.t 1],
 ox 95 (.arith .add) [.c (.int .i64 3), .t 94],
 ox 96 (.call 17) [.t 93, .t 95],
 ox 89 .mv [.t 96],
 ox 97 (.extract 0) [.t 89],
 ox 98 (.extract 1) [.t 89],
 ox 15 .mv [.t 97],
 ox 16 .mv [.t 98]])
 (.seq
 (.ops [1, 2, 7, 10, 11, 15] [
 ox 99 .mv [.t 7],
 ox 100 .nilCheck [.t 99],
 ox 101 (.fieldAddr 0) [.t 100],
 ox 102 (.load false 1) [.t 101],
 ox 103 .mv [.t 1],
 ox 104 (.arith .add) [.c (.int .i64 3), .t 103],
 ox 105 .mv [.t 2],
 ox 106 (.call 18) [.t 102, .t 104, .t 105]])
 (.seq
 (.seq
 (.ops [1, 2, 7, 10, 11, 15, 17] [
 ox 17 .mv [.c (.int .i64 0)]])
 (.block 4
 (.loop [1, 2, 7, 10, 11, 15, 17]
 (.seq
 (.seq
 (.ops [1, 2, 7, 10, 11, 15, 17, 108] [
 ox 107 .mv [.t 17],
 ox 108 (.cmp .lss) [.t 107, .c (.int .i64 64)]])
 (.cond (.t 108)
 .skip
 (.exit 4)))
 (.seq
 (.block 5
 (.seq
 (.ops [1, 2, 7, 10, 11, 15, 17, 18, 19] [
 ox 112 .mv [.t 7],
 ox 113 .mv [.t 17],
 ox 114 (.arith .quo) [.t 113, .c (.int .i64 32)],
 ox 115 .mv [.t 17],
 ox 116 (.arith .rem) [.t 115, .c (.int .i64 32)],
 ox 117 (.build [.int .i64 0, .int .i64 0] [(0, 1), (1, 1)]) [.t 114, .t 116],
 ox 118 (.call 14) [.t 112, .t 117],
 ox 111 .mv [.t 118],
 ox 119 (.extract 0) [.t 111],
 ox 120 (.extract 1) [.t 111],
 ox 18 (.alloc ([.int .i64 0, .int .i64 0, .int .i64 0] ++ (List.replicate 32 (.int .u8 0) ++ ([.nils])))) [],
 oy (.store 36) [.t 18, .t 119],
 ox 19 .mv [.t 120]])
 (.seq
 (.seq
 (.ops [1, 2, 7, 10, 11, 15, 17, 18, 19, 129] [
 ox 121 .mv [.t 17],
 ox 122 .mv [.t 1],
 ox 123 (.eq false .int) [.t 121, .t 122],
 ox 124 .mv [.t 123],
 og 125 .mv [.t 15] 124 true,
 og 126 .mv [.t 2] 124 true,
 og 127 (.call 16) [.t 125, .t 126] 124 true,
 og 128 .not [.t 127] 124 true,
 ox 129 .pick [.t 124, .t 128, .c (.bool false)]])
 (.cond (.t 129)
 (.seq
 (.seq
 (.ops [1, 2, 7, 10, 11, 15, 17, 135] [
 ox 130 .mv [.t 19],
 ox 131 .mv [.t 130],
 og 132 .mv [.t 7] 131 true,
 og 133 (.load true 36) [.t 18] 131 true,
 og 134 (.call 15) [.t 132, .t 133] 131 true,
 ox 135 .pick [.t 131, .t 134, .c (.bool false)]])
 (.cond (.t 135)
 (.seq
 (.ops [6] [
 ox 6 .mv [.c (.bool false)]])
 .ret)
 .skip))
 (.exit 5))
 .skip))
 (.seq
 (.drawn [1, 2, 7, 10, 11, 15, 17, 150] [
 ox 136 (.load true 36) [.t 18],
 ox 137 .mv [.t 17],
 ox 138 (.idxAddrArr 64 36) [.t 10, .t 137],
 ox 139 (.load true 36) [.t 138],
 od 140 (.call 19) [.t 136, .t 139] 0 1,
 od 141 .not [.t 140] 1 1,
 od 142 .mv [.t 141] 1 1,
 oh 143 .mv [.t 7] 142 false 1 1,
 oh 144 (.load true 36) [.t 18] 142 false 1 1,
 oh 145 (.call 15) [.t 143, .t 144] 142 false 1 2,
 oh 146 .mv [.t 17] 142 false 1 2,
 oh 147 (.idxAddrArr 64 1) [.t 11, .t 146] 142 false 1 2,
 oh 148 (.load false 1) [.t 147] 142 false 1 2,
 oh 149 (.eq true .bool) [.t 145, .t 148] 142 false 2 2,
 od 150 .pick [.t 142, .c (.bool true), .t 149] 2 2])
 (.cond (.t 150)
 (.seq
 (.ops [6] [
 ox 6 .mv [.c (.bool false)]])
 .ret)
 .skip)))))
 (.ops [1, 2, 7, 10, 11, 15, 17] [
 ox 109 .mv [.t 17],
 ox 110 (.arith .add) [.t 109, .c (.int .i64 1)],
 ox 17 .mv [.t 110]]))))))
 (.seq
 (.ops [6] [
 ox 151 (.call 12) [],
 ox 6 .mv [.t 151]])
 .ret))))))))))))
def r4 : List ARes := [.tmp 6]
theorem ok4 : FnOk Tryz.prog 4 c4 r4 :=
 ⟨Tryz.f4, _, Tryz.func4, by kernel_rfl, rfl, by kernel_rfl, by kernel_rfl⟩
def c5 : ACode :=
 (.seq
 (.ops [] [
 ox 0 .mv [.c (.bool false)]])
 (.seq
 (.ops [1] [
 ox 12 (.call 7) [],
 ox 1 .mv [.t 12]])
 (.seq
 (.seq
 (.ops [1, 33] [
 ox 13 .mv [.t 1],
 ox 14 (.eq false .ptr) [.t 13, .c .nilp],
 ox 15 .mv [.t 14],
 og 16 .mv [.t 1] 15 false,
 og 17 (.mkSlice [.int .u8 0] 1) [.c (.int .i64 32), .c (.int .i64 32)] 15 false,
 og 18 (.call 10) [.t 16, .c (.int .i64 1), .t 17] 15 false,
 og 19 (.eq true .int) [.t 18, .c (.int .i64 0)] 15 false,
 ox 20 .pick [.t 15, .c (.bool true), .t 19],
 ox 21 .mv [.t 20],
 og 22 .mv [.t 1] 21 false,
 og 23 (.call 9) [.t 22] 21 false,
 og 24 (.eq true .int) [.t 23, .c (.int .i64 0)] 21 false,
 ox 25 .pick [.t 21, .c (.bool true), .t 24],
 ox 26 .mv [.t 25],
 og 27 .mv [.t 1] 26 false,
 og 28 .nilCheck [.t 27] 26 false,
 og 29 (.fieldAddr 7) [.t 28] 26 false,
 og 30 (.load false 1) [.t 29] 26 false,
 og 31 (.call 20) [.t 30, .c (.int .i64 0)] 26 false,
 og 32 (.eq true .int) [.t 31, .c (.int .i64 0)] 26 false,
 ox 33 .pick [.t 26, .c (.bool true), .t 32]])
 (.cond (.t 33)
 (.seq
 (.ops [0] [
 ox 0 .mv [.c (.bool false)]])
 .ret)
 .skip))
 (.seq
 (.ops [1, 2] [
 ox 34 (.mkSl 5 [.int .i64 0, .int .i64 0, .int .i64 0, .int .i64 0, .int .i64 0] [(0, 1), (1, 1), (2, 1), (3, 1), (4, 1)]) [.c (.int .i64 4), .c (.int .i64 5), .c (.int .i64 5), .c (.int .i64 0), .c (.int .i64 0)],
 ox 2 .mv [.t 34]])
 (.seq
 (.seq
 (.ops [1, 2, 3] [
 ox 3 .mv [.c (.int .i64 0)]])
 (.block 0
 (.loop [1, 2, 3]
 (.seq
 (.seq
 (.ops [1, 2, 3, 38] [
 ox 35 .mv [.t 3],
 ox 36 .mv [.t 2],
 ox 37 .len [.t 36],
 ox 38 (.cmp .lss) [.t 35, .t 37]])
 (.cond (.t 38)
 .skip
 (.exit 0)))
 (.seq
 (.block 1
 (.seq
 (.ops [1, 2, 3, 4, 5] [
 ox 42 .mv [.t 1],
 ox 43 .mv [.t 3],
 ox 44 (.build [.int .i64 0, .int .i64 0] [(1, 1)]) [.t 43],
 ox 45 (.call 14) [.t 42, .t 44],
 ox 41 .mv [.t 45],
 ox 46 (.extract 0) [.t 41],
 ox 47 (.extract 1) [.t 41],
 ox 4 (.alloc ([.int .i64 0, .int .i64 0, .int .i64 0] ++ (List.replicate 32 (.int .u8 0) ++ ([.nils])))) [],
 oy (.store 36) [.t 4, .t 46],
 ox 5 .mv [.t 47]])
 (.seq
 (.drawn [1, 2, 3, 70] [
 ox 48 (.fieldAddr 0) [.t 4],
 ox 49 (.load false 1) [.t 48],
 ox 50 .mv [.t 2],
 ox 51 .mv [.t 3],
 ox 52 (.idxAddr 1) [.t 50, .t 51],
 ox 53 (.load false 1) [.t 52],
 ox 54 (.eq true .int) [.t 49, .t 53],
 ox 55 .mv [.t 54],
 og 56 .mv [.t 5] 55 false,
 og 57 .mv [.t 2] 55 false,
 og 58 .mv [.t 3] 55 false,
 og 59 (.idxAddr 1) [.t 57, .t 58] 55 false,
 og 60 (.load false 1) [.t 59] 55 false,
 og 61 (.cmp .gtr) [.t 60, .c (.int .i64 0)] 55 false,
 og 62 (.eq true .bool) [.t 56, .t 61] 55 false,
 ox 63 .pick [.t 55, .c (.bool true), .t 62],
 ox 64 .mv [.t 63],
 og 65 .mv [.t 1] 64 false,
 og 66 (.load true 36) [.t 4] 64 false,
 oh 67 (.call 15) [.t 65, .t 66] 64 false 0 1,
 oh 68 .mv [.t 5] 64 false 0 1,
 oh 69 (.eq true .bool) [.t 67, .t 68] 64 false 1 1,
 od 70 .pick [.t 64, .c (.bool true), .t 69] 1 1])
 (.cond (.t 70)
 (.seq
 (.ops [0] [
 ox 0 .mv [.c (.bool false)]])
 .ret)
 .skip))))
 (.ops [1, 2, 3] [
 ox 39 .mv [.t 3],
 ox 40 (.arith .add) [.t 39, .c (.int .i64 1)],
 ox 3 .mv [.t 40]]))))))
 (.seq
 (.ops [1, 6] [
 ox 71 (.build [.int .i64 0, .int .i64 0] [(0, 1)]) [.c (.int .i64 (-1))],
 ox 72 (.build [.int .i64 0, .int .i64 0] [(0, 1)]) [.c (.int .i64 18)],
 ox 73 (.build [.int .i64 0, .int .i64 0] [(1, 1)]) [.c (.int .i64 32)],
 ox 74 (.build [.int .i64 0, .int .i64 0] [(1, 1)]) [.c (.int .i64 (-1))],
 ox 75 (.build [.int .i64 0, .int .i64 0] [(0, 1), (1, 1)]) [.c (.int .i64 9223372036854775807), .c (.int .i64 9223372036854775807)],
 ox 76 (.mkSl 5 (List.replicate 10 (.int .i64 0)) [(0, 2), (2, 2), (4, 2), (6, 2), (8, 2)]) [.t 71, .t 72, .t 73, .t 74, .t 75],
 ox 6 .mv [.t 76]])
 (.seq
 (.seq
 (.ops [1, 6, 7] [
 ox 7 .mv [.c (.int .i64 0)]])
 (.block 2
 (.loop [1, 6, 7]
 (.seq
 (.seq
 (.ops [1, 6, 7, 80] [
 ox 77 .mv [.t 7],
 ox 78 .mv [.t 6],
 ox 79 .len [.t 78],
 ox 80 (.cmp .lss) [.t 77, .t 79]])
 (.cond (.t 80)
 .skip
 (.exit 2)))
 (.seq
 (.block 3
 (.seq
 (.ops [1, 6, 7, 9] [
 ox 84 .mv [.t 1],
 ox 85 .mv [.t 6],
 ox 86 .mv [.t 7],
 ox 87 (.idxAddr 2) [.t 85, .t 86],
 ox 88 (.load true 2) [.t 87],
 ox 89 (.call 14) [.t 84, .t 88],
 ox 83 .mv [.t 89],
 ox 90 (.extract 0) [.t 83],
 ox 91 (.extract 1) [.t 83],
 ox 8 (.alloc ([.int .i64 0, .int .i64 0, .int .i64 0] ++ (List.replicate 32 (.int .u8 0) ++ ([.nils])))) [],
 oy (.store 36) [.t 8, .t 90],
 ox 9 .mv [.t 91]])
 (.seq
 (.ops [1, 6, 7, 92] [
 ox 92 .mv [.t 9]])
 (.cond (.t 92)
 (.seq
 (.ops [0] [
 ox 0 .mv [.c (.bool false)]])
 .ret)
 .skip))))
 (.ops [1, 6, 7] [
 ox 81 .mv [.t 7],
 ox 82 (.arith .add) [.t 81, .c (.int .i64 1)],
 ox 7 .mv [.t 82]]))))))
 (.seq
 (.ops [1, 10] [
 ox 94 .mv [.t 1],
 ox 95 .nilCheck [.t 94],
 ox 96 (.fieldAddr 5) [.t 95],
 ox 97 (.load false 1) [.t 96],
 ox 98 (.call 21) [.t 97, .c (.int .i64 0)],
 ox 93 .mv [.t 98],
 ox 99 (.extract 0) [.t 93],
 ox 100 (.extract 1) [.t 93],
 ox 10 (.alloc ([.int .i64 0] ++ (List.replicate 32 (.int .u8 0)))) [],
 oy (.store 33) [.t 10, .t 99],
 ox 11 .mv [.t 100]])
 (.seq
 (.ops [0] [
 ox 101 .mv [.t 1],
 ox 102 (.load true 33) [.t 10],
 ox 103 (.build ([.int .i64 0, .int .i64 0, .int .i64 0] ++ (List.replicate 32 (.int .u8 0) ++ ([.nils]))) [(0, 1), (1, 1), (2, 33)]) [.c (.int .i64 4), .c (.int .i64 0), .t 102],
 ox 104 (.call 15) [.t 101, .t 103],
 ox 105 .not [.t 104],
 ox 106 .mv [.t 105],
 og 107 .mv [.t 1] 106 true,
 og 108 (.load true 33) [.t 10] 106 true,
 og 109 (.build ([.int .i64 0, .int .i64 0, .int .i64 0] ++ (List.replicate 32 (.int .u8 0) ++ ([.nils]))) [(0, 1), (1, 1), (2, 33)]) [.c (.int .i64 5), .c (.int .i64 1), .t 108] 106 true,
 og 110 (.call 15) [.t 107, .t 109] 106 true,
 og 111 .not [.t 110] 106 true,
 ox 112 .pick [.t 106, .t 111, .c (.bool false)],
 ox 113 .mv [.t 112],
 og 114 .mv [.t 1] 113 true,
 og 115 (.load true 33) [.t 10] 113 true,
 og 116 (.build ([.int .i64 0, .int .i64 0, .int .i64 0] ++ (List.replicate 32 (.int .u8 0) ++ ([.nils]))) [(0, 1), (1, 1), (2, 33)]) [.c (.int .i64 5), .c (.int .i64 0), .t 115] 113 true,
 og 117 (.call 15) [.t 114, .t 116] 113 true,
 ox 118 .pick [.t 113, .t 117, .c (.bool false)],
 ox 119 .mv [.t 118],
 og 120 .mv [.t 1] 119 true,
 og 121 (.load true 33) [.t 10] 119 true,
 og 122 (.build ([.int .i64 0, .int .i64 0, .int .i64 0] ++ (List.replicate 32 (.int .u8 0) ++ ([.nils]))) [(0, 1), (1, 1), (2, 33)]) [.c (.int .i64 3), .c (.int .i64 0), .t 121] 119 true,
 og 123 (.call 15) [.t 120, .t 122] 119 true,
 og 124 .not [.t 123] 119 true,
 ox 125 .pick [.t 119, .t 124, .c (.bool false)],
 ox 126 .mv [.t 125],
 og 127 .mv [.t 1] 126 true,
 og 128 (.build ([.int .i64 0, .int .i64 0, .int .i64 0] ++ (List.replicate 32 (.int .u8 0) ++ ([.nils]))) [(0, 1), (1, 1)]) [.c (.int .i64 5), .c (.int .i64 7)] 126 true,
 og 129 (.call 15) [.t 127, .t 128] 126 true,
 og 130 .not [.t 129] 126 true,
 ox 131 .pick [.t 126, .t 130, .c (.bool false)],
 ox 132 .mv [.t 131],
 og 133 .mv [.t 1] 132 true,
 og 134 (.build ([.int .i64 0, .int .i64 0, .int .i64 0] ++ (List.replicate 32 (.int .u8 0) ++ ([.nils]))) [(0, 1), (1, 1)]) [.c (.int .i64 4), .c (.int .i64 64)] 132 true,
 og 135 (.call 15) [.t 133, .t 134] 132 true,
 og 136 .not [.t 135] 132 true,
 ox 137 .pick [.t 132, .t 136, .c (.bool false)],
 ox 138 .mv [.t 137],
 og 139 (.call 12) [] 138 true,
 ox 140 .pick [.t 138, .t 139, .c (.bool false)],
 ox 0 .mv [.t 140]])
 .ret)))))))))
def r5 : List ARes := [.tmp 0]
theorem ok5 : FnOk Tryz.prog 5 c5 r5 :=
 ⟨Tryz.f5, _, Tryz.func5, by kernel_rfl, rfl, by kernel_rfl, by kernel_rfl⟩
def c7 : ACode :=
 (.seq
 (.ops [] [
 ox 0 .mv [.c .nilp]])
 (.seq
 (.ops [1] [
 ox 6 (.call 26) [],
 ox 1 (.alloc [.int .i64 0, .int .i64 0, .int .i64 0]) [],
 oy (.store 3) [.t 1, .t 6]])
 (.seq
 (.ops [1, 2, 3] [
 ox 8 (.load true 3) [.t 1],
 ox 9 (.call 28) [.t 8],
 ox 10 (.call 27) [.t 9],
 ox 7 .mv [.t 10],
 ox 11 (.extract 0) [.t 7],
 ox 12 (.extract 1) [.t 7],
 ox 2 .mv [.t 11],
 ox 3 .mv [.t 12]])
 (.seq
 (.seq
 (.ops [1, 2, 14] [
 ox 13 .mv [.t 3],
 ox 14 (.eq true .int) [.t 13, .c (.int .i64 0)]])
 (.cond (.t 14)
 (.seq
 (.ops [0] [
 ox 0 .mv [.c .nilp]])
 .ret)
 .skip))
 (.seq
 (.ops [1, 2, 4] [
 ox 15 (.call 29) [],
 ox 4 .mv [.t 15]])
 (.seq
 (.ops [1, 2, 4, 5] [
 ox 16 (.fieldAddr 0) [.t 1],
 ox 17 (.load false 1) [.t 16],
 ox 18 (.call 30) [.t 17],
 ox 5 .mv [.t 18]])
 (.seq
 (.ops [1, 2, 4, 5] [
 ox 19 .mv [.t 5],
 ox 20 (.call 31) [.t 19, .c (.int .i64 0)]])
 (.seq
 (.drawn [0] [
 od 21 .mv [.t 2] 0 2,
 od 22 .mv [.t 4] 0 2,
 od 23 (.iface 83) [.t 22] 0 2,
 od 24 (.load true 3) [.t 1] 0 2,
 od 25 (.call 32) [] 0 1,
 od 26 .mv [.t 5] 0 2,
 od 27 .mv [.t 2] 0 1,
 od 28 .mv [.t 4] 0 1,
 od 29 (.iface 83) [.t 28] 0 1,
 od 30 (.load true 3) [.t 1] 0 1,
 od 31 .mv [.t 5] 0 1,
 od 32 (.build [.int .i64 0, .int .i64 0] []) [] 0 1,
 od 33 (.build (List.replicate 32 (.int .u8 0)) []) [] 0 1,
 od 34 (.call 33) [.t 27, .t 29, .t 30, .t 31, .c (.int .i64 1), .t 32, .t 33] 1 2,
 od 35 (.build [.nilp, .nili, .int .i64 0, .int .i64 0, .int .i64 0, .nilp, .nilp, .nilp] [(0, 1), (1, 1), (2, 3), (5, 1), (6, 1), (7, 1)]) [.t 21, .t 23, .t 24, .t 25, .t 26, .t 34] 2 2,
 od 36 .box [.t 35] 2 2,
 od 0 .mv [.t 36] 2 2])
 .ret))))))))
def r7 : List ARes := [.tmp 0]
theorem ok7 : FnOk Tryz.prog 7 c7 r7 :=
 ⟨Tryz.f7, _, Tryz.func7, by kernel_rfl, rfl, by kernel_rfl, by kernel_rfl⟩
def c8 : ACode :=
 (.seq
 (.ops [0, 1] [
 ox 4 .mv [.c (.int .i64 0)]])
 (.seq
 (.seq
 (.ops [0, 1, 6] [
 ox 5 .mv [.t 1],
 ox 6 (.cmp .lss) [.t 5, .c (.int .i64 1)]])
 (.cond (.t 6)
 (.seq
 (.ops [4] [
 ox 4 .mv [.c (.int .i64 0)]])
 .ret)
 .skip))
 (.seq
 (.ops [0, 1] [
 ox 7 .mv [.t 0],
 ox 8 .mv [.t 1],
 ox 9 (.arith .rem) [.t 7, .t 8],
 ox 0 .mv [.t 9]])
 (.seq
 (.seq
 (.ops [0, 1, 11] [
 ox 10 .mv [.t 0],
 ox 11 (.cmp .lss) [.t 10, .c (.int .i64 0)]])
 (.cond (.t 11)
 (.ops [0] [
 ox 12 .mv [.t 0],
 ox 13 .mv [.t 1],
 ox 14 (.arith .add) [.t 12, .t 13],
 ox 0 .mv [.t 14]])
 .skip))
 (.seq
 (.ops [4] [
 ox 15 .mv [.t 0],
 ox 4 .mv [.t 15]])
 .ret)))))
def r8 : List ARes := [.tmp 4]
theorem ok8 : FnOk Tryz.prog 8 c8 r8 :=
 ⟨Tryz.f8, _, Tryz.func8, by kernel_rfl, rfl, by kernel_rfl, by kernel_rfl⟩
def c9 : ACode :=
 (.seq
 (.ops [0] [
 ox 2 .mv [.c (.int .i64 0)]])
 (.seq
 (.seq
 (.ops [0, 10, 11, 12] [
 ox 6 .mv [.t 0],
 ox 7 .nilCheck [.t 6],
 ox 8 (.fieldAddr 5) [.t 7],
 ox 9 (.load false 1) [.t 8],
 ox 10 (.call 34) [.t 9],
 ox 11 .len [.t 10],
 ox 12 .mv [.c (.int .i64 0)]])
 (.block 0
 (.loop [0, 10, 11, 12]
 (.seq
 (.ops [0, 10, 11, 12, 13] [
 ox 13 (.cmp .lss) [.t 12, .t 11]])
 (.seq
 (.cond (.t 13)
 .skip
 (.exit 0))
 (.seq
 (.block 1
 (.seq
 (.ops [0, 4, 10, 11, 12] [
 ox 14 (.idxAddr 1) [.t 10, .t 12],
 ox 15 (.load false 1) [.t 14],
 ox 4 .mv [.t 15]])
 (.seq
 (.ops [0, 5, 10, 11, 12] [
 ox 16 .mv [.t 0],
 ox 17 .mv [.t 4],
 ox 18 (.call 35) [.t 16, .t 17],
 ox 5 .mv [.t 18]])
 (.seq
 (.ops [0, 5, 10, 11, 12, 20] [
 ox 19 .mv [.t 5],
 ox 20 (.eq true .int) [.t 19, .c (.int .i64 0)]])
 (.cond (.t 20)
 (.seq
 (.ops [2] [
 ox 21 .mv [.t 5],
 ox 2 .mv [.t 21]])
 .ret)
 .skip)))))
 (.ops [0, 10, 11, 12] [
 ox 22 (.arith .add) [.t 12, .c (.int .i64 1)],
 ox 12 .mv [.t 22]])))))))
 (.seq
 (.ops [2] [
 ox 2 .mv [.c (.int .i64 0)]])
 .ret)))
def r9 : List ARes := [.tmp 2]
theorem ok9 : FnOk Tryz.prog 9 c9 r9 :=
 ⟨Tryz.f9, _, Tryz.func9, by kernel_rfl, rfl, by kernel_rfl, by kernel_rfl⟩
def c10 : ACode :=
 (.seq
 (.ops [0, 1, 2] [
 ox 6 .mv [.c (.int .i64 0)]])
 (.seq
 (.drawn [0, 1, 7, 8] [
 od 11 .mv [.t 0] 0 2,
 od 12 .nilCheck [.t 11] 0 2,
 od 13 (.fieldAddr 7) [.t 12] 0 2,
 od 14 (.load false 1) [.t 13] 0 2,
 od 15 .mv [.t 1] 0 2,
 ox 16 .mv [.t 1],
 od 17 (.call 37) [.c .nils, .t 16] 0 1,
 od 18 .mv [.t 2] 0 1,
 od 19 (.append 1 1) [.t 17, .t 18] 1 2,
 od 20 (.call 36) [.t 14, .c (.int .i64 4), .t 15, .t 19] 2 3,
 od 10 .mv [.t 20] 3 3,
 od 21 (.extract 0) [.t 10] 3 3,
 od 22 (.extract 1) [.t 10] 3 4,
 od 7 (.alloc ([.int .i64 0] ++ (List.replicate 32 (.int .u8 0)))) [] 0 3,
 oe (.store 33) [.t 7, .t 21] 3 4,
 od 8 .mv [.t 22] 4 4])
 (.seq
 (.seq
 (.ops [0, 1, 7, 8, 24] [
 ox 23 .mv [.t 8],
 ox 24 (.eq true .int) [.t 23, .c (.int .i64 0)]])
 (.cond (.t 24)
 (.seq
 (.ops [6] [
 ox 25 .mv [.t 8],
 ox 6 .mv [.t 25]])
 .ret)
 .skip))
 (.seq
 (.drawn [0, 7, 9] [
 ox 26 .mv [.t 0],
 ox 27 .nilCheck [.t 26],
 ox 28 (.fieldAddr 5) [.t 27],
 ox 29 (.load false 1) [.t 28],
 ox 30 .mv [.t 1],
 ox 31 (.load true 33) [.t 7],
 od 32 (.call 38) [.t 29, .t 30, .t 31] 0 1,
 od 9 .mv [.t 32] 1 1])
 (.seq
 (.ops [0, 9] [
 ox 33 .mv [.t 0],
 ox 34 (.load true 33) [.t 7],
 ox 35 (.mkSl 1 ([.int .i64 0] ++ (List.replicate 32 (.int .u8 0))) [(0, 33)]) [.t 34],
 ox 36 (.call 39) [.t 33, .c (.int .i64 1), .t 35]])
 (.seq
 (.ops [] [
 ox 37 .mv [.t 0],
 ox 38 .mv [.t 9],
 ox 39 (.call 39) [.t 37, .c (.int .i64 (-1)), .t 38]])
 (.seq
 (.ops [6] [
 ox 6 .mv [.c (.int .i64 0)]])
 .ret)))))))
def r10 : List ARes := [.tmp 6]
theorem ok10 : FnOk Tryz.prog 10 c10 r10 :=
 ⟨Tryz.f10, _, Tryz.func10, by kernel_rfl, rfl, by kernel_rfl, by kernel_rfl⟩
def c11 : ACode :=
 (.seq
 (.ops [0, 1, 4] [
 ox 4 (.alloc ([.int .i64 0] ++ (List.replicate 32 (.int .u8 0)))) [],
 ox 5 .mv [.c (.bool false)]])
 (.seq
 (.seq
 (.ops [0, 1, 4, 9] [
 ox 6 .mv [.t 0],
 ox 7 .mv [.t 1],
 ox 8 (.call 40) [.t 6, .t 7],
 ox 9 .not [.t 8]])
 (.cond (.t 9)
 (.seq
 (.ops [4, 5] [
 ox 10 (.build ([.int .i64 0] ++ (List.replicate 32 (.int .u8 0))) []) [],
 oy (.store 33) [.t 4, .t 10],
 ox 5 .mv [.c (.bool false)]])
 .ret)
 .skip))
 (.seq
 (.ops [4, 5] [
 ox 11 .mv [.t 0],
 ox 12 .mv [.t 1],
 ox 13 .nilCheck [.t 11],
 ox 14 (.fieldAddr 0) [.t 13],
 ox 15 (.idxAddrArr 64 33) [.t 14, .t 12],
 ox 16 (.load true 33) [.t 15],
 oy (.store 33) [.t 4, .t 16],
 ox 5 .mv [.c (.bool true)]])
 .ret)))
def r11 : List ARes := [.cell 4 true 33, .tmp 5]
theorem ok11 : FnOk Tryz.prog 11 c11 r11 :=
 ⟨Tryz.f11, _, Tryz.func11, by kernel_rfl, rfl, by kernel_rfl, by kernel_rfl⟩
def c12 : ACode :=
 (.seq
 (.ops [] [
 ox 0 .mv [.c (.bool false)]])
 (.seq
 (.ops [1] [
 ox 8 (.call 7) [],
 ox 1 .mv [.t 8]])
 (.seq
 (.seq
 (.ops [1, 22] [
 ox 9 .mv [.t 1],
 ox 10 (.eq false .ptr) [.t 9, .c .nilp],
 ox 11 .mv [.t 10],
 og 12 .mv [.t 1] 11 false,
 og 13 (.call 41) [.c (.int .i64 32)] 11 false,
 og 14 (.call 10) [.t 12, .c (.int .i64 2), .t 13] 11 false,
 og 15 (.eq true .int) [.t 14, .c (.int .i64 0)] 11 false,
 ox 16 .pick [.t 11, .c (.bool true), .t 15],
 ox 17 .mv [.t 16],
 og 18 .mv [.t 1] 17 false,
 og 19 (.mkSlice [.int .u8 0] 1) [.c (.int .i64 32), .c (.int .i64 32)] 17 false,
 og 20 (.call 10) [.t 18, .c (.int .i64 2), .t 19] 17 false,
 og 21 (.eq true .int) [.t 20, .c (.int .i64 0)] 17 false,
 ox 22 .pick [.t 17, .c (.bool true), .t 21]])
 (.cond (.t 22)
 (.seq
 (.ops [0] [
 ox 0 .mv [.c (.bool false)]])
 .ret)
 .skip))
 (.seq
 (.ops [1, 2, 3] [
 ox 24 .mv [.t 1],
 ox 25 (.build [.int .i64 0, .int .i64 0] []) [],
 ox 26 (.call 14) [.t 24, .t 25],
 ox 23 .mv [.t 26],
 ox 27 (.extract 0) [.t 23],
 ox 28 (.extract 1) [.t 23],
 ox 2 (.alloc ([.int .i64 0, .int .i64 0, .int .i64 0] ++ (List.replicate 32 (.int .u8 0) ++ ([.nils])))) [],
 oy (.store 36) [.t 2, .t 27],
 ox 3 .mv [.t 28]])
 (.seq
 (.ops [1, 2, 3, 4, 5] [
 ox 30 .mv [.t 1],
 ox 31 (.build [.int .i64 0, .int .i64 0] [(1, 1)]) [.c (.int .i64 1)],
 ox 32 (.call 14) [.t 30, .t 31],
 ox 29 .mv [.t 32],
 ox 33 (.extract 0) [.t 29],
 ox 34 (.extract 1) [.t 29],
 ox 4 (.alloc ([.int .i64 0, .int .i64 0, .int .i64 0] ++ (List.replicate 32 (.int .u8 0) ++ ([.nils])))) [],
 oy (.store 36) [.t 4, .t 33],
 ox 5 .mv [.t 34]])
 (.seq
 (.ops [1, 2, 3, 4, 5, 7] [
 ox 36 .mv [.t 1],
 ox 37 (.build [.int .i64 0, .int .i64 0] [(1, 1)]) [.c (.int .i64 2)],
 ox 38 (.call 14) [.t 36, .t 37],
 ox 35 .mv [.t 38],
 ox 39 (.extract 0) [.t 35],
 ox 40 (.extract 1) [.t 35],
 ox 6 (.alloc ([.int .i64 0, .int .i64 0, .int .i64 0] ++ (List.replicate 32 (.int .u8 0) ++ ([.nils])))) [],
 oy (.store 36) [.t 6, .t 39],
 ox 7 .mv [.t 40]])
 (.seq
 (.drawn [0] [
 ox 41 .mv [.t 3],
 ox 42 .mv [.t 41],
 og 43 .mv [.t 5] 42 true,
 ox 44 .pick [.t 42, .t 43, .c (.bool false)],
 ox 45 .mv [.t 44],
 og 46 .mv [.t 7] 45 true,
 og 47 .not [.t 46] 45 true,
 ox 48 .pick [.t 45, .t 47, .c (.bool false)],
 ox 49 .mv [.t 48],
 og 50 (.fieldAddr 0) [.t 2] 49 true,
 og 51 (.load false 1) [.t 50] 49 true,
 og 52 (.eq false .int) [.t 51, .c (.int .i64 4)] 49 true,
 ox 53 .pick [.t 49, .t 52, .c (.bool false)],
 ox 54 .mv [.t 53],
 og 55 (.fieldAddr 1) [.t 2] 54 true,
 og 56 (.load false 1) [.t 55] 54 true,
 og 57 (.eq false .int) [.t 56, .c (.int .i64 2)] 54 true,
 ox 58 .pick [.t 54, .t 57, .c (.bool false)],
 ox 59 .mv [.t 58],
 oh 60 (.fieldAddr 35) [.t 2] 59 true 0 1,
 oh 61 (.load false 1) [.t 60] 59 true 0 1,
 oh 62 (.call 41) [.c (.int .i64 32)] 59 true 0 1,
 oh 63 (.call 16) [.t 61, .t 62] 59 true 1 2,
 od 64 .pick [.t 59, .t 63, .c (.bool false)] 2 2,
 od 65 .mv [.t 64] 2 2,
 oh 66 .mv [.t 1] 65 true 2 2,
 oh 67 (.load true 36) [.t 2] 65 true 2 2,
 oh 68 (.call 15) [.t 66, .t 67] 65 true 2 3,
 oh 69 .not [.t 68] 65 true 3 3,
 od 70 .pick [.t 65, .t 69, .c (.bool false)] 3 3,
 od 71 .mv [.t 70] 3 3,
 oh 72 .mv [.t 1] 71 true 3 3,
 oh 73 (.load true 36) [.t 4] 71 true 3 3,
 oh 74 (.call 15) [.t 72, .t 73] 71 true 3 4,
 od 75 .pick [.t 71, .t 74, .c (.bool false)] 4 4,
 od 76 .mv [.t 75] 4 4,
 oh 77 .mv [.t 1] 76 true 4 4,
 oh 78 (.call 24) [.t 77] 76 true 4 5,
 oh 79 (.idxAddr 1) [.t 78, .c (.int .i64 0)] 76 true 5 5,
 oh 80 (.load false 1) [.t 79] 76 true 5 5,
 oh 81 (.eq false .int) [.t 80, .c (.int .i64 1)] 76 true 5 5,
 od 82 .pick [.t 76, .t 81, .c (.bool false)] 5 5,
 od 0 .mv [.t 82] 5 5])
 .ret)))))))
def r12 : List ARes := [.tmp 0]
theorem ok12 : FnOk Tryz.prog 12 c12 r12 :=
 ⟨Tryz.f12, _, Tryz.func12, by kernel_rfl, rfl, by kernel_rfl, by kernel_rfl⟩
def c13 : ACode :=
 (.seq
 (.ops [1, 2, 4] [
 ox 2 .box [.t 0],
 ox 4 (.alloc [.int .i64 0, .int .i64 0]) [],
 ox 5 .mv [.c (.bool false)]])
 (.seq
 (.seq
 (.ops [1, 2, 4, 13] [
 ox 6 .mv [.t 1],
 ox 7 (.load true 3) [.t 2],
 ox 8 (.call 28) [.t 7],
 ox 9 (.arith .sub) [.t 8, .c (.int .i64 1)],
 ox 10 (.build [.int .i64 0, .int .i64 0, .int .i64 0] [(0, 1), (1, 1), (2, 1)]) [.t 6, .c (.int .i64 3), .t 9],
 ox 11 (.mkSl 1 [.int .i64 0, .int .i64 0, .int .i64 0] [(0, 3)]) [.t 10],
 ox 12 (.call 42) [.t 11],
 ox 13 .not [.t 12]])
 (.cond (.t 13)
 (.seq
 (.ops [4, 5] [
 ox 14 (.build [.int .i64 0, .int .i64 0] []) [],
 oy (.store 2) [.t 4, .t 14],
 ox 5 .mv [.c (.bool false)]])
 .ret)
 .skip))
 (.seq
 (.drawn [4, 5] [
 ox 15 .mv [.t 1],
 ox 16 (.arith .sub) [.t 15, .c (.int .i64 3)],
 ox 17 (.fieldAddr 1) [.t 2],
 ox 18 (.load false 1) [.t 17],
 ox 19 (.arith .quo) [.t 16, .t 18],
 ox 20 .mv [.t 1],
 ox 21 (.arith .sub) [.t 20, .c (.int .i64 3)],
 ox 22 (.fieldAddr 1) [.t 2],
 ox 23 (.load false 1) [.t 22],
 ox 24 (.arith .rem) [.t 21, .t 23],
 ox 25 (.build [.int .i64 0, .int .i64 0] [(0, 1), (1, 1)]) [.t 19, .t 24],
 oe (.store 2) [.t 4, .t 25] 0 1,
 od 5 .mv [.c (.bool true)] 1 1])
 .ret)))
def r13 : List ARes := [.cell 4 true 2, .tmp 5]
theorem ok13 : FnOk Tryz.prog 13 c13 r13 :=
 ⟨Tryz.f13, _, Tryz.func13, by kernel_rfl, rfl, by kernel_rfl, by kernel_rfl⟩
def c14 : ACode :=
 (.seq
 (.ops [0, 3, 4] [
 ox 3 .box [.t 1],
 ox 4 (.alloc ([.int .i64 0, .int .i64 0, .int .i64 0] ++ (List.replicate 32 (.int .u8 0) ++ ([.nils])))) [],
 ox 5 .mv [.c (.bool false)]])
 (.seq
 (.drawn [0, 4, 6] [
 ox 15 .mv [.t 0],
 ox 16 .nilCheck [.t 15],
 ox 17 (.fieldAddr 2) [.t 16],
 ox 18 (.load true 3) [.t 17],
 ox 19 (.load true 2) [.t 3],
 od 20 (.call 43) [.t 18, .t 19] 0 1,
 od 6 .mv [.t 20] 1 1])
 (.seq
 (.seq
 (.ops [0, 4, 6, 22] [
 ox 21 .mv [.t 6],
 ox 22 (.eq false .int) [.t 21, .c (.int .i64 0)]])
 (.cond (.t 22)
 (.seq
 (.ops [4, 5] [
 ox 23 (.build ([.int .i64 0, .int .i64 0, .int .i64 0] ++ (List.replicate 32 (.int .u8 0) ++ ([.nils]))) []) [],
 oy (.store 36) [.t 4, .t 23],
 ox 5 .mv [.c (.bool false)]])
 .ret)
 .skip))
 (.seq
 (.ops [0, 4, 6, 7] [
 ox 25 .mv [.t 0],
 ox 26 .nilCheck [.t 25],
 ox 27 (.fieldAddr 0) [.t 26],
 ox 28 (.load false 1) [.t 27],
 ox 29 .mv [.t 6],
 ox 30 (.call 17) [.t 28, .t 29],
 ox 24 .mv [.t 30],
 ox 31 (.extract 0) [.t 24],
 ox 32 (.extract 1) [.t 24],
 ox 7 .mv [.t 31],
 ox 8 .mv [.t 32]])
 (.seq
 (.ops [0, 4, 6, 7, 9] [
 ox 33 .mv [.t 7],
 ox 34 (.call 44) [.t 33],
 ox 9 .mv [.t 34]])
 (.seq
 (.ops [0, 4, 6, 7, 9, 10, 11] [
 ox 36 .mv [.t 0],
 ox 37 .nilCheck [.t 36],
 ox 38 (.fieldAddr 1) [.t 37],
 ox 39 (.load false 1) [.t 38],
 ox 40 .mv [.t 9],
 ox 41 .mv [.t 6],
 ox 42 .mv [.t 7],
 ox 43 (.call 45) [.t 39, .t 40, .t 41, .t 42],
 ox 35 .mv [.t 43],
 ox 44 (.extract 0) [.t 35],
 ox 45 (.extract 1) [.t 35],
 ox 10 (.alloc [.int .i64 0, .int .i64 0, .int .i64 0, .int .i64 0, .nils]) [],
 oy (.store 5) [.t 10, .t 44],
 ox 11 .mv [.t 45]])
 (.seq
 (.ops [4, 9, 10, 11, 12, 13] [
 ox 46 .mv [.t 9],
 ox 47 .mv [.t 6],
 ox 48 .mv [.t 0],
 ox 49 .nilCheck [.t 48],
 ox 50 (.fieldAddr 1) [.t 49],
 ox 51 (.load false 1) [.t 50],
 ox 52 .mv [.t 7],
 ox 53 (.invoke "Sum") [.t 51, .t 52],
 ox 54 (.build ([.int .i64 0] ++ (List.replicate 32 (.int .u8 0))) [(0, 1), (1, 32)]) [.t 47, .t 53],
 ox 55 (.build ([.int .i64 0, .int .i64 0, .int .i64 0] ++ (List.replicate 32 (.int .u8 0) ++ ([.nils]))) [(0, 1), (2, 33)]) [.t 46, .t 54],
 ox 12 (.alloc ([.int .i64 0, .int .i64 0, .int .i64 0] ++ (List.replicate 32 (.int .u8 0) ++ ([.nils])))) [],
 oy (.store 36) [.t 12, .t 55],
 ox 13 .mv [.c (.bool false)]])
 (.seq
 (.seq
 (.ops [4, 10, 11, 12, 13, 56] [
 ox 56 .mv [.t 9]])
 (.block 0
 (.seq
 (.ops [4, 10, 11, 12, 13, 56, 57] [
 ox 58 (.eq false .int) [.t 56, .c (.int .i64 4)],
 ox 57 .mv [.t 58]])
 (.cond (.t 57)
 (.ops [4, 11, 12, 13] [
 ox 60 (.fieldAddr 4) [.t 10],
 ox 61 (.load false 1) [.t 60],
 ox 62 (.call 46) [.t 61],
 ox 59 .mv [.t 62],
 ox 63 (.extract 0) [.t 59],
 ox 64 (.extract 1) [.t 59],
 ox 65 (.extract 2) [.t 59],
 ox 66 (.fieldAddr 1) [.t 12],
 oy (.store 1) [.t 66, .t 63],
 ox 67 (.fieldAddr 35) [.t 12],
 oy (.store 1) [.t 67, .t 64],
 ox 13 .mv [.t 65]])
 (.seq
 (.ops [4, 10, 11, 12, 13, 68] [
 ox 69 (.eq false .int) [.t 56, .c (.int .i64 5)],
 ox 68 .mv [.t 69]])
 (.cond (.t 68)
 (.seq
 (.ops [4, 10, 11, 12] [
 ox 14 .mv [.c (.int .i64 0)]])
 (.seq
 (.ops [4, 11, 12, 14] [
 ox 71 (.fieldAddr 4) [.t 10],
 ox 72 (.load false 1) [.t 71],
 ox 73 (.call 47) [.t 72],
 ox 70 .mv [.t 73],
 ox 74 (.extract 0) [.t 70],
 ox 75 (.extract 1) [.t 70],
 ox 76 (.extract 2) [.t 70],
 ox 77 (.fieldAddr 1) [.t 12],
 oy (.store 1) [.t 77, .t 74],
 ox 14 .mv [.t 76]])
 (.ops [4, 11, 12, 13] [
 ox 78 .mv [.t 14],
 ox 79 (.eq false .int) [.t 78, .c (.int .i64 0)],
 ox 13 .mv [.t 79]])))
 .skip))))))
 (.seq
 (.seq
 (.ops [4, 12, 85] [
 ox 80 .mv [.t 11],
 ox 81 (.eq true .int) [.t 80, .c (.int .i64 0)],
 ox 82 .mv [.t 81],
 og 83 .mv [.t 13] 82 false,
 og 84 .not [.t 83] 82 false,
 ox 85 .pick [.t 82, .c (.bool true), .t 84]])
 (.cond (.t 85)
 (.seq
 (.ops [4, 5] [
 ox 86 (.build ([.int .i64 0, .int .i64 0, .int .i64 0] ++ (List.replicate 32 (.int .u8 0) ++ ([.nils]))) []) [],
 oy (.store 36) [.t 4, .t 86],
 ox 5 .mv [.c (.bool false)]])
 .ret)
 .skip))
 (.seq
 (.ops [4, 5] [
 ox 87 (.load true 36) [.t 12],
 oy (.store 36) [.t 4, .t 87],
 ox 5 .mv [.c (.bool true)]])
 .ret))))))))))
def r14 : List ARes := [.cell 4 true 36, .tmp 5]
theorem ok14 : FnOk Tryz.prog 14 c14 r14 :=
 ⟨Tryz.f14, _, Tryz.func14, by kernel_rfl, rfl, by kernel_rfl, by kernel_rfl⟩
def c15 : ACode :=
 (.seq
 (.ops [0, 3] [
 ox 3 .box [.t 1],
 ox 4 .mv [.c (.bool false)]])
 (.seq
 (.ops [0, 3, 5] [
 ox 5 (.alloc ([.int .i64 0] ++ (List.replicate 32 (.int .u8 0)))) []])
 (.seq
 (.ops [0, 3, 5, 6] [
 ox 6 .mv [.c (.bool false)]])
 (.seq
 (.seq
 (.ops [0, 3, 5, 6, 8] [
 ox 7 (.fieldAddr 0) [.t 3],
 ox 8 (.load false 1) [.t 7]])
 (.block 0
 (.seq
 (.ops [0, 3, 5, 6, 8, 9] [
 ox 10 (.eq false .int) [.t 8, .c (.int .i64 4)],
 ox 9 .mv [.t 10]])
 (.cond (.t 9)
 (.drawn [3, 5, 6] [
 ox 12 .mv [.t 0],
 ox 13 .nilCheck [.t 12],
 ox 14 (.fieldAddr 5) [.t 13],
 ox 15 (.load false 1) [.t 14],
 ox 16 (.fieldAddr 1) [.t 3],
 ox 17 (.load false 1) [.t 16],
 od 18 (.call 11) [.t 15, .t 17] 0 1,
 od 11 .mv [.t 18] 1 1,
 od 19 (.extract 0) [.t 11] 1 1,
 od 20 (.extract 1) [.t 11] 1 2,
 oe (.store 33) [.t 5, .t 19] 1 2,
 od 6 .mv [.t 20] 2 2])
 (.seq
 (.ops [0, 3, 5, 6, 21] [
 ox 22 (.eq false .int) [.t 8, .c (.int .i64 5)],
 ox 21 .mv [.t 22]])
 (.cond (.t 21)
 (.drawn [3, 5, 6] [
 ox 24 .mv [.t 0],
 ox 25 .nilCheck [.t 24],
 ox 26 (.fieldAddr 5) [.t 25],
 ox 27 (.load false 1) [.t 26],
 ox 28 (.fieldAddr 1) [.t 3],
 ox 29 (.load false 1) [.t 28],
 od 30 (.call 21) [.t 27, .t 29] 0 1,
 od 23 .mv [.t 30] 1 1,
 od 31 (.extract 0) [.t 23] 1 1,
 od 32 (.extract 1) [.t 23] 1 2,
 oe (.store 33) [.t 5, .t 31] 1 2,
 od 6 .mv [.t 32] 2 2])
 .skip))))))
 (.seq
 (.ops [4] [
 ox 33 .mv [.t 6],
 ox 34 .mv [.t 33],
 og 35 (.load true 33) [.t 5] 34 true,
 og 36 (.fieldAddr 2) [.t 3] 34 true,
 og 37 (.load true 33) [.t 36] 34 true,
 og 38 (.eqAgg false (List.replicate 33 .i)) [.t 35, .t 37] 34 true,
 ox 39 .pick [.t 34, .t 38, .c (.bool false)],
 ox 40 .mv [.t 39],
 og 41 (.load true 33) [.t 5] 40 true,
 og 42 (.build ([.int .i64 0] ++ (List.replicate 32 (.int .u8 0))) []) [] 40 true,
 og 43 (.eqAgg true (List.replicate 33 .i)) [.t 41, .t 42] 40 true,
 ox 44 .pick [.t 40, .t 43, .c (.bool false)],
 ox 4 .mv [.t 44]])
 .ret)))))
def r15 : List ARes := [.tmp 4]
theorem ok15 : FnOk Tryz.prog 15 c15 r15 :=
 ⟨Tryz.f15, _, Tryz.func15, by kernel_rfl, rfl, by kernel_rfl, by kernel_rfl⟩
def c16 : ACode :=
 (.seq
 (.ops [0, 1] [
 ox 4 .mv [.c (.bool false)]])
 (.seq
 (.seq
 (.ops [0, 1, 10] [
 ox 6 .mv [.t 0],
 ox 7 .len [.t 6],
 ox 8 .mv [.t 1],
 ox 9 .len [.t 8],
 ox 10 (.eq true .int) [.t 7, .t 9]])
 (.cond (.t 10)
 (.seq
 (.ops [4] [
 ox 4 .mv [.c (.bool false)]])
 .ret)
 .skip))
 (.seq
 (.seq
 (.ops [0, 1, 5] [
 ox 5 .mv [.c (.int .i64 0)]])
 (.block 0
 (.loop [0, 1, 5]
 (.seq
 (.seq
 (.ops [0, 1, 5, 14] [
 ox 11 .mv [.t 5],
 ox 12 .mv [.t 0],
 ox 13 .len [.t 12],
 ox 14 (.cmp .lss) [.t 11, .t 13]])
 (.cond (.t 14)
 .skip
 (.exit 0)))
 (.seq
 (.block 1
 (.seq
 (.drawn [0, 1, 5, 25] [
 ox 17 .mv [.t 0],
 ox 18 .mv [.t 5],
 ox 19 (.idxAddr 1) [.t 17, .t 18],
 ox 20 (.load false 1) [.t 19],
 ox 21 .mv [.t 1],
 ox 22 .mv [.t 5],
 ox 23 (.idxAddr 1) [.t 21, .t 22],
 ox 24 (.load false 1) [.t 23],
 ox 25 (.eq true .int) [.t 20, .t 24]])
 (.cond (.t 25)
 (.seq
 (.ops [4] [
 ox 4 .mv [.c (.bool false)]])
 .ret)
 .skip)))
 (.ops [0, 1, 5] [
 ox 15 .mv [.t 5],
 ox 16 (.arith .add) [.t 15, .c (.int .i64 1)],
 ox 5 .mv [.t 16]]))))))
 (.seq
 (.ops [4] [
 ox 4 .mv [.c (.bool true)]])
 .ret))))
def r16 : List ARes := [.tmp 4]
theorem ok16 : FnOk Tryz.prog 16 c16 r16 :=
 ⟨Tryz.f16, _, Tryz.func16, by kernel_rfl, rfl, by kernel_rfl, by kernel_rfl⟩
def c17 : ACode :=
 (.seq
 (.ops [0, 1] [
 ox 4 .mv [.c .nils],
 ox 5 .mv [.c (.int .i64 0)]])
 (.seq
 (.seq
 (.ops [0, 1, 11] [
 ox 8 .mv [.t 0],
 ox 9 .mv [.t 1],
 ox 10 (.call 48) [.t 8, .t 9],
 ox 11 .not [.t 10]])
 (.cond (.t 11)
 (.seq
 (.ops [4, 5] [
 ox 4 .mv [.c .nils],
 ox 5 .mv [.c (.int .i64 7)]])
 .ret)
 .skip))
 (.seq
 (.ops [0, 1] [
 ox 12 .mv [.t 0],
 ox 13 .nilCheck [.t 12],
 ox 14 (.fieldAddr 6) [.t 13],
 ox 15 (.load false 1) [.t 14],
 ox 16 .mv [.t 1],
 ox 17 (.idxAddr 1) [.t 15, .t 16],
 ox 18 (.load false 1) [.t 17],
 ox 19 (.arith .add) [.t 18, .c (.int .i64 1)],
 ox 20 (.idxAddr 1) [.t 15, .t 16],
 oy (.store 1) [.t 20, .t 19]])
 (.seq
 (.seq
 (.ops [0, 1, 6, 7] [
 ox 22 .mv [.t 0],
 ox 23 .nilCheck [.t 22],
 ox 24 (.fieldAddr 1) [.t 23],
 ox 25 (.load false 1) [.t 24],
 ox 26 .mv [.t 1],
 ox 27 (.lookup (.one .i) .nils true) [.t 25, .t 26],
 ox 21 .mv [.t 27],
 ox 28 (.extract 0) [.t 21],
 ox 29 (.extract 1) [.t 21],
 ox 6 .mv [.t 28],
 ox 7 .mv [.t 29]])
 (.seq
 (.ops [0, 1, 6, 30] [
 ox 30 .mv [.t 7]])
 (.cond (.t 30)
 (.seq
 (.ops [4, 5] [
 ox 31 .mv [.t 6],
 ox 32 (.call 49) [.t 31],
 ox 4 .mv [.t 32],
 ox 5 .mv [.c (.int .i64 0)]])
 .ret)
 .skip)))
 (.seq
 (.ops [4, 5] [
 ox 33 .mv [.t 0],
 ox 34 .nilCheck [.t 33],
 ox 35 (.fieldAddr 0) [.t 34],
 ox 36 (.load false 1) [.t 35],
 ox 37 .mv [.t 1],
 ox 38 (.idxAddr 1) [.t 36, .t 37],
 ox 39 (.load false 1) [.t 38],
 ox 40 (.call 49) [.t 39],
 ox 4 .mv [.t 40],
 ox 5 .mv [.c (.int .i64 0)]])
 .ret)))))
def r17 : List ARes := [.tmp 4, .tmp 5]
theorem ok17 : FnOk Tryz.prog 17 c17 r17 :=
 ⟨Tryz.f17, _, Tryz.func17, by kernel_rfl, rfl, by kernel_rfl, by kernel_rfl⟩
def c18 : ACode :=
 (.seq
 (.ops [0, 1, 2] [
 ox 6 .mv [.c (.int .i64 0)]])
 (.seq
 (.seq
 (.ops [0, 1, 2, 7] [
 ox 8 .mv [.t 0],
 ox 9 .mv [.t 1],
 ox 10 .mv [.t 2],
 ox 11 (.call 50) [.t 8, .t 9, .t 10],
 ox 7 .mv [.t 11]])
 (.seq
 (.ops [0, 1, 2, 7, 13] [
 ox 12 .mv [.t 7],
 ox 13 (.eq true .int) [.t 12, .c (.int .i64 0)]])
 (.cond (.t 13)
 (.seq
 (.ops [6] [
 ox 14 .mv [.t 7],
 ox 6 .mv [.t 14]])
 .ret)
 .skip)))
 (.seq
 (.drawn [0, 1] [
 od 15 .mv [.t 0] 0 1,
 od 16 .nilCheck [.t 15] 0 1,
 od 17 (.fieldAddr 0) [.t 16] 0 1,
 od 18 (.load false 1) [.t 17] 0 1,
 od 19 .mv [.t 1] 0 1,
 ox 20 .mv [.t 2],
 od 21 (.call 49) [.t 20] 0 1,
 od 22 (.idxAddr 1) [.t 18, .t 19] 1 1,
 oe (.store 1) [.t 22, .t 21] 1 2])
 (.seq
 (.ops [] [
 ox 23 .mv [.t 0],
 ox 24 .nilCheck [.t 23],
 ox 25 (.fieldAddr 1) [.t 24],
 ox 26 (.load false 1) [.t 25],
 ox 27 .mv [.t 1],
 oy (.mapDel (.one .i)) [.t 26, .t 27]])
 (.seq
 (.ops [6] [
 ox 6 .mv [.c (.int .i64 0)]])
 .ret)))))
def r18 : List ARes := [.tmp 6]
theorem ok18 : FnOk Tryz.prog 18 c18 r18 :=
 ⟨Tryz.f18, _, Tryz.func18, by kernel_rfl, rfl, by kernel_rfl, by kernel_rfl⟩
def c19 : ACode :=
 (.seq
 (.ops [2, 3] [
 ox 2 .box [.t 0],
 ox 3 .box [.t 1],
 ox 4 .mv [.c (.bool false)]])
 (.seq
 (.ops [4] [
 ox 5 (.fieldAddr 0) [.t 2],
 ox 6 (.load false 1) [.t 5],
 ox 7 (.fieldAddr 0) [.t 3],
 ox 8 (.load false 1) [.t 7],
 ox 9 (.eq false .int) [.t 6, .t 8],
 ox 10 .mv [.t 9],
 og 11 (.fieldAddr 1) [.t 2] 10 true,
 og 12 (.load false 1) [.t 11] 10 true,
 og 13 (.fieldAddr 1) [.t 3] 10 true,
 og 14 (.load false 1) [.t 13] 10 true,
 og 15 (.eq false .int) [.t 12, .t 14] 10 true,
 ox 16 .pick [.t 10, .t 15, .c (.bool false)],
 ox 17 .mv [.t 16],
 og 18 (.fieldAddr 2) [.t 2] 17 true,
 og 19 (.load true 33) [.t 18] 17 true,
 og 20 (.fieldAddr 2) [.t 3] 17 true,
 og 21 (.load true 33) [.t 20] 17 true,
 og 22 (.eqAgg false (List.replicate 33 .i)) [.t 19, .t 21] 17 true,
 ox 23 .pick [.t 17, .t 22, .c (.bool false)],
 ox 24 .mv [.t 23],
 og 25 (.fieldAddr 35) [.t 2] 24 true,
 og 26 (.load false 1) [.t 25] 24 true,
 og 27 (.fieldAddr 35) [.t 3] 24 true,
 og 28 (.load false 1) [.t 27] 24 true,
 og 29 (.call 16) [.t 26, .t 28] 24 true,
 ox 30 .pick [.t 24, .t 29, .c (.bool false)],
 ox 4 .mv [.t 30]])
 .ret))
def r19 : List ARes := [.tmp 4]
theorem ok19 : FnOk Tryz.prog 19 c19 r19 :=
 ⟨Tryz.f19, _, Tryz.func19, by kernel_rfl, rfl, by kernel_rfl, by kernel_rfl⟩
def c20 : ACode :=
 (.seq
 (.ops [0, 1] [
 ox 4 .mv [.c (.int .i64 0)]])
 (.seq
 (.block 0
 (.seq
 (.ops [0, 1, 5] [
 ox 6 .mv [.t 1],
 ox 7 (.cmp .lss) [.t 6, .c (.int .i64 0)],
 ox 8 .mv [.t 7],
 og 9 .mv [.t 1] 8 false,
 og 10 (.cmp .gtr) [.t 9, .c (.int .i64 1099511627776)] 8 false,
 ox 11 .pick [.t 8, .c (.bool true), .t 10],
 ox 5 .mv [.t 11]])
 (.cond (.t 5)
 (.seq
 (.ops [4] [
 ox 4 .mv [.c (.int .i64 1)]])
 .ret)
 (.seq
 (.ops [0, 1, 12] [
 ox 13 .mv [.t 0],
 ox 14 (.call 51) [.t 13],
 ox 15 .mv [.t 14],
 og 16 .mv [.t 0] 15 true,
 og 17 (.call 52) [.t 16, .c (.int .i64 0)] 15 true,
 ox 18 .pick [.t 15, .t 17, .c (.bool false)],
 ox 12 .mv [.t 18]])
 (.cond (.t 12)
 (.seq
 (.ops [4] [
 ox 4 .mv [.c (.int .i64 11)]])
 .ret)
 .skip)))))
 (.seq
 (.ops [4] [
 ox 19 .mv [.t 0],
 ox 20 .mv [.t 1],
 ox 21 (.call 53) [.t 19, .t 20],
 ox 4 .mv [.t 21]])
 .ret)))
def r20 : List ARes := [.tmp 4]
theorem ok20 : FnOk Tryz.prog 20 c20 r20 :=
 ⟨Tryz.f20, _, Tryz.func20, by kernel_rfl, rfl, by kernel_rfl, by kernel_rfl⟩
def c21 : ACode :=
 (.seq
 (.ops [0, 1, 4] [
 ox 4 (.alloc ([.int .i64 0] ++ (List.replicate 32 (.int .u8 0)))) [],
 ox 5 .mv [.c (.bool false)]])
 (.seq
 (.seq
 (.ops [0, 1, 4, 18] [
 ox 6 .mv [.t 1],
 ox 7 (.call 54) [.t 6, .c (.int .i64 0), .c (.int .i64 8)],
 ox 8 .not [.t 7],
 ox 9 .mv [.t 8],
 og 10 .mv [.t 0] 9 false,
 og 11 .mv [.t 1] 9 false,
 og 12 .nilCheck [.t 10] 9 false,
 og 13 (.fieldAddr 2112) [.t 12] 9 false,
 og 14 (.idxAddrArr 9 34) [.t 13, .t 11] 9 false,
 og 15 (.fieldAddr 0) [.t 14] 9 false,
 og 16 (.load false 1) [.t 15] 9 false,
 og 17 (.eq true .int) [.t 16, .c (.int .i64 1)] 9 false,
 ox 18 .pick [.t 9, .c (.bool true), .t 17]])
 (.cond (.t 18)
 (.seq
 (.ops [4, 5] [
 ox 19 (.build ([.int .i64 0] ++ (List.replicate 32 (.int .u8 0))) []) [],
 oy (.store 33) [.t 4, .t 19],
 ox 5 .mv [.c (.bool false)]])
 .ret)
 .skip))
 (.seq
 (.ops [4, 5] [
 ox 20 .mv [.t 0],
 ox 21 .mv [.t 1],
 ox 22 .nilCheck [.t 20],
 ox 23 (.fieldAddr 2112) [.t 22],
 ox 24 (.idxAddrArr 9 34) [.t 23, .t 21],
 ox 25 (.fieldAddr 1) [.t 24],
 ox 26 (.load true 33) [.t 25],
 oy (.store 33) [.t 4, .t 26],
 ox 5 .mv [.c (.bool true)]])
 .ret)))
def r21 : List ARes := [.cell 4 true 33, .tmp 5]
theorem ok21 : FnOk Tryz.prog 21 c21 r21 :=
 ⟨Tryz.f21, _, Tryz.func21, by kernel_rfl, rfl, by kernel_rfl, by kernel_rfl⟩
def c24 : ACode :=
 (.seq
 (.ops [0] [
 ox 2 .mv [.c .nils]])
 (.seq
 (.ops [0, 3] [
 ox 8 .mv [.t 0],
 ox 9 .nilCheck [.t 8],
 ox 10 (.fieldAddr 2) [.t 9],
 ox 11 (.fieldAddr 0) [.t 10],
 ox 12 (.load false 1) [.t 11],
 ox 13 (.mkSlice [.int .i64 0] 8) [.t 12, .t 12],
 ox 3 .mv [.t 13]])
 (.seq
 (.seq
 (.ops [0, 3, 18, 19, 20] [
 ox 14 .mv [.t 0],
 ox 15 .nilCheck [.t 14],
 ox 16 (.fieldAddr 5) [.t 15],
 ox 17 (.load false 1) [.t 16],
 ox 18 (.call 58) [.t 17],
 ox 19 .len [.t 18],
 ox 20 .mv [.c (.int .i64 0)]])
 (.block 0
 (.loop [0, 3, 18, 19, 20]
 (.seq
 (.ops [0, 3, 18, 19, 20, 21] [
 ox 21 (.cmp .lss) [.t 20, .t 19]])
 (.seq
 (.cond (.t 21)
 .skip
 (.exit 0))
 (.seq
 (.block 1
 (.seq
 (.ops [0, 3, 5, 18, 19, 20] [
 ox 22 (.idxAddr 33) [.t 18, .t 20],
 ox 23 (.load true 33) [.t 22],
 ox 5 (.alloc ([.int .i64 0] ++ (List.replicate 32 (.int .u8 0)))) [],
 oy (.store 33) [.t 5, .t 23]])
 (.seq
 (.drawn [0, 3, 6, 7, 18, 19, 20] [
 ox 25 .mv [.t 0],
 ox 26 .nilCheck [.t 25],
 ox 27 (.fieldAddr 2) [.t 26],
 ox 28 (.load true 3) [.t 27],
 ox 29 (.fieldAddr 0) [.t 5],
 ox 30 (.load false 1) [.t 29],
 od 31 (.call 13) [.t 28, .t 30] 0 1,
 od 24 .mv [.t 31] 1 1,
 od 32 (.extract 0) [.t 24] 1 1,
 od 33 (.extract 1) [.t 24] 1 2,
 od 6 (.alloc [.int .i64 0, .int .i64 0]) [] 0 1,
 oe (.store 2) [.t 6, .t 32] 1 2,
 od 7 .mv [.t 33] 2 2])
 (.seq
 (.ops [0, 3, 6, 18, 19, 20, 34] [
 ox 34 .mv [.t 7]])
 (.cond (.t 34)
 (.ops [0, 3, 18, 19, 20] [
 ox 35 .mv [.t 3],
 ox 36 (.fieldAddr 0) [.t 6],
 ox 37 (.load false 1) [.t 36],
 ox 38 (.idxAddr 1) [.t 35, .t 37],
 ox 39 (.load false 1) [.t 38],
 ox 40 (.arith .add) [.t 39, .c (.int .i64 1)],
 ox 41 (.idxAddr 1) [.t 35, .t 37],
 oy (.store 1) [.t 41, .t 40]])
 .skip)))))
 (.ops [0, 3, 18, 19, 20] [
 ox 42 (.arith .add) [.t 20, .c (.int .i64 1)],
 ox 20 .mv [.t 42]])))))))
 (.seq
 (.ops [2] [
 ox 43 .mv [.t 3],
 ox 2 .mv [.t 43]])
 .ret))))
def r24 : List ARes := [.tmp 2]
theorem ok24 : FnOk Tryz.prog 24 c24 r24 :=
 ⟨Tryz.f24, _, Tryz.func24, by kernel_rfl, rfl, by kernel_rfl, by kernel_rfl⟩
def c26 : ACode :=
 (.seq
 (.ops [0] [
 ox 0 (.alloc [.int .i64 0, .int .i64 0, .int .i64 0]) []])
 (.seq
 (.ops [0] [
 ox 1 (.build [.int .i64 0, .int .i64 0, .int .i64 0] [(0, 1), (1, 1), (2, 1)]) [.c (.int .i64 18), .c (.int .i64 32), .c (.int .i64 4)],
 oy (.store 3) [.t 0, .t 1]])
 .ret))
def r26 : List ARes := [.cell 0 true 3]
theorem ok26 : FnOk Tryz.prog 26 c26 r26 :=
 ⟨Tryz.f26, _, Tryz.func26, by kernel_rfl, rfl, by kernel_rfl, by kernel_rfl⟩
def c27 : ACode :=
 (.seq
 (.ops [0] [
 ox 2 .mv [.c .nilp],
 ox 3 .mv [.c (.int .i64 0)]])
 (.seq
 (.seq
 (.ops [0, 9] [
 ox 4 .mv [.t 0],
 ox 5 (.cmp .lss) [.t 4, .c (.int .i64 1)],
 ox 6 .mv [.t 5],
 og 7 .mv [.t 0] 6 false,
 og 8 (.cmp .gtr) [.t 7, .c (.int .i64 4096)] 6 false,
 ox 9 .pick [.t 6, .c (.bool true), .t 8]])
 (.cond (.t 9)
 (.seq
 (.ops [2, 3] [
 ox 2 .mv [.c .nilp],
 ox 3 .mv [.c (.int .i64 7)]])
 .ret)
 .skip))
 (.seq
 (.drawn [2, 3] [
 ox 10 .mv [.t 0],
 ox 11 (.mkSlice [.nils] 24) [.t 10, .t 10],
 ox 12 .mkMap [],
 ox 13 .mv [.t 0],
 ox 14 (.mkSlice [.int .i64 0] 8) [.t 13, .t 13],
 ox 15 (.build [.nils, .mapn, .bool false, .int .i64 0, .bool false, .int .i64 0, .nils] [(0, 1), (1, 1), (6, 1)]) [.t 11, .t 12, .t 14],
 ox 16 .box [.t 15],
 ox 2 .mv [.t 16],
 ox 3 .mv [.c (.int .i64 0)]])
 .ret)))
def r27 : List ARes := [.tmp 2, .tmp 3]
theorem ok27 : FnOk Tryz.prog 27 c27 r27 :=
 ⟨Tryz.f27, _, Tryz.func27, by kernel_rfl, rfl, by kernel_rfl, by kernel_rfl⟩
def c28 : ACode :=
 (.seq
 (.ops [1] [
 ox 1 .box [.t 0],
 ox 2 .mv [.c (.int .i64 0)]])
 (.seq
 (.seq
 (.ops [1, 5] [
 ox 3 (.load true 3) [.t 1],
 ox 4 (.call 60) [.t 3],
 ox 5 .not [.t 4]])
 (.cond (.t 5)
 (.seq
 (.ops [2] [
 ox 2 .mv [.c (.int .i64 0)]])
 .ret)
 .skip))
 (.seq
 (.ops [2] [
 ox 6 (.fieldAddr 0) [.t 1],
 ox 7 (.load false 1) [.t 6],
 ox 8 (.fieldAddr 1) [.t 1],
 ox 9 (.load false 1) [.t 8],
 ox 10 (.arith .mul) [.t 7, .t 9],
 ox 11 (.arith .add) [.c (.int .i64 3), .t 10],
 ox 2 .mv [.t 11]])
 .ret)))
def r28 : List ARes := [.tmp 2]
theorem ok28 : FnOk Tryz.prog 28 c28 r28 :=
 ⟨Tryz.f28, _, Tryz.func28, by kernel_rfl, rfl, by kernel_rfl, by kernel_rfl⟩
def c29 : ACode :=
 (.seq
 (.ops [] [
 ox 0 .mv [.c .nilp]])
 (.seq
 (.ops [0] [
 ox 1 .mkMap [],
 ox 2 .mkMap [],
 ox 3 (.build [.mapn, .nils, .mapn] [(0, 1), (2, 1)]) [.t 1, .t 2],
 ox 4 .box [.t 3],
 ox 0 .mv [.t 4]])
 .ret))
def r29 : List ARes := [.tmp 0]
theorem ok29 : FnOk Tryz.prog 29 c29 r29 :=
 ⟨Tryz.f29, _, Tryz.func29, by kernel_rfl, rfl, by kernel_rfl, by kernel_rfl⟩
def c30 : ACode :=
 (.seq
 (.ops [0] [
 ox 2 .mv [.c .nilp]])
 (.seq
 (.ops [2] [
 ox 3 .mv [.t 0],
 ox 4 (.call 61) [.t 3, .c (.int .i64 32)],
 ox 5 (.mkSlice [.int .i64 0, .int .i64 0, .int .i64 0] 24) [.t 4, .t 4],
 ox 6 (.build [.nils] [(0, 1)]) [.t 5],
 ox 7 .box [.t 6],
 ox 2 .mv [.t 7]])
 .ret))
def r30 : List ARes := [.tmp 2]
theorem ok30 : FnOk Tryz.prog 30 c30 r30 :=
 ⟨Tryz.f30, _, Tryz.func30, by kernel_rfl, rfl, by kernel_rfl, by kernel_rfl⟩
def c31 : ACode :=
 (.seq
 (.ops [0, 1] [
 ox 4 .mv [.c (.int .i64 0)],
 ox 5 .mv [.c (.bool false)]])
 (.seq
 (.ops [0, 1, 6] [
 ox 8 .mv [.t 0],
 ox 9 (.call 62) [.t 8, .c (.int .i64 0)],
 ox 6 .mv [.t 9]])
 (.seq
 (.seq
 (.ops [0, 1, 6, 11] [
 ox 10 .mv [.t 6],
 ox 11 (.cmp .lss) [.t 10, .c (.int .i64 0)]])
 (.cond (.t 11)
 (.seq
 (.ops [4, 5] [
 ox 4 .mv [.c (.int .i64 0)],
 ox 5 .mv [.c (.bool false)]])
 .ret)
 .skip))
 (.seq
 (.seq
 (.ops [0, 1, 6, 7] [
 ox 12 .mv [.t 0],
 ox 13 (.call 63) [.t 12],
 ox 7 .mv [.t 13]])
 (.seq
 (.ops [0, 1, 6, 7, 15] [
 ox 14 .mv [.t 7],
 ox 15 (.cmp .geq) [.t 14, .c (.int .i64 0)]])
 (.cond (.t 15)
 (.ops [0, 1, 6] [
 ox 16 .mv [.t 0],
 ox 17 .nilCheck [.t 16],
 ox 18 (.fieldAddr 0) [.t 17],
 ox 19 (.load false 1) [.t 18],
 ox 20 .mv [.t 7],
 ox 21 (.idxAddr 3) [.t 19, .t 20],
 ox 22 (.fieldAddr 0) [.t 21],
 oy (.store 1) [.t 22, .c (.int .i64 2)]])
 .skip)))
 (.seq
 (.drawn [6] [
 od 23 .mv [.t 0] 0 1,
 od 24 .nilCheck [.t 23] 0 1,
 od 25 (.fieldAddr 0) [.t 24] 0 1,
 od 26 (.load false 1) [.t 25] 0 1,
 od 27 .mv [.t 6] 0 1,
 ox 28 .mv [.t 1],
 od 29 (.call 61) [.t 28, .c (.int .i64 1099511627776)] 0 1,
 od 30 (.build [.int .i64 0, .int .i64 0, .int .i64 0] [(0, 1), (2, 1)]) [.c (.int .i64 1), .t 29] 1 1,
 od 31 (.idxAddr 3) [.t 26, .t 27] 1 1,
 oe (.store 3) [.t 31, .t 30] 1 2])
 (.seq
 (.ops [4, 5] [
 ox 32 .mv [.t 6],
 ox 4 .mv [.t 32],
 ox 5 .mv [.c (.bool true)]])
 .ret))))))
def r31 : List ARes := [.tmp 4, .tmp 5]
theorem ok31 : FnOk Tryz.prog 31 c31 r31 :=
 ⟨Tryz.f31, _, Tryz.func31, by kernel_rfl, rfl, by kernel_rfl, by kernel_rfl⟩
def c32 : ACode :=
 (.seq
 (.ops [] [
 ox 0 .mv [.c .nilp]])
 (.seq
 (.ops [1] [
 ox 2 (.build (rep 64 ([.int .i64 0] ++ (List.replicate 32 (.int .u8 0))) ++ (rep 9 ([.int .i64 0, .int .i64 0] ++ (List.replicate 32 (.int .u8 0))))) []) [],
 ox 3 .box [.t 2],
 ox 1 .mv [.t 3]])
 (.seq
 (.ops [1] [
 ox 4 .mv [.t 1],
 ox 5 .nilCheck [.t 4],
 ox 6 (.fieldAddr 2112) [.t 5],
 ox 7 (.idxAddrArr 9 34) [.t 6, .c (.int .i64 0)],
 ox 8 (.fieldAddr 0) [.t 7],
 oy (.store 1) [.t 8, .c (.int .i64 1)]])
 (.seq
 (.ops [0] [
 ox 9 .mv [.t 1],
 ox 0 .mv [.t 9]])
 .ret))))
def r32 : List ARes := [.tmp 0]
theorem ok32 : FnOk Tryz.prog 32 c32 r32 :=
 ⟨Tryz.f32, _, Tryz.func32, by kernel_rfl, rfl, by kernel_rfl, by kernel_rfl⟩
def c33 : ACode :=
 (.seq
 (.ops [0, 1, 3, 4, 9, 12, 13] [
 ox 9 .box [.t 2],
 ox 12 .box [.t 5],
 ox 13 .box [.t 6],
 ox 14 .mv [.c .nilp]])
 (.seq
 (.ops [14] [
 ox 15 .mv [.t 0],
 ox 16 .mv [.t 1],
 ox 17 (.load true 3) [.t 9],
 ox 18 .mv [.t 3],
 ox 19 .mv [.t 4],
 ox 20 (.load true 2) [.t 12],
 ox 21 (.load true 32) [.t 13],
 ox 22 (.build ([.nilp, .nili, .int .i64 0, .int .i64 0, .int .i64 0, .nilp, .int .i64 0, .int .i64 0, .int .i64 0] ++ (List.replicate 32 (.int .u8 0) ++ ([.nils, .int .i64 0]))) [(0, 1), (1, 1), (2, 3), (5, 1), (6, 1), (7, 2), (9, 32), (42, 1)]) [.t 15, .t 16, .t 17, .t 18, .t 19, .t 20, .t 21, .c (.int .i64 2)],
 ox 23 .box [.t 22],
 ox 14 .mv [.t 23]])
 .ret))
def r33 : List ARes := [.tmp 14]
theorem ok33 : FnOk Tryz.prog 33 c33 r33 :=
 ⟨Tryz.f33, _, Tryz.func33, by kernel_rfl, rfl, by kernel_rfl, by kernel_rfl⟩
def c34 : ACode :=
 (.seq
 (.ops [0] [
 ox 2 .mv [.c .nils]])
 (.seq
 (.ops [0, 3] [
 ox 3 .mv [.c .nils]])
 (.seq
 (.seq
 (.ops [0, 3, 4] [
 ox 4 .mv [.c (.int .i64 1)]])
 (.block 0
 (.loop [0, 3, 4]
 (.seq
 (.seq
 (.ops [0, 3, 4, 7] [
 ox 6 .mv [.t 4],
 ox 7 (.cmp .leq) [.t 6, .c (.int .i64 9)]])
 (.cond (.t 7)
 .skip
 (.exit 0)))
 (.seq
 (.block 1
 (.seq
 (.ops [0, 3, 4, 5] [
 ox 10 .mv [.t 4],
 ox 11 (.arith .rem) [.t 10, .c (.int .i64 9)],
 ox 5 .mv [.t 11]])
 (.seq
 (.ops [0, 3, 4, 5, 19] [
 ox 12 .mv [.t 0],
 ox 13 .mv [.t 5],
 ox 14 .nilCheck [.t 12],
 ox 15 (.fieldAddr 2112) [.t 14],
 ox 16 (.idxAddrArr 9 34) [.t 15, .t 13],
 ox 17 (.fieldAddr 0) [.t 16],
 ox 18 (.load false 1) [.t 17],
 ox 19 (.eq false .int) [.t 18, .c (.int .i64 2)]])
 (.cond (.t 19)
 (.ops [0, 3, 4] [
 ox 20 .mv [.t 3],
 ox 21 .mv [.t 5],
 ox 22 (.mkSl 1 [.int .i64 0] [(0, 1)]) [.t 21],
 ox 23 (.append 1 8) [.t 20, .t 22],
 ox 3 .mv [.t 23]])
 .skip))))
 (.ops [0, 3, 4] [
 ox 8 .mv [.t 4],
 ox 9 (.arith .add) [.t 8, .c (.int .i64 1)],
 ox 4 .mv [.t 9]]))))))
 (.seq
 (.ops [2] [
 ox 24 .mv [.t 3],
 ox 2 .mv [.t 24]])
 .ret))))
def r34 : List ARes := [.tmp 2]
theorem ok34 : FnOk Tryz.prog 34 c34 r34 :=
 ⟨Tryz.f34, _, Tryz.func34, by kernel_rfl, rfl, by kernel_rfl, by kernel_rfl⟩
def c35 : ACode :=
 (.seq
 (.ops [0, 1] [
 ox 4 .mv [.c (.int .i64 0)]])
 (.seq
 (.seq
 (.ops [0, 1, 17] [
 ox 8 .mv [.t 1],
 ox 9 (.eq false .int) [.t 8, .c (.int .i64 0)],
 ox 10 .mv [.t 9],
 og 11 .mv [.t 0] 10 true,
 og 12 .nilCheck [.t 11] 10 true,
 og 13 (.fieldAddr 5) [.t 12] 10 true,
 og 14 (.load false 1) [.t 13] 10 true,
 og 15 (.call 64) [.t 14] 10 true,
 og 16 (.eq false .int) [.t 15, .c (.int .i64 0)] 10 true,
 ox 17 .pick [.t 10, .t 16, .c (.bool false)]])
 (.cond (.t 17)
 (.seq
 (.ops [4] [
 ox 18 .mv [.t 0],
 ox 19 .nilCheck [.t 18],
 ox 20 (.fieldAddr 5) [.t 19],
 ox 21 (.load false 1) [.t 20],
 ox 22 (.build ([.int .i64 0] ++ (List.replicate 32 (.int .u8 0))) []) [],
 ox 23 (.call 65) [.t 21, .c (.int .i64 0), .t 22],
 ox 4 .mv [.t 23]])
 .ret)
 .skip))
 (.seq
 (.ops [0, 1, 5, 6] [
 ox 25 .mv [.t 1],
 ox 26 .mv [.t 0],
 ox 27 .nilCheck [.t 26],
 ox 28 (.fieldAddr 5) [.t 27],
 ox 29 (.load false 1) [.t 28],
 ox 30 .mv [.t 1],
 ox 31 (.call 67) [.t 29, .t 30],
 ox 32 (.call 66) [.t 25, .t 31],
 ox 24 .mv [.t 32],
 ox 33 (.extract 0) [.t 24],
 ox 34 (.extract 1) [.t 24],
 ox 5 .mv [.t 33],
 ox 6 .mv [.t 34]])
 (.seq
 (.seq
 (.ops [0, 1, 5, 6, 36] [
 ox 35 .mv [.t 6],
 ox 36 (.eq true .int) [.t 35, .c (.int .i64 0)]])
 (.cond (.t 36)
 (.seq
 (.ops [4] [
 ox 37 .mv [.t 6],
 ox 4 .mv [.t 37]])
 .ret)
 .skip))
 (.seq
 (.ops [0, 1, 6, 7] [
 ox 39 .mv [.t 0],
 ox 40 .nilCheck [.t 39],
 ox 41 (.fieldAddr 7) [.t 40],
 ox 42 (.load false 1) [.t 41],
 ox 43 .mv [.t 1],
 ox 44 .mv [.t 5],
 ox 45 (.call 36) [.t 42, .c (.int .i64 5), .t 43, .t 44],
 ox 38 .mv [.t 45],
 ox 46 (.extract 0) [.t 38],
 ox 47 (.extract 1) [.t 38],
 ox 7 (.alloc ([.int .i64 0] ++ (List.replicate 32 (.int .u8 0)))) [],
 oy (.store 33) [.t 7, .t 46],
 ox 6 .mv [.t 47]])
 (.seq
 (.seq
 (.ops [0, 1, 6, 7, 49] [
 ox 48 .mv [.t 6],
 ox 49 (.eq true .int) [.t 48, .c (.int .i64 0)]])
 (.cond (.t 49)
 (.seq
 (.ops [4] [
 ox 50 .mv [.t 6],
 ox 4 .mv [.t 50]])
 .ret)
 .skip))
 (.seq
 (.ops [0, 1, 7] [
 ox 51 .mv [.t 0],
 ox 52 (.load true 33) [.t 7],
 ox 53 (.mkSl 1 ([.int .i64 0] ++ (List.replicate 32 (.int .u8 0))) [(0, 33)]) [.t 52],
 ox 54 (.call 39) [.t 51, .c (.int .i64 1), .t 53]])
 (.seq
 (.drawn [4] [
 ox 55 .mv [.t 0],
 ox 56 .nilCheck [.t 55],
 ox 57 (.fieldAddr 5) [.t 56],
 ox 58 (.load false 1) [.t 57],
 ox 59 .mv [.t 1],
 ox 60 (.load true 33) [.t 7],
 od 61 (.call 65) [.t 58, .t 59, .t 60] 0 1,
 od 4 .mv [.t 61] 1 1])
 .ret))))))))
def r35 : List ARes := [.tmp 4]
theorem ok35 : FnOk Tryz.prog 35 c35 r35 :=
 ⟨Tryz.f35, _, Tryz.func35, by kernel_rfl, rfl, by kernel_rfl, by kernel_rfl⟩
def c36 : ACode :=
 (.seq
 (.ops [1, 3, 4, 6, 8] [
 ox 4 .box [.t 0],
 ox 6 .box [.t 2],
 ox 8 (.alloc ([.int .i64 0] ++ (List.replicate 32 (.int .u8 0)))) [],
 ox 9 .mv [.c (.int .i64 0)]])
 (.seq
 (.ops [1, 3, 4, 6, 8, 10] [
 ox 15 .mv [.t 1],
 ox 16 (.load false 1) [.t 6],
 ox 17 (.call 68) [.t 15, .t 16],
 ox 10 (.alloc [.int .i64 0]) [],
 oy (.store 1) [.t 10, .t 17]])
 (.seq
 (.block 0
 (.seq
 (.ops [1, 3, 4, 6, 8, 10, 18] [
 ox 19 (.load false 1) [.t 10],
 ox 20 (.eq false .int) [.t 19, .c (.int .i64 0)],
 ox 21 .mv [.t 20],
 og 22 .mv [.t 3] 21 false,
 og 23 .len [.t 22] 21 false,
 og 24 (.cmp .gtr) [.t 23, .c (.int .i64 975)] 21 false,
 ox 25 .pick [.t 21, .c (.bool true), .t 24],
 ox 18 .mv [.t 25]])
 (.cond (.t 18)
 (.seq
 (.ops [8, 9] [
 ox 26 (.build ([.int .i64 0] ++ (List.replicate 32 (.int .u8 0))) []) [],
 oy (.store 33) [.t 8, .t 26],
 ox 9 .mv [.c (.int .i64 1)]])
 .ret)
 (.seq
 (.ops [1, 3, 4, 6, 8, 10, 27] [
 ox 28 (.load false 1) [.t 4],
 ox 29 (.call 51) [.t 28],
 ox 30 .mv [.t 29],
 og 31 (.load false 1) [.t 4] 30 true,
 og 32 (.call 52) [.t 31, .c (.int .i64 0)] 30 true,
 og 33 .mv [.t 32] 30 true,
 og 34 (.load false 1) [.t 4] 33 false,
 og 35 (.call 52) [.t 34, .c (.int .i64 1)] 33 false,
 og 36 .mv [.t 35] 33 false,
 og 37 (.load false 1) [.t 4] 36 true,
 og 38 .nilCheck [.t 37] 36 true,
 og 39 (.fieldAddr 41) [.t 38] 36 true,
 og 40 (.load false 1) [.t 39] 36 true,
 og 41 .len [.t 40] 36 true,
 og 42 (.eq false .int) [.t 41, .c (.int .i64 15)] 36 true,
 og 43 .pick [.t 36, .t 42, .c (.bool false)] 33 false,
 og 44 .pick [.t 33, .c (.bool true), .t 43] 30 true,
 ox 45 .pick [.t 30, .t 44, .c (.bool false)],
 ox 27 .mv [.t 45]])
 (.cond (.t 27)
 (.seq
 (.ops [8, 9] [
 ox 46 (.build ([.int .i64 0] ++ (List.replicate 32 (.int .u8 0))) []) [],
 oy (.store 33) [.t 8, .t 46],
 ox 9 .mv [.c (.int .i64 11)]])
 .ret)
 .skip)))))
 (.seq
 (.seq
 (.ops [1, 3, 4, 6, 8, 10, 11] [
 ox 47 (.load false 1) [.t 4],
 ox 48 (.call 69) [.t 47],
 ox 11 .mv [.t 48]])
 (.seq
 (.ops [1, 3, 4, 6, 8, 10, 11, 50] [
 ox 49 .mv [.t 11],
 ox 50 (.eq true .int) [.t 49, .c (.int .i64 0)]])
 (.cond (.t 50)
 (.seq
 (.ops [8, 9] [
 ox 51 (.build ([.int .i64 0] ++ (List.replicate 32 (.int .u8 0))) []) [],
 ox 52 .mv [.t 11],
 oy (.store 33) [.t 8, .t 51],
 ox 9 .mv [.t 52]])
 .ret)
 .skip)))
 (.seq
 (.ops [1, 3, 4, 6, 8, 10, 12] [
 ox 53 (.load false 1) [.t 4],
 ox 54 .nilCheck [.t 53],
 ox 55 (.fieldAddr 7) [.t 54],
 ox 56 (.fieldAddr 1) [.t 55],
 ox 57 (.load false 1) [.t 56],
 ox 12 (.alloc [.int .i64 0]) [],
 oy (.store 1) [.t 12, .t 57]])
 (.seq
 (.ops [4, 6, 8, 10, 12, 13, 14] [
 ox 59 (.load false 1) [.t 4],
 ox 60 .mv [.t 1],
 ox 61 .mv [.t 3],
 ox 62 (.call 70) [.t 59, .t 60, .t 61],
 ox 58 .mv [.t 62],
 ox 63 (.extract 0) [.t 58],
 ox 64 (.extract 1) [.t 58],
 ox 13 (.alloc ([.int .i64 0] ++ (List.replicate 32 (.int .u8 0)))) [],
 oy (.store 33) [.t 13, .t 63],
 ox 14 .mv [.t 64]])
 (.seq
 (.ops [8, 13, 14] [
 ox 65 (.load true 33) [.t 13],
 ox 66 .mv [.t 14],
 ox 67 (.mkFn (.func 72) 0) [.t 4, .t 10, .t 6, .t 12],
 ox 68 (.call 71) [.t 65, .t 66, .t 67],
 ox 14 .mv [.t 68]])
 (.seq
 (.seq
 (.ops [8, 13, 14, 70] [
 ox 69 .mv [.t 14],
 ox 70 (.eq true .int) [.t 69, .c (.int .i64 0)]])
 (.cond (.t 70)
 (.seq
 (.ops [8, 9] [
 ox 71 (.build ([.int .i64 0] ++ (List.replicate 32 (.int .u8 0))) []) [],
 ox 72 .mv [.t 14],
 oy (.store 33) [.t 8, .t 71],
 ox 9 .mv [.t 72]])
 .ret)
 .skip))
 (.seq
 (.ops [8, 9] [
 ox 73 (.load true 33) [.t 13],
 oy (.store 33) [.t 8, .t 73],
 ox 9 .mv [.c (.int .i64 0)]])
 .ret)))))))))
def r36 : List ARes := [.cell 8 true 33, .tmp 9]
theorem ok36 : FnOk Tryz.prog 36 c36 r36 :=
 ⟨Tryz.f36, _, Tryz.func36, by kernel_rfl, rfl, by kernel_rfl, by kernel_rfl⟩
def c37 : ACode :=
 (.seq
 (.ops [0, 1] [
 ox 4 .mv [.c .nils]])
 (.seq
 (.ops [4] [
 ox 5 .mv [.t 0],
 ox 6 .mv [.t 1],
 ox 7 (.call 75) [.t 6],
 ox 8 (.call 74) [.t 5, .t 7],
 ox 4 .mv [.t 8]])
 .ret))
def r37 : List ARes := [.tmp 4]
theorem ok37 : FnOk Tryz.prog 37 c37 r37 :=
 ⟨Tryz.f37, _, Tryz.func37, by kernel_rfl, rfl, by kernel_rfl, by kernel_rfl⟩
def c38 : ACode :=
 (.seq
 (.ops [0, 1, 5] [
 ox 5 .box [.t 2],
 ox 6 .mv [.c .nils]])
 (.seq
 (.seq
 (.ops [0, 1, 5, 17] [
 ox 10 .mv [.t 1],
 ox 11 (.call 54) [.t 10, .c (.int .i64 0), .c (.int .i64 63)],
 ox 12 .not [.t 11],
 ox 13 .mv [.t 12],
 og 14 (.fieldAddr 0) [.t 5] 13 false,
 og 15 (.load false 1) [.t 14] 13 false,
 og 16 (.cmp .lss) [.t 15, .c (.int .i64 1)] 13 false,
 ox 17 .pick [.t 13, .c (.bool true), .t 16]])
 (.cond (.t 17)
 (.seq
 (.ops [6] [
 ox 6 .mv [.c .nils]])
 .ret)
 .skip))
 (.seq
 (.ops [0, 1, 5, 7] [
 ox 7 .mv [.c .nils]])
 (.seq
 (.seq
 (.ops [0, 1, 5, 7, 20] [
 ox 18 .mv [.t 0],
 ox 19 .mv [.t 1],
 ox 20 (.call 40) [.t 18, .t 19]])
 (.cond (.t 20)
 (.ops [0, 1, 5, 7] [
 ox 21 .mv [.t 7],
 ox 22 .mv [.t 0],
 ox 23 .mv [.t 1],
 ox 24 .nilCheck [.t 22],
 ox 25 (.fieldAddr 0) [.t 24],
 ox 26 (.idxAddrArr 64 33) [.t 25, .t 23],
 ox 27 (.load true 33) [.t 26],
 ox 28 (.mkSl 1 ([.int .i64 0] ++ (List.replicate 32 (.int .u8 0))) [(0, 33)]) [.t 27],
 ox 29 (.append 33 40) [.t 21, .t 28],
 ox 7 .mv [.t 29]])
 .skip))
 (.seq
 (.drawn [0, 1, 7] [
 ox 30 .mv [.t 0],
 ox 31 .mv [.t 1],
 ox 32 (.load true 33) [.t 5],
 ox 33 .nilCheck [.t 30],
 ox 34 (.fieldAddr 0) [.t 33],
 ox 35 (.idxAddrArr 64 33) [.t 34, .t 31],
 oe (.store 33) [.t 35, .t 32] 0 1])
 (.seq
 (.ops [0, 7, 8] [
 ox 37 .mv [.t 1],
 ox 38 (.call 76) [.t 37],
 ox 36 .mv [.t 38],
 ox 39 (.extract 0) [.t 36],
 ox 40 (.extract 1) [.t 36],
 ox 8 .mv [.t 39],
 ox 9 .mv [.t 40]])
 (.seq
 (.ops [6] [
 ox 41 .mv [.t 7],
 ox 42 .mv [.t 0],
 ox 43 .mv [.t 8],
 ox 44 (.mkSl 2 [.int .i64 0, .int .i64 0] [(0, 1), (1, 1)]) [.t 43, .c (.int .i64 0)],
 ox 45 (.call 77) [.t 42, .t 44],
 ox 46 (.append 33 40) [.t 41, .t 45],
 ox 6 .mv [.t 46]])
 .ret)))))))
def r38 : List ARes := [.tmp 6]
theorem ok38 : FnOk Tryz.prog 38 c38 r38 :=
 ⟨Tryz.f38, _, Tryz.func38, by kernel_rfl, rfl, by kernel_rfl, by kernel_rfl⟩
def c39 : ACode :=
 (.seq
 (.ops [0, 1, 10, 11, 12] [
 ox 10 .mv [.t 2],
 ox 11 .len [.t 10],
 ox 12 .mv [.c (.int .i64 0)]])
 (.block 0
 (.loop [0, 1, 10, 11, 12]
 (.seq
 (.ops [0, 1, 10, 11, 12, 13] [
 ox 13 (.cmp .lss) [.t 12, .t 11]])
 (.seq
 (.cond (.t 13)
 .skip
 (.exit 0))
 (.seq
 (.block 1
 (.seq
 (.ops [0, 1, 7, 10, 11, 12] [
 ox 14 (.idxAddr 33) [.t 10, .t 12],
 ox 15 (.load true 33) [.t 14],
 ox 7 (.alloc ([.int .i64 0] ++ (List.replicate 32 (.int .u8 0)))) [],
 oy (.store 33) [.t 7, .t 15]])
 (.seq
 (.drawn [0, 1, 8, 9, 10, 11, 12] [
 ox 17 .mv [.t 0],
 ox 18 .nilCheck [.t 17],
 ox 19 (.fieldAddr 2) [.t 18],
 ox 20 (.load true 3) [.t 19],
 ox 21 (.fieldAddr 0) [.t 7],
 ox 22 (.load false 1) [.t 21],
 od 23 (.call 13) [.t 20, .t 22] 0 1,
 od 16 .mv [.t 23] 1 1,
 od 24 (.extract 0) [.t 16] 1 1,
 od 25 (.extract 1) [.t 16] 1 2,
 od 8 (.alloc [.int .i64 0, .int .i64 0]) [] 0 1,
 oe (.store 2) [.t 8, .t 24] 1 2,
 od 9 .mv [.t 25] 2 2])
 (.seq
 (.ops [0, 1, 8, 10, 11, 12, 26] [
 ox 26 .mv [.t 9]])
 (.cond (.t 26)
 (.drawn [0, 1, 10, 11, 12] [
 od 27 .mv [.t 0] 0 1,
 od 28 .nilCheck [.t 27] 0 1,
 od 29 (.fieldAddr 6) [.t 28] 0 1,
 od 30 (.load false 1) [.t 29] 0 1,
 od 31 (.fieldAddr 0) [.t 8] 0 1,
 od 32 (.load false 1) [.t 31] 0 1,
 od 33 .mv [.t 1] 0 1,
 ox 34 .mv [.t 0],
 ox 35 .nilCheck [.t 34],
 ox 36 (.fieldAddr 7) [.t 35],
 ox 37 (.load false 1) [.t 36],
 od 38 (.call 79) [.t 37] 0 1,
 od 39 (.call 78) [.t 30, .t 32, .t 33, .t 38] 1 2])
 .skip)))))
 (.ops [0, 1, 10, 11, 12] [
 ox 40 (.arith .add) [.t 12, .c (.int .i64 1)],
 ox 12 .mv [.t 40]])))))))
def r39 : List ARes := []
theorem ok39 : FnOk Tryz.prog 39 c39 r39 :=
 ⟨Tryz.f39, _, Tryz.func39, by kernel_rfl, rfl, by kernel_rfl, by kernel_rfl⟩
def c40 : ACode :=
 (.seq
 (.ops [0, 1] [
 ox 4 .mv [.c (.bool false)]])
 (.seq
 (.ops [4] [
 ox 5 .mv [.t 1],
 ox 6 (.call 54) [.t 5, .c (.int .i64 0), .c (.int .i64 63)],
 ox 7 .mv [.t 6],
 og 8 .mv [.t 0] 7 true,
 og 9 .mv [.t 1] 7 true,
 og 10 .nilCheck [.t 8] 7 true,
 og 11 (.fieldAddr 0) [.t 10] 7 true,
 og 12 (.idxAddrArr 64 33) [.t 11, .t 9] 7 true,
 og 13 (.load true 33) [.t 12] 7 true,
 og 14 (.build ([.int .i64 0] ++ (List.replicate 32 (.int .u8 0))) []) [] 7 true,
 og 15 (.eqAgg true (List.replicate 33 .i)) [.t 13, .t 14] 7 true,
 ox 16 .pick [.t 7, .t 15, .c (.bool false)],
 ox 4 .mv [.t 16]])
 .ret))
def r40 : List ARes := [.tmp 4]
theorem ok40 : FnOk Tryz.prog 40 c40 r40 :=
 ⟨Tryz.f40, _, Tryz.func40, by kernel_rfl, rfl, by kernel_rfl, by kernel_rfl⟩
def c41 : ACode :=
 (.seq
 (.ops [0] [
 ox 2 .mv [.c .nils]])
 (.seq
 (.ops [3] [
 ox 5 .mv [.t 0],
 ox 6 .max [.c (.int .i64 0), .t 5],
 ox 7 (.mkSlice [.int .u8 0] 1) [.t 6, .t 6],
 ox 3 .mv [.t 7]])
 (.seq
 (.seq
 (.ops [3, 4] [
 ox 4 .mv [.c (.int .i64 0)]])
 (.block 0
 (.loop [3, 4]
 (.seq
 (.seq
 (.ops [3, 4, 11] [
 ox 8 .mv [.t 4],
 ox 9 .mv [.t 3],
 ox 10 .len [.t 9],
 ox 11 (.cmp .lss) [.t 8, .t 10]])
 (.cond (.t 11)
 .skip
 (.exit 0)))
 (.seq
 (.block 1
 (.ops [3, 4] [
 ox 14 .mv [.t 3],
 ox 15 .mv [.t 4],
 ox 16 .mv [.t 4],
 ox 17 (.arith .mul) [.t 16, .c (.int .i64 7)],
 ox 18 (.arith .add) [.t 17, .c (.int .i64 1)],
 ox 19 (.conv .u8) [.t 18],
 ox 20 (.idxAddr 1) [.t 14, .t 15],
 oy (.store 1) [.t 20, .t 19]]))
 (.ops [3, 4] [
 ox 12 .mv [.t 4],
 ox 13 (.arith .add) [.t 12, .c (.int .i64 1)],
 ox 4 .mv [.t 13]]))))))
 (.seq
 (.ops [2] [
 ox 21 .mv [.t 3],
 ox 2 .mv [.t 21]])
 .ret))))
def r41 : List ARes := [.tmp 2]
theorem ok41 : FnOk Tryz.prog 41 c41 r41 :=
 ⟨Tryz.f41, _, Tryz.func41, by kernel_rfl, rfl, by kernel_rfl, by kernel_rfl⟩
def c42 : ACode :=
 (.seq
 (.ops [0] [
 ox 2 .mv [.c (.bool false)]])
 (.seq
 (.seq
 (.ops [5, 6, 7] [
 ox 5 .mv [.t 0],
 ox 6 .len [.t 5],
 ox 7 .mv [.c (.int .i64 0)]])
 (.block 0
 (.loop [5, 6, 7]
 (.seq
 (.ops [5, 6, 7, 8] [
 ox 8 (.cmp .lss) [.t 7, .t 6]])
 (.seq
 (.cond (.t 8)
 .skip
 (.exit 0))
 (.seq
 (.block 1
 (.seq
 (.ops [4, 5, 6, 7] [
 ox 9 (.idxAddr 3) [.t 5, .t 7],
 ox 10 (.load true 3) [.t 9],
 ox 4 (.alloc [.int .i64 0, .int .i64 0, .int .i64 0]) [],
 oy (.store 3) [.t 4, .t 10]])
 (.seq
 (.ops [5, 6, 7, 22] [
 ox 11 (.fieldAddr 0) [.t 4],
 ox 12 (.load false 1) [.t 11],
 ox 13 (.fieldAddr 1) [.t 4],
 ox 14 (.load false 1) [.t 13],
 ox 15 (.cmp .lss) [.t 12, .t 14],
 ox 16 .mv [.t 15],
 og 17 (.fieldAddr 0) [.t 4] 16 false,
 og 18 (.load false 1) [.t 17] 16 false,
 og 19 (.fieldAddr 2) [.t 4] 16 false,
 og 20 (.load false 1) [.t 19] 16 false,
 og 21 (.cmp .gtr) [.t 18, .t 20] 16 false,
 ox 22 .pick [.t 16, .c (.bool true), .t 21]])
 (.cond (.t 22)
 (.seq
 (.ops [2] [
 ox 2 .mv [.c (.bool false)]])
 .ret)
 .skip))))
 (.ops [5, 6, 7] [
 ox 23 (.arith .add) [.t 7, .c (.int .i64 1)],
 ox 7 .mv [.t 23]])))))))
 (.seq
 (.ops [2] [
 ox 2 .mv [.c (.bool true)]])
 .ret)))
def r42 : List ARes := [.tmp 2]
theorem ok42 : FnOk Tryz.prog 42 c42 r42 :=
 ⟨Tryz.f42, _, Tryz.func42, by kernel_rfl, rfl, by kernel_rfl, by kernel_rfl⟩
def c43 : ACode :=
 (.seq
 (.ops [2, 3] [
 ox 2 .box [.t 0],
 ox 3 .box [.t 1],
 ox 4 .mv [.c (.int .i64 0)]])
 (.seq
 (.seq
 (.ops [2, 3, 24] [
 ox 5 (.load true 3) [.t 2],
 ox 6 (.call 60) [.t 5],
 ox 7 .not [.t 6],
 ox 8 .mv [.t 7],
 og 9 (.fieldAddr 0) [.t 3] 8 false,
 og 10 (.load false 1) [.t 9] 8 false,
 og 11 (.fieldAddr 0) [.t 2] 8 false,
 og 12 (.load false 1) [.t 11] 8 false,
 og 13 (.arith .sub) [.t 12, .c (.int .i64 1)] 8 false,
 og 14 (.build [.int .i64 0, .int .i64 0, .int .i64 0] [(0, 1), (1, 1), (2, 1)]) [.t 10, .c (.int .i64 0), .t 13] 8 false,
 og 15 (.fieldAddr 1) [.t 3] 8 false,
 og 16 (.load false 1) [.t 15] 8 false,
 og 17 (.fieldAddr 1) [.t 2] 8 false,
 og 18 (.load false 1) [.t 17] 8 false,
 og 19 (.arith .sub) [.t 18, .c (.int .i64 1)] 8 false,
 og 20 (.build [.int .i64 0, .int .i64 0, .int .i64 0] [(0, 1), (1, 1), (2, 1)]) [.t 16, .c (.int .i64 0), .t 19] 8 false,
 og 21 (.mkSl 2 [.int .i64 0, .int .i64 0, .int .i64 0, .int .i64 0, .int .i64 0, .int .i64 0] [(0, 3), (3, 3)]) [.t 14, .t 20] 8 false,
 og 22 (.call 42) [.t 21] 8 false,
 og 23 .not [.t 22] 8 false,
 ox 24 .pick [.t 8, .c (.bool true), .t 23]])
 (.cond (.t 24)
 (.seq
 (.ops [4] [
 ox 4 .mv [.c (.int .i64 0)]])
 .ret)
 .skip))
 (.seq
 (.ops [4] [
 ox 25 (.fieldAddr 0) [.t 3],
 ox 26 (.load false 1) [.t 25],
 ox 27 (.fieldAddr 1) [.t 2],
 ox 28 (.load false 1) [.t 27],
 ox 29 (.arith .mul) [.t 26, .t 28],
 ox 30 (.arith .add) [.c (.int .i64 3), .t 29],
 ox 31 (.fieldAddr 1) [.t 3],
 ox 32 (.load false 1) [.t 31],
 ox 33 (.arith .add) [.t 30, .t 32],
 ox 4 .mv [.t 33]])
 .ret)))
def r43 : List ARes := [.tmp 4]
theorem ok43 : FnOk Tryz.prog 43 c43 r43 :=
 ⟨Tryz.f43, _, Tryz.func43, by kernel_rfl, rfl, by kernel_rfl, by kernel_rfl⟩
def c44 : ACode :=
 (.seq
 (.ops [0] [
 ox 2 .mv [.c (.int .i64 0)]])
 (.seq
 (.seq
 (.ops [0, 17] [
 ox 3 .mv [.t 0],
 ox 4 .len [.t 3],
 ox 5 (.cmp .lss) [.t 4, .c (.int .i64 17)],
 ox 6 .mv [.t 5],
 og 7 .mv [.t 0] 6 false,
 og 8 (.idxAddr 1) [.t 7, .c (.int .i64 0)] 6 false,
 og 9 (.load false 1) [.t 8] 6 false,
 og 10 (.cmp .lss) [.t 9, .c (.int .u8 1)] 6 false,
 ox 11 .pick [.t 6, .c (.bool true), .t 10],
 ox 12 .mv [.t 11],
 og 13 .mv [.t 0] 12 false,
 og 14 (.idxAddr 1) [.t 13, .c (.int .i64 0)] 12 false,
 og 15 (.load false 1) [.t 14] 12 false,
 og 16 (.cmp .gtr) [.t 15, .c (.int .u8 5)] 12 false,
 ox 17 .pick [.t 12, .c (.bool true), .t 16]])
 (.cond (.t 17)
 (.seq
 (.ops [2] [
 ox 2 .mv [.c (.int .i64 0)]])
 .ret)
 .skip))
 (.seq
 (.ops [2] [
 ox 18 .mv [.t 0],
 ox 19 (.idxAddr 1) [.t 18, .c (.int .i64 0)],
 ox 20 (.load false 1) [.t 19],
 ox 21 (.conv .i64) [.t 20],
 ox 2 .mv [.t 21]])
 .ret)))
def r44 : List ARes := [.tmp 2]
theorem ok44 : FnOk Tryz.prog 44 c44 r44 :=
 ⟨Tryz.f44, _, Tryz.func44, by kernel_rfl, rfl, by kernel_rfl, by kernel_rfl⟩
def c45 : ACode :=
 (.seq
 (.ops [0, 1, 2, 3, 8] [
 ox 8 (.alloc [.int .i64 0, .int .i64 0, .int .i64 0, .int .i64 0, .nils]) [],
 ox 9 .mv [.c (.int .i64 0)]])
 (.seq
 (.block 0
 (.seq
 (.ops [0, 1, 2, 3, 8, 14] [
 ox 15 .mv [.t 3],
 ox 16 .len [.t 15],
 ox 17 (.cmp .lss) [.t 16, .c (.int .i64 17)],
 ox 14 .mv [.t 17]])
 (.cond (.t 14)
 (.seq
 (.ops [8, 9] [
 ox 18 (.build [.int .i64 0, .int .i64 0, .int .i64 0, .int .i64 0, .nils] []) [],
 oy (.store 5) [.t 8, .t 18],
 ox 9 .mv [.c (.int .i64 2)]])
 .ret)
 (.seq
 (.ops [0, 1, 2, 3, 8, 19] [
 ox 20 .mv [.t 3],
 ox 21 .len [.t 20],
 ox 22 (.cmp .gtr) [.t 21, .c (.int .i64 1024)],
 ox 19 .mv [.t 22]])
 (.cond (.t 19)
 (.seq
 (.ops [8, 9] [
 ox 23 (.build [.int .i64 0, .int .i64 0, .int .i64 0, .int .i64 0, .nils] []) [],
 oy (.store 5) [.t 8, .t 23],
 ox 9 .mv [.c (.int .i64 3)]])
 .ret)
 (.seq
 (.ops [0, 1, 2, 3, 8, 24] [
 ox 25 .mv [.t 1],
 ox 26 (.eq false .int) [.t 25, .c (.int .i64 0)],
 ox 27 .mv [.t 26],
 og 28 .mv [.t 3] 27 false,
 og 29 (.call 44) [.t 28] 27 false,
 og 30 .mv [.t 1] 27 false,
 og 31 (.eq true .int) [.t 29, .t 30] 27 false,
 ox 32 .pick [.t 27, .c (.bool true), .t 31],
 ox 24 .mv [.t 32]])
 (.cond (.t 24)
 (.seq
 (.ops [8, 9] [
 ox 33 (.build [.int .i64 0, .int .i64 0, .int .i64 0, .int .i64 0, .nils] []) [],
 oy (.store 5) [.t 8, .t 33],
 ox 9 .mv [.c (.int .i64 5)]])
 .ret)
 .skip)))))))
 (.seq
 (.ops [0, 1, 2, 3, 8, 10] [
 ox 34 .mv [.t 3],
 ox 35 (.slice 1 true true false) [.t 34, .c (.int .i64 1), .c (.int .i64 17)],
 ox 36 (.call 80) [.t 35],
 ox 10 .mv [.t 36]])
 (.seq
 (.ops [0, 1, 2, 3, 8, 11] [
 ox 37 .mv [.t 1],
 ox 38 .mv [.t 10],
 ox 39 (.call 81) [.t 38],
 ox 40 .mv [.t 10],
 ox 41 (.call 81) [.t 40],
 ox 42 .mv [.t 2],
 ox 43 (.build [.int .i64 0, .int .i64 0, .int .i64 0, .int .i64 0, .nils] [(0, 1), (1, 1), (2, 1), (3, 1)]) [.t 37, .t 39, .t 41, .t 42],
 ox 11 (.alloc [.int .i64 0, .int .i64 0, .int .i64 0, .int .i64 0, .nils]) [],
 oy (.store 5) [.t 11, .t 43]])
 (.seq
 (.seq
 (.ops [0, 1, 2, 3, 8, 11, 50] [
 ox 44 (.fieldAddr 1) [.t 11],
 ox 45 (.load false 1) [.t 44],
 ox 46 (.fieldAddr 2) [.t 11],
 ox 47 (.load false 1) [.t 46],
 ox 48 .mv [.t 2],
 ox 49 (.call 82) [.t 45, .t 47, .t 48],
 ox 50 .not [.t 49]])
 (.cond (.t 50)
 (.seq
 (.ops [8, 9] [
 ox 51 (.build [.int .i64 0, .int .i64 0, .int .i64 0, .int .i64 0, .nils] []) [],
 oy (.store 5) [.t 8, .t 51],
 ox 9 .mv [.c (.int .i64 7)]])
 .ret)
 .skip))
 (.seq
 (.drawn [8, 11, 12, 13] [
 od 53 .mv [.t 0] 0 1,
 od 54 (.fieldAddr 1) [.t 11] 0 1,
 od 55 (.load false 1) [.t 54] 0 1,
 od 56 (.fieldAddr 2) [.t 11] 0 1,
 od 57 (.load false 1) [.t 56] 0 1,
 ox 58 .mv [.t 1],
 ox 59 .mv [.t 2],
 od 60 (.call 83) [.t 58, .t 59] 0 1,
 od 61 .mv [.t 3] 0 1,
 od 62 (.slice 1 true false false) [.t 61, .c (.int .i64 17)] 0 1,
 od 63 (.mkFn (.method "Open") 1) [.t 53] 0 1,
 od 64 .nilCheck [.t 63] 0 1,
 od 65 .mv [.t 53] 0 1,
 od 66 (.invoke "Open") [.t 65, .t 55, .t 57, .t 60, .t 62] 1 2,
 od 52 .mv [.t 66] 2 2,
 od 67 (.extract 0) [.t 52] 2 2,
 od 68 (.extract 1) [.t 52] 2 2,
 od 12 .mv [.t 67] 2 2,
 od 13 .mv [.t 68] 2 2])
 (.seq
 (.seq
 (.ops [8, 11, 12, 70] [
 ox 69 .mv [.t 13],
 ox 70 .not [.t 69]])
 (.cond (.t 70)
 (.seq
 (.ops [8, 9] [
 ox 71 (.build [.int .i64 0, .int .i64 0, .int .i64 0, .int .i64 0, .nils] []) [],
 oy (.store 5) [.t 8, .t 71],
 ox 9 .mv [.c (.int .i64 19)]])
 .ret)
 .skip))
 (.seq
 (.ops [8, 11] [
 ox 72 .mv [.t 12],
 ox 73 (.fieldAddr 4) [.t 11],
 oy (.store 1) [.t 73, .t 72]])
 (.seq
 (.ops [8, 9] [
 ox 74 (.load true 5) [.t 11],
 oy (.store 5) [.t 8, .t 74],
 ox 9 .mv [.c (.int .i64 0)]])
 .ret)))))))))
def r45 : List ARes := [.cell 8 true 5, .tmp 9]
theorem ok45 : FnOk Tryz.prog 45 c45 r45 :=
 ⟨Tryz.f45, _, Tryz.func45, by kernel_rfl, rfl, by kernel_rfl, by kernel_rfl⟩
def c46 : ACode :=
 (.seq
 (.ops [0] [
 ox 2 .mv [.c (.int .i64 0)],
 ox 3 .mv [.c .nils],
 ox 4 .mv [.c (.bool false)]])
 (.seq
 (.ops [0, 5] [
 ox 7 .mv [.t 0],
 ox 8 (.call 80) [.t 7],
 ox 5 .mv [.t 8]])
 (.seq
 (.ops [0, 5, 6] [
 ox 9 .mv [.t 5],
 ox 10 (.call 81) [.t 9],
 ox 6 .mv [.t 10]])
 (.seq
 (.seq
 (.ops [0, 6, 21] [
 ox 11 .mv [.t 5],
 ox 12 (.call 84) [.t 11],
 ox 13 (.eq true .int) [.t 12, .c (.int .i64 32)],
 ox 14 .mv [.t 13],
 og 15 .mv [.t 6] 14 false,
 og 16 (.cmp .lss) [.t 15, .c (.int .i64 0)] 14 false,
 ox 17 .pick [.t 14, .c (.bool true), .t 16],
 ox 18 .mv [.t 17],
 og 19 .mv [.t 6] 18 false,
 og 20 (.cmp .geq) [.t 19, .c (.int .i64 64)] 18 false,
 ox 21 .pick [.t 18, .c (.bool true), .t 20]])
 (.cond (.t 21)
 (.seq
 (.ops [2, 3, 4] [
 ox 2 .mv [.c (.int .i64 0)],
 ox 3 .mv [.c .nils],
 ox 4 .mv [.c (.bool false)]])
 .ret)
 .skip))
 (.seq
 (.ops [2, 3, 4] [
 ox 22 .mv [.t 6],
 ox 23 (.mkSl 0 [] []) [],
 ox 24 .mv [.t 0],
 ox 25 .mv [.t 0],
 ox 26 .len [.t 25],
 ox 27 (.arith .sub) [.t 26, .c (.int .i64 32)],
 ox 28 (.slice 1 true false false) [.t 24, .t 27],
 ox 29 (.append 1 1) [.t 23, .t 28],
 ox 2 .mv [.t 22],
 ox 3 .mv [.t 29],
 ox 4 .mv [.c (.bool true)]])
 .ret)))))
def r46 : List ARes := [.tmp 2, .tmp 3, .tmp 4]
theorem ok46 : FnOk Tryz.prog 46 c46 r46 :=
 ⟨Tryz.f46, _, Tryz.func46, by kernel_rfl, rfl, by kernel_rfl, by kernel_rfl⟩
def c47 : ACode :=
 (.seq
 (.ops [0, 3] [
 ox 2 .mv [.c (.int .i64 0)],
 ox 3 (.alloc (rep 8 ([.int .i64 0] ++ (List.replicate 32 (.int .u8 0))))) [],
 ox 4 .mv [.c (.int .i64 0)]])
 (.seq
 (.ops [3, 5] [
 ox 10 .mv [.t 0],
 ox 11 (.call 80) [.t 10],
 ox 5 .mv [.t 11]])
 (.seq
 (.ops [3, 5, 6] [
 ox 12 .mv [.t 5],
 ox 13 (.call 81) [.t 12],
 ox 6 .mv [.t 13]])
 (.seq
 (.ops [3, 5, 6, 7] [
 ox 7 (.alloc (rep 8 ([.int .i64 0] ++ (List.replicate 32 (.int .u8 0))))) []])
 (.seq
 (.seq
 (.ops [3, 5, 6, 7, 14] [
 ox 14 .mv [.c (.int .i64 0)]])
 (.block 0
 (.loop [3, 5, 6, 7, 14]
 (.seq
 (.ops [3, 5, 6, 7, 14, 15] [
 ox 15 (.cmp .lss) [.t 14, .c (.int .i64 8)]])
 (.seq
 (.cond (.t 15)
 .skip
 (.exit 0))
 (.seq
 (.block 1
 (.seq
 (.ops [3, 5, 6, 7, 8, 14] [
 ox 16 .mv [.t 14],
 ox 8 .mv [.t 16]])
 (.ops [3, 5, 6, 7, 14] [
 ox 17 .mv [.t 8],
 ox 18 .mv [.t 5],
 ox 19 (.call 85) [.t 18],
 ox 20 (.fieldAddr 0) [.t 7],
 ox 21 (.idxAddrArr 8 33) [.t 20, .t 17],
 oy (.store 33) [.t 21, .t 19]])))
 (.ops [3, 5, 6, 7, 14] [
 ox 22 (.arith .add) [.t 14, .c (.int .i64 1)],
 ox 14 .mv [.t 22]])))))))
 (.seq
 (.seq
 (.ops [3, 6, 7, 9] [
 ox 23 .mv [.t 5],
 ox 24 (.call 86) [.t 23],
 ox 9 .mv [.t 24]])
 (.seq
 (.ops [3, 6, 7, 9, 26] [
 ox 25 .mv [.t 9],
 ox 26 (.eq true .int) [.t 25, .c (.int .i64 0)]])
 (.cond (.t 26)
 (.seq
 (.ops [2, 3, 4] [
 ox 27 (.build (rep 8 ([.int .i64 0] ++ (List.replicate 32 (.int .u8 0)))) []) [],
 ox 28 .mv [.t 9],
 ox 2 .mv [.c (.int .i64 0)],
 oy (.store 264) [.t 3, .t 27],
 ox 4 .mv [.t 28]])
 .ret)
 .skip)))
 (.seq
 (.seq
 (.ops [3, 6, 7, 32] [
 ox 29 .mv [.t 6],
 ox 30 (.load true 264) [.t 7],
 ox 31 (.call 87) [.t 29, .t 30],
 ox 32 .not [.t 31]])
 (.cond (.t 32)
 (.seq
 (.ops [2, 3, 4] [
 ox 33 (.build (rep 8 ([.int .i64 0] ++ (List.replicate 32 (.int .u8 0)))) []) [],
 ox 2 .mv [.c (.int .i64 0)],
 oy (.store 264) [.t 3, .t 33],
 ox 4 .mv [.c (.int .i64 7)]])
 .ret)
 .skip))
 (.seq
 (.drawn [2, 3, 4] [
 ox 34 .mv [.t 6],
 ox 35 (.load true 264) [.t 7],
 ox 2 .mv [.t 34],
 oe (.store 264) [.t 3, .t 35] 0 1,
 od 4 .mv [.c (.int .i64 0)] 1 1])
 .ret))))))))
def r47 : List ARes := [.tmp 2, .cell 3 true 264, .tmp 4]
theorem ok47 : FnOk Tryz.prog 47 c47 r47 :=
 ⟨Tryz.f47, _, Tryz.func47, by kernel_rfl, rfl, by kernel_rfl, by kernel_rfl⟩
def c48 : ACode :=
 (.seq
 (.ops [0, 1] [
 ox 4 .mv [.c (.bool false)]])
 (.seq
 (.ops [4] [
 ox 5 .mv [.t 1],
 ox 6 (.cmp .geq) [.t 5, .c (.int .i64 0)],
 ox 7 .mv [.t 6],
 og 8 .mv [.t 1] 7 true,
 og 9 .mv [.t 0] 7 true,
 og 10 .nilCheck [.t 9] 7 true,
 og 11 (.fieldAddr 0) [.t 10] 7 true,
 og 12 (.load false 1) [.t 11] 7 true,
 og 13 .len [.t 12] 7 true,
 og 14 (.cmp .lss) [.t 8, .t 13] 7 true,
 ox 15 .pick [.t 7, .t 14, .c (.bool false)],
 ox 4 .mv [.t 15]])
 .ret))
def r48 : List ARes := [.tmp 4]
theorem ok48 : FnOk Tryz.prog 48 c48 r48 :=
 ⟨Tryz.f48, _, Tryz.func48, by kernel_rfl, rfl, by kernel_rfl, by kernel_rfl⟩
def c49 : ACode :=
 (.seq
 (.ops [0] [
 ox 2 .mv [.c .nils]])
 (.seq
 (.seq
 (.ops [0, 4] [
 ox 3 .mv [.t 0],
 ox 4 (.eq false .slice) [.t 3, .c .nils]])
 (.cond (.t 4)
 (.seq
 (.ops [2] [
 ox 2 .mv [.c .nils]])
 .ret)
 .skip))
 (.seq
 (.ops [2] [
 ox 5 (.mkSl 0 [] []) [],
 ox 6 .mv [.t 0],
 ox 7 (.append 1 1) [.t 5, .t 6],
 ox 2 .mv [.t 7]])
 .ret)))
def r49 : List ARes := [.tmp 2]
theorem ok49 : FnOk Tryz.prog 49 c49 r49 :=
 ⟨Tryz.f49, _, Tryz.func49, by kernel_rfl, rfl, by kernel_rfl, by kernel_rfl⟩
def c50 : ACode :=
 (.seq
 (.ops [0, 1, 2] [
 ox 6 .mv [.c (.int .i64 0)]])
 (.seq
 (.block 0
 (.seq
 (.ops [2, 7] [
 ox 8 .mv [.t 0],
 ox 9 .mv [.t 1],
 ox 10 (.call 48) [.t 8, .t 9],
 ox 11 .not [.t 10],
 ox 7 .mv [.t 11]])
 (.cond (.t 7)
 (.seq
 (.ops [6] [
 ox 6 .mv [.c (.int .i64 7)]])
 .ret)
 (.seq
 (.ops [12] [
 ox 13 .mv [.t 2],
 ox 14 .len [.t 13],
 ox 15 (.cmp .gtr) [.t 14, .c (.int .i64 1024)],
 ox 12 .mv [.t 15]])
 (.cond (.t 12)
 (.seq
 (.ops [6] [
 ox 6 .mv [.c (.int .i64 3)]])
 .ret)
 .skip)))))
 (.seq
 (.ops [6] [
 ox 6 .mv [.c (.int .i64 0)]])
 .ret)))
def r50 : List ARes := [.tmp 6]
theorem ok50 : FnOk Tryz.prog 50 c50 r50 :=
 ⟨Tryz.f50, _, Tryz.func50, by kernel_rfl, rfl, by kernel_rfl, by kernel_rfl⟩
def c51 : ACode :=
 (.seq
 (.ops [0] [
 ox 2 .mv [.c (.bool false)]])
 (.seq
 (.ops [2] [
 ox 3 .mv [.t 0],
 ox 4 .nilCheck [.t 3],
 ox 5 (.fieldAddr 5) [.t 4],
 ox 6 (.load false 1) [.t 5],
 ox 7 (.call 88) [.t 6, .c (.int .i64 0)],
 ox 8 (.eq false .int) [.t 7, .c (.int .i64 0)],
 ox 2 .mv [.t 8]])
 .ret))
def r51 : List ARes := [.tmp 2]
theorem ok51 : FnOk Tryz.prog 51 c51 r51 :=
 ⟨Tryz.f51, _, Tryz.func51, by kernel_rfl, rfl, by kernel_rfl, by kernel_rfl⟩
def c52 : ACode :=
 (.seq
 (.ops [0, 1] [
 ox 4 .mv [.c (.bool false)]])
 (.seq
 (.drawn [4] [
 ox 5 .mv [.t 0],
 ox 6 .nilCheck [.t 5],
 ox 7 (.fieldAddr 7) [.t 6],
 ox 8 (.fieldAddr 1) [.t 7],
 ox 9 (.load false 1) [.t 8],
 ox 10 .mv [.t 0],
 ox 11 .nilCheck [.t 10],
 ox 12 (.fieldAddr 2) [.t 11],
 ox 13 (.fieldAddr 1) [.t 12],
 ox 14 (.load false 1) [.t 13],
 ox 15 (.arith .sub) [.t 14, .c (.int .i64 1)],
 ox 16 .mv [.t 1],
 ox 17 (.arith .sub) [.t 15, .t 16],
 ox 18 (.eq false .int) [.t 9, .t 17],
 ox 4 .mv [.t 18]])
 .ret))
def r52 : List ARes := [.tmp 4]
theorem ok52 : FnOk Tryz.prog 52 c52 r52 :=
 ⟨Tryz.f52, _, Tryz.func52, by kernel_rfl, rfl, by kernel_rfl, by kernel_rfl⟩
def c53 : ACode :=
 (.seq
 (.ops [1, 2] [
 ox 2 .box [.t 0],
 ox 4 .mv [.c (.int .i64 0)]])
 (.seq
 (.ops [1, 2, 5] [
 ox 5 (.alloc [.int .i64 0]) [],
 oy (.store 1) [.t 5, .c (.int .i64 (-1))]])
 (.seq
 (.seq
 (.ops [1, 2, 5, 9] [
 ox 8 (.load false 1) [.t 2],
 ox 9 (.call 52) [.t 8, .c (.int .i64 0)]])
 (.cond (.t 9)
 (.drawn [1, 2, 5] [
 ox 11 (.load false 1) [.t 2],
 ox 12 .nilCheck [.t 11],
 ox 13 (.fieldAddr 5) [.t 12],
 ox 14 (.load false 1) [.t 13],
 ox 15 (.load false 1) [.t 2],
 ox 16 .nilCheck [.t 15],
 ox 17 (.fieldAddr 42) [.t 16],
 ox 18 (.load false 1) [.t 17],
 od 19 (.call 31) [.t 14, .t 18] 0 1,
 od 10 .mv [.t 19] 1 1,
 od 20 (.extract 0) [.t 10] 1 1,
 od 21 (.extract 1) [.t 10] 1 2,
 oe (.store 1) [.t 5, .t 20] 1 2])
 .skip))
 (.seq
 (.drawn [2, 5, 6, 7] [
 ox 23 .mv [.t 1],
 ox 24 (.load false 1) [.t 2],
 ox 25 .nilCheck [.t 24],
 ox 26 (.fieldAddr 9) [.t 25],
 ox 27 (.load true 32) [.t 26],
 ox 28 (.load false 1) [.t 5],
 ox 29 (.load false 1) [.t 2],
 ox 30 .nilCheck [.t 29],
 ox 31 (.fieldAddr 41) [.t 30],
 ox 32 (.load false 1) [.t 31],
 ox 33 (.build ([.int .i64 0] ++ (List.replicate 32 (.int .u8 0) ++ ([.int .i64 0, .nils]))) [(0, 1), (1, 32), (33, 1), (34, 1)]) [.t 23, .t 27, .t 28, .t 32],
 od 34 (.call 89) [.t 33] 0 1,
 od 22 .mv [.t 34] 1 1,
 od 35 (.extract 0) [.t 22] 1 1,
 od 36 (.extract 1) [.t 22] 1 1,
 od 6 .mv [.t 35] 1 1,
 od 7 .mv [.t 36] 1 1])
 (.seq
 (.ops [4] [
 ox 37 .mv [.t 6],
 ox 38 .mv [.t 7],
 ox 39 (.mkFn (.func 91) 0) [.t 2, .t 5],
 ox 40 (.call 90) [.t 37, .t 38, .t 39],
 ox 4 .mv [.t 40]])
 .ret)))))
def r53 : List ARes := [.tmp 4]
theorem ok53 : FnOk Tryz.prog 53 c53 r53 :=
 ⟨Tryz.f53, _, Tryz.func53, by kernel_rfl, rfl, by kernel_rfl, by kernel_rfl⟩
def c54 : ACode :=
 (.seq
 (.ops [0, 1, 2] [
 ox 6 .mv [.c (.bool false)]])
 (.seq
 (.ops [6] [
 ox 7 .mv [.t 0],
 ox 8 .mv [.t 1],
 ox 9 (.cmp .geq) [.t 7, .t 8],
 ox 10 .mv [.t 9],
 og 11 .mv [.t 0] 10 true,
 og 12 .mv [.t 2] 10 true,
 og 13 (.cmp .leq) [.t 11, .t 12] 10 true,
 ox 14 .pick [.t 10, .t 13, .c (.bool false)],
 ox 6 .mv [.t 14]])
 .ret))
def r54 : List ARes := [.tmp 6]
theorem ok54 : FnOk Tryz.prog 54 c54 r54 :=
 ⟨Tryz.f54, _, Tryz.func54, by kernel_rfl, rfl, by kernel_rfl, by kernel_rfl⟩
def c58 : ACode :=
 (.seq
 (.ops [0] [
 ox 2 .mv [.c .nils]])
 (.seq
 (.ops [0, 3] [
 ox 3 .mv [.c .nils]])
 (.seq
 (.seq
 (.ops [0, 3, 11, 12] [
 ox 8 .mv [.t 0],
 ox 9 .nilCheck [.t 8],
 ox 10 (.fieldAddr 0) [.t 9],
 ox 11 (.load true 2112) [.t 10],
 ox 12 .mv [.c (.int .i64 0)]])
 (.block 0
 (.loop [0, 3, 11, 12]
 (.seq
 (.ops [0, 3, 11, 12, 13] [
 ox 13 (.cmp .lss) [.t 12, .c (.int .i64 64)]])
 (.seq
 (.cond (.t 13)
 .skip
 (.exit 0))
 (.seq
 (.block 1
 (.seq
 (.ops [0, 3, 5, 11, 12] [
 ox 14 (.idxArr 64 33 true) [.t 11, .t 12],
 ox 5 (.alloc ([.int .i64 0] ++ (List.replicate 32 (.int .u8 0)))) [],
 oy (.store 33) [.t 5, .t 14]])
 (.seq
 (.ops [0, 3, 5, 11, 12, 17] [
 ox 15 (.load true 33) [.t 5],
 ox 16 (.build ([.int .i64 0] ++ (List.replicate 32 (.int .u8 0))) []) [],
 ox 17 (.eqAgg true (List.replicate 33 .i)) [.t 15, .t 16]])
 (.cond (.t 17)
 (.ops [0, 3, 11, 12] [
 ox 18 .mv [.t 3],
 ox 19 (.load true 33) [.t 5],
 ox 20 (.mkSl 1 ([.int .i64 0] ++ (List.replicate 32 (.int .u8 0))) [(0, 33)]) [.t 19],
 ox 21 (.append 33 40) [.t 18, .t 20],
 ox 3 .mv [.t 21]])
 .skip))))
 (.ops [0, 3, 11, 12] [
 ox 22 (.arith .add) [.t 12, .c (.int .i64 1)],
 ox 12 .mv [.t 22]])))))))
 (.seq
 (.seq
 (.ops [3, 26, 27] [
 ox 23 .mv [.t 0],
 ox 24 .nilCheck [.t 23],
 ox 25 (.fieldAddr 2112) [.t 24],
 ox 26 (.load true 306) [.t 25],
 ox 27 .mv [.c (.int .i64 0)]])
 (.block 2
 (.loop [3, 26, 27]
 (.seq
 (.ops [3, 26, 27, 28] [
 ox 28 (.cmp .lss) [.t 27, .c (.int .i64 9)]])
 (.seq
 (.cond (.t 28)
 .skip
 (.exit 2))
 (.seq
 (.block 3
 (.seq
 (.ops [3, 7, 26, 27] [
 ox 29 (.idxArr 9 34 true) [.t 26, .t 27],
 ox 7 (.alloc ([.int .i64 0, .int .i64 0] ++ (List.replicate 32 (.int .u8 0)))) [],
 oy (.store 34) [.t 7, .t 29]])
 (.seq
 (.ops [3, 7, 26, 27, 38] [
 ox 30 (.fieldAddr 0) [.t 7],
 ox 31 (.load false 1) [.t 30],
 ox 32 (.eq false .int) [.t 31, .c (.int .i64 1)],
 ox 33 .mv [.t 32],
 og 34 (.fieldAddr 1) [.t 7] 33 true,
 og 35 (.fieldAddr 0) [.t 34] 33 true,
 og 36 (.load false 1) [.t 35] 33 true,
 og 37 (.cmp .gtr) [.t 36, .c (.int .i64 0)] 33 true,
 ox 38 .pick [.t 33, .t 37, .c (.bool false)]])
 (.cond (.t 38)
 (.ops [3, 26, 27] [
 ox 39 .mv [.t 3],
 ox 40 (.fieldAddr 1) [.t 7],
 ox 41 (.load true 33) [.t 40],
 ox 42 (.mkSl 1 ([.int .i64 0] ++ (List.replicate 32 (.int .u8 0))) [(0, 33)]) [.t 41],
 ox 43 (.append 33 40) [.t 39, .t 42],
 ox 3 .mv [.t 43]])
 .skip))))
 (.ops [3, 26, 27] [
 ox 44 (.arith .add) [.t 27, .c (.int .i64 1)],
 ox 27 .mv [.t 44]])))))))
 (.seq
 (.ops [2] [
 ox 45 .mv [.t 3],
 ox 2 .mv [.t 45]])
 .ret)))))
def r58 : List ARes := [.tmp 2]
theorem ok58 : FnOk Tryz.prog 58 c58 r58 :=
 ⟨Tryz.f58, _, Tryz.func58, by kernel_rfl, rfl, by kernel_rfl, by kernel_rfl⟩
def c60 : ACode :=
 (.seq
 (.ops [1] [
 ox 1 .box [.t 0],
 ox 2 .mv [.c (.bool false)]])
 (.seq
 (.drawn [2] [
 ox 3 (.fieldAddr 0) [.t 1],
 ox 4 (.load false 1) [.t 3],
 ox 5 (.build [.int .i64 0, .int .i64 0, .int .i64 0] [(0, 1), (1, 1), (2, 1)]) [.t 4, .c (.int .i64 16), .c (.int .i64 32)],
 ox 6 (.fieldAddr 1) [.t 1],
 ox 7 (.load false 1) [.t 6],
 ox 8 (.build [.int .i64 0, .int .i64 0, .int .i64 0] [(0, 1), (1, 1), (2, 1)]) [.t 7, .c (.int .i64 32), .c (.int .i64 64)],
 ox 9 (.fieldAddr 2) [.t 1],
 ox 10 (.load false 1) [.t 9],
 ox 11 (.build [.int .i64 0, .int .i64 0, .int .i64 0] [(0, 1), (1, 1), (2, 1)]) [.t 10, .c (.int .i64 1), .c (.int .i64 64)],
 ox 12 (.mkSl 3 (List.replicate 9 (.int .i64 0)) [(0, 3), (3, 3), (6, 3)]) [.t 5, .t 8, .t 11],
 od 13 (.call 42) [.t 12] 0 1,
 od 14 .mv [.t 13] 1 1,
 oh 15 (.fieldAddr 2) [.t 1] 14 true 1 3,
 oh 16 (.load false 1) [.t 15] 14 true 1 3,
 oh 17 (.arith .add) [.t 16, .c (.int .i64 9)] 14 true 1 3,
 oh 18 (.fieldAddr 0) [.t 1] 14 true 1 3,
 oh 19 (.load false 1) [.t 18] 14 true 1 3,
 oh 20 (.load true 3) [.t 1] 14 true 1 1,
 oh 21 (.fieldAddr 2) [.t 1] 14 true 1 1,
 oh 22 (.load false 1) [.t 21] 14 true 1 1,
 oh 23 (.call 95) [.t 20, .t 22] 14 true 1 2,
 oh 24 (.arith .sub) [.t 19, .t 23] 14 true 2 3,
 oh 25 (.arith .sub) [.t 24, .c (.int .i64 14)] 14 true 2 3,
 oh 26 (.load true 3) [.t 1] 14 true 1 2,
 oh 27 (.call 96) [.t 26] 14 true 2 3,
 oh 28 (.arith .add) [.t 27, .c (.int .i64 1)] 14 true 3 3,
 oh 29 (.arith .mul) [.t 25, .t 28] 14 true 3 3,
 oh 30 (.cmp .lss) [.t 17, .t 29] 14 true 3 3,
 od 31 .pick [.t 14, .t 30, .c (.bool false)] 3 3,
 od 2 .mv [.t 31] 3 3])
 .ret))
def r60 : List ARes := [.tmp 2]
theorem ok60 : FnOk Tryz.prog 60 c60 r60 :=
 ⟨Tryz.f60, _, Tryz.func60, by kernel_rfl, rfl, by kernel_rfl, by kernel_rfl⟩
def c61 : ACode :=
 (.seq
 (.ops [0, 1] [
 ox 4 .mv [.c (.int .i64 0)]])
 (.seq
 (.ops [4] [
 ox 5 .mv [.t 0],
 ox 6 .max [.t 5, .c (.int .i64 0)],
 ox 7 .mv [.t 1],
 ox 8 .min [.t 6, .t 7],
 ox 4 .mv [.t 8]])
 .ret))
def r61 : List ARes := [.tmp 4]
theorem ok61 : FnOk Tryz.prog 61 c61 r61 :=
 ⟨Tryz.f61, _, Tryz.func61, by kernel_rfl, rfl, by kernel_rfl, by kernel_rfl⟩
def c62 : ACode :=
 (.seq
 (.ops [0, 1] [
 ox 4 .mv [.c (.int .i64 0)]])
 (.seq
 (.ops [4] [
 ox 5 .mv [.t 0],
 ox 6 .nilCheck [.t 5],
 ox 7 (.fieldAddr 0) [.t 6],
 ox 8 (.load false 1) [.t 7],
 ox 9 .mv [.t 1],
 ox 10 (.mkFn (.func 98) 1) [.t 9],
 ox 11 (.call 97) [.t 8, .t 10],
 ox 4 .mv [.t 11]])
 .ret))
def r62 : List ARes := [.tmp 4]
theorem ok62 : FnOk Tryz.prog 62 c62 r62 :=
 ⟨Tryz.f62, _, Tryz.func62, by kernel_rfl, rfl, by kernel_rfl, by kernel_rfl⟩
def c63 : ACode :=
 (.seq
 (.ops [0] [
 ox 2 .mv [.c (.int .i64 0)]])
 (.seq
 (.ops [2] [
 ox 3 .mv [.t 0],
 ox 4 (.call 62) [.t 3, .c (.int .i64 1)],
 ox 2 .mv [.t 4]])
 .ret))
def r63 : List ARes := [.tmp 2]
theorem ok63 : FnOk Tryz.prog 63 c63 r63 :=
 ⟨Tryz.f63, _, Tryz.func63, by kernel_rfl, rfl, by kernel_rfl, by kernel_rfl⟩
def c64 : ACode :=
 (.seq
 (.ops [0] [
 ox 2 .mv [.c (.int .i64 0)]])
 (.seq
 (.ops [0, 3] [
 ox 3 .mv [.c (.int .i64 0)]])
 (.seq
 (.seq
 (.ops [3, 9, 10] [
 ox 6 .mv [.t 0],
 ox 7 .nilCheck [.t 6],
 ox 8 (.fieldAddr 0) [.t 7],
 ox 9 (.load true 2112) [.t 8],
 ox 10 .mv [.c (.int .i64 0)]])
 (.block 0
 (.loop [3, 9, 10]
 (.seq
 (.ops [3, 9, 10, 11] [
 ox 11 (.cmp .lss) [.t 10, .c (.int .i64 64)]])
 (.seq
 (.cond (.t 11)
 .skip
 (.exit 0))
 (.seq
 (.block 1
 (.seq
 (.ops [3, 5, 9, 10] [
 ox 12 (.idxArr 64 33 true) [.t 9, .t 10],
 ox 5 (.alloc ([.int .i64 0] ++ (List.replicate 32 (.int .u8 0)))) [],
 oy (.store 33) [.t 5, .t 12]])
 (.seq
 (.ops [3, 9, 10, 15] [
 ox 13 (.load true 33) [.t 5],
 ox 14 (.build ([.int .i64 0] ++ (List.replicate 32 (.int .u8 0))) []) [],
 ox 15 (.eqAgg true (List.replicate 33 .i)) [.t 13, .t 14]])
 (.cond (.t 15)
 (.ops [3, 9, 10] [
 ox 16 .mv [.t 3],
 ox 17 (.arith .add) [.t 16, .c (.int .i64 1)],
 ox 3 .mv [.t 17]])
 .skip))))
 (.ops [3, 9, 10] [
 ox 18 (.arith .add) [.t 10, .c (.int .i64 1)],
 ox 10 .mv [.t 18]])))))))
 (.seq
 (.ops [2] [
 ox 19 .mv [.t 3],
 ox 2 .mv [.t 19]])
 .ret))))
def r64 : List ARes := [.tmp 2]
theorem ok64 : FnOk Tryz.prog 64 c64 r64 :=
 ⟨Tryz.f64, _, Tryz.func64, by kernel_rfl, rfl, by kernel_rfl, by kernel_rfl⟩
def c65 : ACode :=
 (.seq
 (.ops [0, 1, 5] [
 ox 5 .box [.t 2],
 ox 6 .mv [.c (.int .i64 0)]])
 (.seq
 (.ops [0, 1, 5, 7] [
 ox 8 .mv [.t 0],
 ox 9 (.call 34) [.t 8],
 ox 7 .mv [.t 9]])
 (.seq
 (.block 0
 (.seq
 (.ops [0, 1, 5, 10] [
 ox 11 .mv [.t 7],
 ox 12 .mv [.t 1],
 ox 13 (.call 99) [.t 11, .t 12],
 ox 14 .not [.t 13],
 ox 15 .mv [.t 14],
 og 16 .mv [.t 1] 15 false,
 og 17 (.eq false .int) [.t 16, .c (.int .i64 0)] 15 false,
 og 18 .mv [.t 17] 15 false,
 og 19 .mv [.t 7] 18 true,
 og 20 .len [.t 19] 18 true,
 og 21 (.cmp .gtr) [.t 20, .c (.int .i64 1)] 18 true,
 og 22 .pick [.t 18, .t 21, .c (.bool false)] 15 false,
 ox 23 .pick [.t 15, .c (.bool true), .t 22],
 ox 10 .mv [.t 23]])
 (.cond (.t 10)
 (.seq
 (.ops [6] [
 ox 6 .mv [.c (.int .i64 16)]])
 .ret)
 (.seq
 (.ops [0, 1, 5, 24] [
 ox 25 .mv [.t 1],
 ox 26 (.eq false .int) [.t 25, .c (.int .i64 0)],
 ox 27 .mv [.t 26],
 og 28 .mv [.t 0] 27 true,
 og 29 (.call 100) [.t 28] 27 true,
 ox 30 .pick [.t 27, .t 29, .c (.bool false)],
 ox 24 .mv [.t 30]])
 (.cond (.t 24)
 (.seq
 (.ops [0, 1, 5, 33] [
 ox 31 (.load true 33) [.t 5],
 ox 32 (.build ([.int .i64 0] ++ (List.replicate 32 (.int .u8 0))) []) [],
 ox 33 (.eqAgg true (List.replicate 33 .i)) [.t 31, .t 32]])
 (.cond (.t 33)
 (.seq
 (.ops [6] [
 ox 6 .mv [.c (.int .i64 7)]])
 .ret)
 .skip))
 (.seq
 (.ops [0, 1, 5, 34] [
 ox 35 (.fieldAddr 0) [.t 5],
 ox 36 (.load false 1) [.t 35],
 ox 37 (.cmp .lss) [.t 36, .c (.int .i64 1)],
 ox 34 .mv [.t 37]])
 (.cond (.t 34)
 (.seq
 (.ops [6] [
 ox 6 .mv [.c (.int .i64 7)]])
 .ret)
 .skip)))))))
 (.seq
 (.drawn [] [
 ox 38 .mv [.t 0],
 ox 39 .mv [.t 1],
 ox 40 (.load true 33) [.t 5],
 ox 41 (.build ([.int .i64 0, .int .i64 0] ++ (List.replicate 32 (.int .u8 0))) [(0, 1), (1, 33)]) [.c (.int .i64 1), .t 40],
 ox 42 .nilCheck [.t 38],
 ox 43 (.fieldAddr 2112) [.t 42],
 ox 44 (.idxAddrArr 9 34) [.t 43, .t 39],
 oe (.store 34) [.t 44, .t 41] 0 1])
 (.seq
 (.ops [6] [
 ox 6 .mv [.c (.int .i64 0)]])
 .ret)))))
def r65 : List ARes := [.tmp 6]
theorem ok65 : FnOk Tryz.prog 65 c65 r65 :=
 ⟨Tryz.f65, _, Tryz.func65, by kernel_rfl, rfl, by kernel_rfl, by kernel_rfl⟩
def c66 : ACode :=
 (.seq
 (.ops [0, 3] [
 ox 3 .box [.t 1],
 ox 4 .mv [.c .nils],
 ox 5 .mv [.c (.int .i64 0)]])
 (.seq
 (.seq
 (.ops [0, 3, 12] [
 ox 9 .mv [.t 0],
 ox 10 (.load true 264) [.t 3],
 ox 11 (.call 87) [.t 9, .t 10],
 ox 12 .not [.t 11]])
 (.cond (.t 12)
 (.seq
 (.ops [4, 5] [
 ox 4 .mv [.c .nils],
 ox 5 .mv [.c (.int .i64 7)]])
 .ret)
 .skip))
 (.seq
 (.ops [3, 6] [
 ox 13 .mv [.t 0],
 ox 14 (.call 37) [.c .nils, .t 13],
 ox 6 .mv [.t 14]])
 (.seq
 (.seq
 (.ops [6, 16, 17] [
 ox 15 (.fieldAddr 0) [.t 3],
 ox 16 (.load true 264) [.t 15],
 ox 17 .mv [.c (.int .i64 0)]])
 (.block 0
 (.loop [6, 16, 17]
 (.seq
 (.ops [6, 16, 17, 18] [
 ox 18 (.cmp .lss) [.t 17, .c (.int .i64 8)]])
 (.seq
 (.cond (.t 18)
 .skip
 (.exit 0))
 (.seq
 (.block 1
 (.seq
 (.ops [6, 8, 16, 17] [
 ox 19 (.idxArr 8 33 true) [.t 16, .t 17],
 ox 8 (.alloc ([.int .i64 0] ++ (List.replicate 32 (.int .u8 0)))) [],
 oy (.store 33) [.t 8, .t 19]])
 (.ops [6, 16, 17] [
 ox 20 .mv [.t 6],
 ox 21 (.load true 33) [.t 8],
 ox 22 (.call 101) [.t 20, .t 21],
 ox 6 .mv [.t 22]])))
 (.ops [6, 16, 17] [
 ox 23 (.arith .add) [.t 17, .c (.int .i64 1)],
 ox 17 .mv [.t 23]])))))))
 (.seq
 (.ops [4, 5] [
 ox 24 .mv [.t 6],
 ox 4 .mv [.t 24],
 ox 5 .mv [.c (.int .i64 0)]])
 .ret)))))
def r66 : List ARes := [.tmp 4, .tmp 5]
theorem ok66 : FnOk Tryz.prog 66 c66 r66 :=
 ⟨Tryz.f66, _, Tryz.func66, by kernel_rfl, rfl, by kernel_rfl, by kernel_rfl⟩
def c67 : ACode :=
 (.seq
 (.ops [0, 1, 4] [
 ox 4 (.alloc (rep 8 ([.int .i64 0] ++ (List.replicate 32 (.int .u8 0))))) []])
 (.seq
 (.ops [0, 1, 4, 5] [
 ox 5 (.alloc (rep 8 ([.int .i64 0] ++ (List.replicate 32 (.int .u8 0))))) []])
 (.seq
 (.block 0
 (.seq
 (.ops [0, 1, 4, 5, 8] [
 ox 9 .mv [.t 1],
 ox 10 (.eq false .int) [.t 9, .c (.int .i64 0)],
 ox 8 .mv [.t 10]])
 (.cond (.t 8)
 (.seq
 (.ops [0, 4, 5, 11] [
 ox 11 .mv [.c (.int .i64 0)]])
 (.block 1
 (.loop [0, 4, 5, 11]
 (.seq
 (.ops [0, 4, 5, 11, 12] [
 ox 12 (.cmp .lss) [.t 11, .c (.int .i64 8)]])
 (.seq
 (.cond (.t 12)
 .skip
 (.exit 1))
 (.seq
 (.block 2
 (.seq
 (.ops [0, 4, 5, 6, 11] [
 ox 13 .mv [.t 11],
 ox 6 .mv [.t 13]])
 (.seq
 (.ops [0, 4, 5, 6, 7, 11] [
 ox 14 .mv [.t 0],
 ox 15 .mv [.t 6],
 ox 16 (.arith .add) [.t 15, .c (.int .i64 1)],
 ox 17 .nilCheck [.t 14],
 ox 18 (.fieldAddr 2112) [.t 17],
 ox 19 (.idxAddrArr 9 34) [.t 18, .t 16],
 ox 20 (.load true 34) [.t 19],
 ox 7 (.alloc ([.int .i64 0, .int .i64 0] ++ (List.replicate 32 (.int .u8 0)))) [],
 oy (.store 34) [.t 7, .t 20]])
 (.seq
 (.ops [0, 4, 5, 6, 7, 11, 23] [
 ox 21 (.fieldAddr 0) [.t 7],
 ox 22 (.load false 1) [.t 21],
 ox 23 (.eq false .int) [.t 22, .c (.int .i64 1)]])
 (.cond (.t 23)
 (.ops [0, 4, 5, 11] [
 ox 24 .mv [.t 6],
 ox 25 (.fieldAddr 1) [.t 7],
 ox 26 (.load true 33) [.t 25],
 ox 27 (.fieldAddr 0) [.t 5],
 ox 28 (.idxAddrArr 8 33) [.t 27, .t 24],
 oy (.store 33) [.t 28, .t 26]])
 .skip)))))
 (.ops [0, 4, 5, 11] [
 ox 29 (.arith .add) [.t 11, .c (.int .i64 1)],
 ox 11 .mv [.t 29]])))))))
 (.seq
 (.ops [0, 1, 4, 5, 30] [
 ox 31 .mv [.t 1],
 ox 32 (.call 54) [.t 31, .c (.int .i64 1), .c (.int .i64 8)],
 ox 30 .mv [.t 32]])
 (.cond (.t 30)
 (.drawn [4, 5] [
 od 33 (.fieldAddr 0) [.t 5] 0 1,
 od 34 (.sliceArr 8 33 false false false) [.t 33] 0 1,
 ox 35 .mv [.t 0],
 ox 36 .mv [.t 1],
 od 37 (.call 102) [.t 35, .t 36] 0 1,
 od 38 (.copy 33) [.t 34, .t 37] 1 2])
 .skip)))))
 (.seq
 (.ops [4] [
 ox 39 (.load true 264) [.t 5],
 oy (.store 264) [.t 4, .t 39]])
 .ret))))
def r67 : List ARes := [.cell 4 true 264]
theorem ok67 : FnOk Tryz.prog 67 c67 r67 :=
 ⟨Tryz.f67, _, Tryz.func67, by kernel_rfl, rfl, by kernel_rfl, by kernel_rfl⟩
def c68 : ACode :=
 (.seq
 (.ops [0, 1] [
 ox 4 .mv [.c (.int .i64 0)]])
 (.seq
 (.block 0
 (.seq
 (.ops [0, 1, 5] [
 ox 6 .mv [.t 0],
 ox 7 (.eq false .int) [.t 6, .c (.int .i64 4)],
 ox 8 .mv [.t 7],
 og 9 .mv [.t 1] 8 true,
 og 10 (.cmp .geq) [.t 9, .c (.int .i64 0)] 8 true,
 ox 11 .pick [.t 8, .t 10, .c (.bool false)],
 ox 12 .mv [.t 11],
 og 13 .mv [.t 1] 12 true,
 og 14 (.cmp .lss) [.t 13, .c (.int .i64 64)] 12 true,
 ox 15 .pick [.t 12, .t 14, .c (.bool false)],
 ox 5 .mv [.t 15]])
 (.cond (.t 5)
 (.seq
 (.ops [4] [
 ox 4 .mv [.c (.int .i64 1)]])
 .ret)
 (.seq
 (.ops [16] [
 ox 17 .mv [.t 0],
 ox 18 (.eq false .int) [.t 17, .c (.int .i64 5)],
 ox 19 .mv [.t 18],
 og 20 .mv [.t 1] 19 true,
 og 21 (.cmp .geq) [.t 20, .c (.int .i64 0)] 19 true,
 ox 22 .pick [.t 19, .t 21, .c (.bool false)],
 ox 23 .mv [.t 22],
 og 24 .mv [.t 1] 23 true,
 og 25 (.cmp .lss) [.t 24, .c (.int .i64 9)] 23 true,
 ox 26 .pick [.t 23, .t 25, .c (.bool false)],
 ox 16 .mv [.t 26]])
 (.cond (.t 16)
 (.seq
 (.ops [4] [
 ox 4 .mv [.c (.int .i64 3)]])
 .ret)
 .skip)))))
 (.seq
 (.ops [4] [
 ox 4 .mv [.c (.int .i64 0)]])
 .ret)))
def r68 : List ARes := [.tmp 4]
theorem ok68 : FnOk Tryz.prog 68 c68 r68 :=
 ⟨Tryz.f68, _, Tryz.func68, by kernel_rfl, rfl, by kernel_rfl, by kernel_rfl⟩
def c69 : ACode :=
 (.seq
 (.ops [0] [
 ox 2 .mv [.c (.int .i64 0)]])
 (.seq
 (.seq
 (.ops [0, 4] [
 ox 3 .mv [.t 0],
 ox 4 (.call 52) [.t 3, .c (.int .i64 0)]])
 (.cond (.t 4)
 (.seq
 (.ops [2] [
 ox 5 .mv [.t 0],
 ox 6 (.call 53) [.t 5, .c (.int .i64 0)],
 ox 2 .mv [.t 6]])
 .ret)
 .skip))
 (.seq
 (.ops [2] [
 ox 2 .mv [.c (.int .i64 0)]])
 .ret)))
def r69 : List ARes := [.tmp 2]
theorem ok69 : FnOk Tryz.prog 69 c69 r69 :=
 ⟨Tryz.f69, _, Tryz.func69, by kernel_rfl, rfl, by kernel_rfl, by kernel_rfl⟩
def c70 : ACode :=
 (.seq
 (.ops [1, 2, 3, 6] [
 ox 3 .box [.t 0],
 ox 6 (.alloc ([.int .i64 0] ++ (List.replicate 32 (.int .u8 0)))) [],
 ox 7 .mv [.c (.int .i64 0)]])
 (.seq
 (.drawn [1, 2, 3, 6, 8] [
 ox 11 (.load false 1) [.t 3],
 ox 12 .nilCheck [.t 11],
 ox 13 (.fieldAddr 2) [.t 12],
 ox 14 (.load true 3) [.t 13],
 ox 15 (.load false 1) [.t 3],
 ox 16 .nilCheck [.t 15],
 ox 17 (.fieldAddr 7) [.t 16],
 ox 18 (.load true 2) [.t 17],
 od 19 (.call 43) [.t 14, .t 18] 0 1,
 od 8 (.alloc [.int .i64 0]) [] 0 1,
 oe (.store 1) [.t 8, .t 19] 1 2])
 (.seq
 (.drawn [3, 6, 8, 9, 10] [
 ox 21 (.load false 1) [.t 3],
 ox 22 .nilCheck [.t 21],
 ox 23 (.fieldAddr 1) [.t 22],
 ox 24 (.load false 1) [.t 23],
 ox 25 .mv [.t 1],
 ox 26 (.load false 1) [.t 3],
 ox 27 .nilCheck [.t 26],
 ox 28 (.fieldAddr 6) [.t 27],
 ox 29 (.load false 1) [.t 28],
 ox 30 (.load false 1) [.t 3],
 ox 31 .nilCheck [.t 30],
 ox 32 (.fieldAddr 42) [.t 31],
 ox 33 (.load false 1) [.t 32],
 ox 34 (.load false 1) [.t 8],
 ox 35 .mv [.t 2],
 ox 36 (.build [.int .i64 0, .int .i64 0, .int .i64 0, .int .i64 0, .nils] [(0, 1), (1, 1), (2, 1), (3, 1), (4, 1)]) [.t 25, .t 29, .t 33, .t 34, .t 35],
 od 37 (.call 103) [.t 24, .t 36] 0 1,
 od 20 .mv [.t 37] 1 1,
 od 38 (.extract 0) [.t 20] 1 1,
 od 39 (.extract 1) [.t 20] 1 1,
 od 9 .mv [.t 38] 1 1,
 od 10 .mv [.t 39] 1 1])
 (.seq
 (.ops [3, 6, 8, 9, 10] [
 ox 40 .mv [.t 9],
 ox 41 .mv [.t 10],
 ox 42 (.mkFn (.func 104) 0) [.t 3, .t 8],
 ox 43 (.call 90) [.t 40, .t 41, .t 42],
 ox 10 .mv [.t 43]])
 (.seq
 (.seq
 (.ops [3, 6, 8, 9, 10, 45] [
 ox 44 .mv [.t 10],
 ox 45 (.eq true .int) [.t 44, .c (.int .i64 0)]])
 (.cond (.t 45)
 (.seq
 (.ops [6, 7] [
 ox 46 (.build ([.int .i64 0] ++ (List.replicate 32 (.int .u8 0))) []) [],
 ox 47 .mv [.t 10],
 oy (.store 33) [.t 6, .t 46],
 ox 7 .mv [.t 47]])
 .ret)
 .skip))
 (.seq
 (.ops [3, 6, 8, 9] [
 ox 48 (.load false 1) [.t 3],
 ox 49 .nilCheck [.t 48],
 ox 50 (.fieldAddr 42) [.t 49],
 ox 51 (.load false 1) [.t 50],
 ox 52 (.arith .add) [.t 51, .c (.int .i64 1)],
 ox 53 .nilCheck [.t 48],
 ox 54 (.fieldAddr 42) [.t 53],
 oy (.store 1) [.t 54, .t 52]])
 (.seq
 (.ops [3, 6, 8, 9] [
 ox 55 (.load false 1) [.t 3],
 ox 56 .nilCheck [.t 55],
 ox 57 (.fieldAddr 7) [.t 56],
 ox 58 (.fieldAddr 1) [.t 57],
 ox 59 (.load false 1) [.t 58],
 ox 60 (.arith .add) [.t 59, .c (.int .i64 1)],
 ox 61 .nilCheck [.t 55],
 ox 62 (.fieldAddr 7) [.t 61],
 ox 63 (.fieldAddr 1) [.t 62],
 oy (.store 1) [.t 63, .t 60]])
 (.seq
 (.drawn [6, 7] [
 od 64 (.load false 1) [.t 8] 0 1,
 ox 65 (.load false 1) [.t 3],
 ox 66 .nilCheck [.t 65],
 ox 67 (.fieldAddr 1) [.t 66],
 ox 68 (.load false 1) [.t 67],
 ox 69 .mv [.t 9],
 od 70 (.invoke "Sum") [.t 68, .t 69] 0 1,
 od 71 (.build ([.int .i64 0] ++ (List.replicate 32 (.int .u8 0))) [(0, 1), (1, 32)]) [.t 64, .t 70] 1 1,
 oe (.store 33) [.t 6, .t 71] 1 2,
 od 7 .mv [.c (.int .i64 0)] 2 2])
 .ret))))))))
def r70 : List ARes := [.cell 6 true 33, .tmp 7]
theorem ok70 : FnOk Tryz.prog 70 c70 r70 :=
 ⟨Tryz.f70, _, Tryz.func70, by kernel_rfl, rfl, by kernel_rfl, by kernel_rfl⟩
def c71 : ACode :=
 (.seq
 (.ops [1, 2, 3] [
 ox 3 .box [.t 0],
 ox 6 .mv [.c (.int .i64 0)]])
 (.seq
 (.seq
 (.ops [1, 2, 3, 8] [
 ox 7 .mv [.t 1],
 ox 8 (.eq true .int) [.t 7, .c (.int .i64 0)]])
 (.cond (.t 8)
 (.seq
 (.ops [6] [
 ox 9 .mv [.t 1],
 ox 6 .mv [.t 9]])
 .ret)
 .skip))
 (.seq
 (.ops [6] [
 ox 10 .mv [.t 2],
 ox 11 (.load true 33) [.t 3],
 ox 12 .callv [.t 10, .t 11],
 ox 6 .mv [.t 12]])
 .ret)))
def r71 : List ARes := [.tmp 6]
theorem ok71 : FnOk Tryz.prog 71 c71 r71 :=
 ⟨Tryz.f71, _, Tryz.func71, by kernel_rfl, rfl, by kernel_rfl, by kernel_rfl⟩
def c72 : ACode :=
 (.seq
 (.ops [1, 2, 3, 4, 5] [
 ox 5 .box [.t 0],
 ox 6 .mv [.c (.int .i64 0)]])
 (.seq
 (.ops [6] [
 ox 7 (.load false 1) [.t 1],
 ox 8 (.load false 1) [.t 2],
 ox 9 (.load false 1) [.t 3],
 ox 10 (.load false 1) [.t 4],
 ox 11 (.fieldAddr 1) [.t 5],
 ox 12 (.load true 32) [.t 11],
 ox 13 (.build ([.int .i64 0, .int .i64 0, .int .i64 0] ++ (List.replicate 32 (.int .u8 0))) [(0, 1), (1, 1), (2, 1), (3, 32)]) [.t 8, .t 9, .t 10, .t 12],
 ox 14 (.call 73) [.t 7, .t 13],
 ox 6 .mv [.t 14]])
 .ret))
def r72 : List ARes := [.tmp 6]
theorem ok72 : FnOk Tryz.prog 72 c72 r72 :=
 ⟨Tryz.f72, _, Tryz.func72, by kernel_rfl, rfl, by kernel_rfl, by kernel_rfl⟩
def c73 : ACode :=
 (.seq
 (.ops [0, 3] [
 ox 3 .box [.t 1],
 ox 4 .mv [.c (.int .i64 0)]])
 (.seq
 (.drawn [0] [
 od 5 .mv [.t 0] 0 1,
 ox 6 .mv [.t 0],
 ox 7 .nilCheck [.t 6],
 ox 8 (.fieldAddr 41) [.t 7],
 ox 9 (.load false 1) [.t 8],
 ox 10 (.load true 35) [.t 3],
 ox 11 (.mkSl 1 ([.int .i64 0, .int .i64 0, .int .i64 0] ++ (List.replicate 32 (.int .u8 0))) [(0, 35)]) [.t 10],
 od 12 (.append 35 56) [.t 9, .t 11] 0 1,
 od 13 .nilCheck [.t 5] 1 1,
 od 14 (.fieldAddr 41) [.t 13] 1 1,
 oe (.store 1) [.t 14, .t 12] 1 2])
 (.seq
 (.seq
 (.ops [0, 20] [
 ox 15 .mv [.t 0],
 ox 16 .nilCheck [.t 15],
 ox 17 (.fieldAddr 41) [.t 16],
 ox 18 (.load false 1) [.t 17],
 ox 19 .len [.t 18],
 ox 20 (.cmp .lss) [.t 19, .c (.int .i64 16)]])
 (.cond (.t 20)
 (.seq
 (.ops [4] [
 ox 4 .mv [.c (.int .i64 0)]])
 .ret)
 .skip))
 (.seq
 (.ops [4] [
 ox 21 .mv [.t 0],
 ox 22 (.call 53) [.t 21, .c (.int .i64 0)],
 ox 4 .mv [.t 22]])
 .ret))))
def r73 : List ARes := [.tmp 4]
theorem ok73 : FnOk Tryz.prog 73 c73 r73 :=
 ⟨Tryz.f73, _, Tryz.func73, by kernel_rfl, rfl, by kernel_rfl, by kernel_rfl⟩
def c74 : ACode :=
 (.seq
 (.ops [0, 1] [
 ox 4 .mv [.c .nils]])
 (.seq
 (.ops [4] [
 ox 5 .mv [.t 0],
 ox 6 .len [.t 5],
 ox 7 .mv [.t 1],
 ox 8 .len [.t 7],
 ox 9 (.arith .add) [.t 6, .t 8],
 ox 10 (.mkSlice [.int .u8 0] 1) [.c (.int .i64 0), .t 9],
 ox 11 .mv [.t 0],
 ox 12 (.append 1 1) [.t 10, .t 11],
 ox 13 .mv [.t 1],
 ox 14 (.append 1 1) [.t 12, .t 13],
 ox 4 .mv [.t 14]])
 .ret))
def r74 : List ARes := [.tmp 4]
theorem ok74 : FnOk Tryz.prog 74 c74 r74 :=
 ⟨Tryz.f74, _, Tryz.func74, by kernel_rfl, rfl, by kernel_rfl, by kernel_rfl⟩
def c75 : ACode :=
 (.seq
 (.ops [0] [
 ox 2 .mv [.c .nils]])
 (.seq
 (.ops [3] [
 ox 4 .mv [.t 0],
 ox 5 (.conv .u64) [.t 4],
 ox 3 .mv [.t 5]])
 (.seq
 (.ops [2] [
 ox 6 .mv [.t 3],
 ox 7 (.shift .shr) [.t 6, .c (.int .u64 56)],
 ox 8 (.conv .u8) [.t 7],
 ox 9 .mv [.t 3],
 ox 10 (.shift .shr) [.t 9, .c (.int .u64 48)],
 ox 11 (.conv .u8) [.t 10],
 ox 12 .mv [.t 3],
 ox 13 (.shift .shr) [.t 12, .c (.int .u64 40)],
 ox 14 (.conv .u8) [.t 13],
 ox 15 .mv [.t 3],
 ox 16 (.shift .shr) [.t 15, .c (.int .u64 32)],
 ox 17 (.conv .u8) [.t 16],
 ox 18 .mv [.t 3],
 ox 19 (.shift .shr) [.t 18, .c (.int .u64 24)],
 ox 20 (.conv .u8) [.t 19],
 ox 21 .mv [.t 3],
 ox 22 (.shift .shr) [.t 21, .c (.int .u64 16)],
 ox 23 (.conv .u8) [.t 22],
 ox 24 .mv [.t 3],
 ox 25 (.shift .shr) [.t 24, .c (.int .u64 8)],
 ox 26 (.conv .u8) [.t 25],
 ox 27 .mv [.t 3],
 ox 28 (.conv .u8) [.t 27],
 ox 29 (.mkSl 8 [.int .u8 0, .int .u8 0, .int .u8 0, .int .u8 0, .int .u8 0, .int .u8 0, .int .u8 0, .int .u8 0] [(0, 1), (1, 1), (2, 1), (3, 1), (4, 1), (5, 1), (6, 1), (7, 1)]) [.t 8, .t 11, .t 14, .t 17, .t 20, .t 23, .t 26, .t 28],
 ox 2 .mv [.t 29]])
 .ret)))
def r75 : List ARes := [.tmp 2]
theorem ok75 : FnOk Tryz.prog 75 c75 r75 :=
 ⟨Tryz.f75, _, Tryz.func75, by kernel_rfl, rfl, by kernel_rfl, by kernel_rfl⟩
def c76 : ACode :=
 (.seq
 (.ops [0] [
 ox 2 .mv [.c (.int .i64 0)],
 ox 3 .mv [.c (.int .i64 0)]])
 (.seq
 (.seq
 (.ops [0, 9] [
 ox 4 .mv [.t 0],
 ox 5 (.cmp .lss) [.t 4, .c (.int .i64 0)],
 ox 6 .mv [.t 5],
 og 7 .mv [.t 0] 6 false,
 og 8 (.cmp .geq) [.t 7, .c (.int .i64 64)] 6 false,
 ox 9 .pick [.t 6, .c (.bool true), .t 8]])
 (.cond (.t 9)
 (.seq
 (.ops [2, 3] [
 ox 2 .mv [.c (.int .i64 0)],
 ox 3 .mv [.c (.int .i64 0)]])
 .ret)
 .skip))
 (.seq
 (.ops [2, 3] [
 ox 10 .mv [.t 0],
 ox 11 (.arith .quo) [.t 10, .c (.int .i64 8)],
 ox 12 (.arith .add) [.t 11, .c (.int .i64 1)],
 ox 13 .mv [.t 0],
 ox 14 (.arith .rem) [.t 13, .c (.int .i64 8)],
 ox 2 .mv [.t 12],
 ox 3 .mv [.t 14]])
 .ret)))
def r76 : List ARes := [.tmp 2, .tmp 3]
theorem ok76 : FnOk Tryz.prog 76 c76 r76 :=
 ⟨Tryz.f76, _, Tryz.func76, by kernel_rfl, rfl, by kernel_rfl, by kernel_rfl⟩
def c77 : ACode :=
 (.seq
 (.ops [0, 1] [
 ox 4 .mv [.c .nils]])
 (.seq
 (.ops [0, 1, 5] [
 ox 5 .mv [.c .nils]])
 (.seq
 (.seq
 (.ops [0, 5, 9, 10, 11] [
 ox 9 .mv [.t 1],
 ox 10 .len [.t 9],
 ox 11 .mv [.c (.int .i64 0)]])
 (.block 0
 (.loop [0, 5, 9, 10, 11]
 (.seq
 (.ops [0, 5, 9, 10, 11, 12] [
 ox 12 (.cmp .lss) [.t 11, .t 10]])
 (.seq
 (.cond (.t 12)
 .skip
 (.exit 0))
 (.seq
 (.block 1
 (.seq
 (.ops [0, 5, 7, 9, 10, 11] [
 ox 13 (.idxAddr 1) [.t 9, .t 11],
 ox 14 (.load false 1) [.t 13],
 ox 7 .mv [.t 14]])
 (.seq
 (.seq
 (.ops [0, 5, 7, 8, 9, 10, 11] [
 ox 15 .mv [.t 0],
 ox 16 .mv [.t 7],
 ox 17 .nilCheck [.t 15],
 ox 18 (.fieldAddr 2112) [.t 17],
 ox 19 (.idxAddrArr 9 34) [.t 18, .t 16],
 ox 20 (.load true 34) [.t 19],
 ox 8 (.alloc ([.int .i64 0, .int .i64 0] ++ (List.replicate 32 (.int .u8 0)))) [],
 oy (.store 34) [.t 8, .t 20]])
 (.seq
 (.ops [0, 5, 7, 8, 9, 10, 11, 29] [
 ox 21 (.fieldAddr 0) [.t 8],
 ox 22 (.load false 1) [.t 21],
 ox 23 (.eq false .int) [.t 22, .c (.int .i64 1)],
 ox 24 .mv [.t 23],
 og 25 (.fieldAddr 1) [.t 8] 24 true,
 og 26 (.fieldAddr 0) [.t 25] 24 true,
 og 27 (.load false 1) [.t 26] 24 true,
 og 28 (.cmp .gtr) [.t 27, .c (.int .i64 0)] 24 true,
 ox 29 .pick [.t 24, .t 28, .c (.bool false)]])
 (.cond (.t 29)
 (.ops [0, 5, 7, 9, 10, 11] [
 ox 30 .mv [.t 5],
 ox 31 (.fieldAddr 1) [.t 8],
 ox 32 (.load true 33) [.t 31],
 ox 33 (.mkSl 1 ([.int .i64 0] ++ (List.replicate 32 (.int .u8 0))) [(0, 33)]) [.t 32],
 ox 34 (.append 33 40) [.t 30, .t 33],
 ox 5 .mv [.t 34]])
 .skip)))
 (.ops [0, 5, 9, 10, 11] [
 ox 35 .mv [.t 0],
 ox 36 .mv [.t 7],
 ox 37 (.build ([.int .i64 0, .int .i64 0] ++ (List.replicate 32 (.int .u8 0))) [(0, 1)]) [.c (.int .i64 2)],
 ox 38 .nilCheck [.t 35],
 ox 39 (.fieldAddr 2112) [.t 38],
 ox 40 (.idxAddrArr 9 34) [.t 39, .t 36],
 oy (.store 34) [.t 40, .t 37]]))))
 (.ops [0, 5, 9, 10, 11] [
 ox 41 (.arith .add) [.t 11, .c (.int .i64 1)],
 ox 11 .mv [.t 41]])))))))
 (.seq
 (.ops [4] [
 ox 42 .mv [.t 5],
 ox 4 .mv [.t 42]])
 .ret))))
def r77 : List ARes := [.tmp 4]
theorem ok77 : FnOk Tryz.prog 77 c77 r77 :=
 ⟨Tryz.f77, _, Tryz.func77, by kernel_rfl, rfl, by kernel_rfl, by kernel_rfl⟩
def c78 : ACode :=
 (.seq
 (.ops [0, 1, 2, 3] [
 ox 8 .mv [.c (.int .i64 0)]])
 (.seq
 (.seq
 (.ops [0, 1, 2, 3, 38] [
 ox 9 .mv [.t 0],
 ox 10 .mv [.t 1],
 ox 11 (.call 106) [.t 9, .t 10],
 ox 12 .not [.t 11],
 ox 13 .mv [.t 12],
 og 14 .mv [.t 2] 13 false,
 og 15 .mv [.t 0] 13 false,
 og 16 .nilCheck [.t 15] 13 false,
 og 17 (.fieldAddr 0) [.t 16] 13 false,
 og 18 (.load false 1) [.t 17] 13 false,
 og 19 .mv [.t 1] 13 false,
 og 20 (.idxAddr 3) [.t 18, .t 19] 13 false,
 og 21 (.fieldAddr 1) [.t 20] 13 false,
 og 22 (.load false 1) [.t 21] 13 false,
 og 23 .neg [.t 22] 13 false,
 og 24 (.cmp .lss) [.t 14, .t 23] 13 false,
 ox 25 .pick [.t 13, .c (.bool true), .t 24],
 ox 26 .mv [.t 25],
 og 27 .mv [.t 2] 26 false,
 og 28 .mv [.t 0] 26 false,
 og 29 .nilCheck [.t 28] 26 false,
 og 30 (.fieldAddr 0) [.t 29] 26 false,
 og 31 (.load false 1) [.t 30] 26 false,
 og 32 .mv [.t 1] 26 false,
 og 33 (.idxAddr 3) [.t 31, .t 32] 26 false,
 og 34 (.fieldAddr 1) [.t 33] 26 false,
 og 35 (.load false 1) [.t 34] 26 false,
 og 36 (.arith .sub) [.c (.int .i64 64), .t 35] 26 false,
 og 37 (.cmp .gtr) [.t 27, .t 36] 26 false,
 ox 38 .pick [.t 26, .c (.bool true), .t 37]])
 (.cond (.t 38)
 (.seq
 (.ops [8] [
 ox 8 .mv [.c (.int .i64 7)]])
 .ret)
 .skip))
 (.seq
 (.ops [0, 1, 2, 3] [
 ox 39 .mv [.t 0],
 ox 40 .nilCheck [.t 39],
 ox 41 (.fieldAddr 0) [.t 40],
 ox 42 (.load false 1) [.t 41],
 ox 43 .mv [.t 1],
 ox 44 (.idxAddr 3) [.t 42, .t 43],
 ox 45 (.fieldAddr 1) [.t 44],
 ox 46 (.load false 1) [.t 45],
 ox 47 .mv [.t 2],
 ox 48 (.arith .add) [.t 46, .t 47],
 ox 49 (.idxAddr 3) [.t 42, .t 43],
 ox 50 (.fieldAddr 1) [.t 49],
 oy (.store 1) [.t 50, .t 48]])
 (.seq
 (.seq
 (.ops [0, 1, 3, 52] [
 ox 51 .mv [.t 2],
 ox 52 (.cmp .gtr) [.t 51, .c (.int .i64 0)]])
 (.cond (.t 52)
 (.drawn [] [
 od 53 .mv [.t 0] 0 1,
 od 54 .nilCheck [.t 53] 0 1,
 od 55 (.fieldAddr 0) [.t 54] 0 1,
 od 56 (.load false 1) [.t 55] 0 1,
 od 57 .mv [.t 1] 0 1,
 ox 58 .mv [.t 3],
 od 59 (.call 61) [.t 58, .c (.int .i64 1099511627776)] 0 1,
 od 60 (.idxAddr 3) [.t 56, .t 57] 1 1,
 od 61 (.fieldAddr 2) [.t 60] 1 1,
 oe (.store 1) [.t 61, .t 59] 1 2])
 .skip))
 (.seq
 (.ops [8] [
 ox 8 .mv [.c (.int .i64 0)]])
 .ret)))))
def r78 : List ARes := [.tmp 8]
theorem ok78 : FnOk Tryz.prog 78 c78 r78 :=
 ⟨Tryz.f78, _, Tryz.func78, by kernel_rfl, rfl, by kernel_rfl, by kernel_rfl⟩
def c79 : ACode :=
 (.seq
 (.ops [0] [
 ox 2 .mv [.c (.int .i64 0)]])
 (.seq
 (.ops [2] [
 ox 3 .mv [.t 0],
 ox 4 .nilCheck [.t 3],
 ox 5 (.fieldAddr 42) [.t 4],
 ox 6 (.load false 1) [.t 5],
 ox 2 .mv [.t 6]])
 .ret))
def r79 : List ARes := [.tmp 2]
theorem ok79 : FnOk Tryz.prog 79 c79 r79 :=
 ⟨Tryz.f79, _, Tryz.func79, by kernel_rfl, rfl, by kernel_rfl, by kernel_rfl⟩
def c80 : ACode :=
 (.seq
 (.ops [0] [
 ox 2 .mv [.c .nilp]])
 (.seq
 (.ops [2] [
 ox 3 .mv [.t 0],
 ox 4 (.call 74) [.t 3, .c .nils],
 ox 5 (.build [.nils, .bool false] [(0, 1)]) [.t 4],
 ox 6 .box [.t 5],
 ox 2 .mv [.t 6]])
 .ret))
def r80 : List ARes := [.tmp 2]
theorem ok80 : FnOk Tryz.prog 80 c80 r80 :=
 ⟨Tryz.f80, _, Tryz.func80, by kernel_rfl, rfl, by kernel_rfl, by kernel_rfl⟩
def c81 : ACode :=
 (.seq
 (.ops [0] [
 ox 2 .mv [.c (.int .i64 0)]])
 (.seq
 (.ops [2] [
 ox 3 .mv [.t 0],
 ox 4 (.call 107) [.t 3, .c (.int .i64 8), .c (.fn (.func 108) [] [])],
 ox 2 .mv [.t 4]])
 .ret))
def r81 : List ARes := [.tmp 2]
theorem ok81 : FnOk Tryz.prog 81 c81 r81 :=
 ⟨Tryz.f81, _, Tryz.func81, by kernel_rfl, rfl, by kernel_rfl, by kernel_rfl⟩
def c82 : ACode :=
 (.seq
 (.ops [0, 1, 2] [
 ox 6 .mv [.c (.bool false)]])
 (.seq
 (.ops [6] [
 ox 7 .mv [.t 0],
 ox 8 .mv [.t 1],
 ox 9 .mv [.t 2],
 ox 10 .min [.t 7, .t 8, .t 9],
 ox 11 (.cmp .geq) [.t 10, .c (.int .i64 0)],
 ox 12 .mv [.t 11],
 og 13 .mv [.t 0] 12 true,
 og 14 .mv [.t 1] 12 true,
 og 15 .max [.t 13, .t 14] 12 true,
 og 16 (.cmp .leq) [.t 15, .c (.int .i64 1099511627776)] 12 true,
 ox 17 .pick [.t 12, .t 16, .c (.bool false)],
 ox 18 .mv [.t 17],
 og 19 .mv [.t 2] 18 true,
 og 20 (.cmp .lss) [.t 19, .c (.int .i64 4096)] 18 true,
 ox 21 .pick [.t 18, .t 20, .c (.bool false)],
 ox 6 .mv [.t 21]])
 .ret))
def r82 : List ARes := [.tmp 6]
theorem ok82 : FnOk Tryz.prog 82 c82 r82 :=
 ⟨Tryz.f82, _, Tryz.func82, by kernel_rfl, rfl, by kernel_rfl, by kernel_rfl⟩
def c83 : ACode :=
 (.seq
 (.ops [0, 1] [
 ox 4 .mv [.c .nils]])
 (.seq
 (.ops [4] [
 ox 5 .mv [.t 0],
 ox 6 (.conv .u8) [.t 5],
 ox 7 (.mkSl 1 [.int .u8 0] [(0, 1)]) [.t 6],
 ox 8 .mv [.t 1],
 ox 9 (.call 37) [.t 7, .t 8],
 ox 4 .mv [.t 9]])
 .ret))
def r83 : List ARes := [.tmp 4]
theorem ok83 : FnOk Tryz.prog 83 c83 r83 :=
 ⟨Tryz.f83, _, Tryz.func83, by kernel_rfl, rfl, by kernel_rfl, by kernel_rfl⟩
def c84 : ACode :=
 (.seq
 (.ops [0] [
 ox 2 .mv [.c (.int .i64 0)]])
 (.seq
 (.seq
 (.ops [0, 6] [
 ox 3 .mv [.t 0],
 ox 4 .nilCheck [.t 3],
 ox 5 (.fieldAddr 1) [.t 4],
 ox 6 (.load false 1) [.t 5]])
 (.cond (.t 6)
 (.seq
 (.ops [2] [
 ox 2 .mv [.c (.int .i64 0)]])
 .ret)
 .skip))
 (.seq
 (.ops [2] [
 ox 7 .mv [.t 0],
 ox 8 .nilCheck [.t 7],
 ox 9 (.fieldAddr 0) [.t 8],
 ox 10 (.load false 1) [.t 9],
 ox 11 .len [.t 10],
 ox 2 .mv [.t 11]])
 .ret)))
def r84 : List ARes := [.tmp 2]
theorem ok84 : FnOk Tryz.prog 84 c84 r84 :=
 ⟨Tryz.f84, _, Tryz.func84, by kernel_rfl, rfl, by kernel_rfl, by kernel_rfl⟩
def c85 : ACode :=
 (.seq
 (.ops [0, 2] [
 ox 2 (.alloc ([.int .i64 0] ++ (List.replicate 32 (.int .u8 0)))) []])
 (.seq
 (.ops [2] [
 ox 3 .mv [.t 0],
 ox 4 (.call 109) [.t 3, .c (.int .i64 40), .c (.fn (.func 110) [] [])],
 oy (.store 33) [.t 2, .t 4]])
 .ret))
def r85 : List ARes := [.cell 2 true 33]
theorem ok85 : FnOk Tryz.prog 85 c85 r85 :=
 ⟨Tryz.f85, _, Tryz.func85, by kernel_rfl, rfl, by kernel_rfl, by kernel_rfl⟩
def c86 : ACode :=
 (.seq
 (.ops [0] [
 ox 2 .mv [.c (.int .i64 0)]])
 (.seq
 (.block 0
 (.seq
 (.ops [0, 3] [
 ox 4 .mv [.t 0],
 ox 5 .nilCheck [.t 4],
 ox 6 (.fieldAddr 1) [.t 5],
 ox 7 (.load false 1) [.t 6],
 ox 3 .mv [.t 7]])
 (.cond (.t 3)
 (.seq
 (.ops [2] [
 ox 2 .mv [.c (.int .i64 4)]])
 .ret)
 (.seq
 (.ops [8] [
 ox 9 .mv [.t 0],
 ox 10 .nilCheck [.t 9],
 ox 11 (.fieldAddr 0) [.t 10],
 ox 12 (.load false 1) [.t 11],
 ox 13 .len [.t 12],
 ox 14 (.cmp .gtr) [.t 13, .c (.int .i64 0)],
 ox 8 .mv [.t 14]])
 (.cond (.t 8)
 (.seq
 (.ops [2] [
 ox 2 .mv [.c (.int .i64 3)]])
 .ret)
 .skip)))))
 (.seq
 (.ops [2] [
 ox 2 .mv [.c (.int .i64 0)]])
 .ret)))
def r86 : List ARes := [.tmp 2]
theorem ok86 : FnOk Tryz.prog 86 c86 r86 :=
 ⟨Tryz.f86, _, Tryz.func86, by kernel_rfl, rfl, by kernel_rfl, by kernel_rfl⟩
def c87 : ACode :=
 (.seq
 (.ops [0, 3] [
 ox 3 .box [.t 1],
 ox 4 .mv [.c (.bool false)]])
 (.seq
 (.seq
 (.ops [0, 8, 9] [
 ox 7 (.fieldAddr 0) [.t 3],
 ox 8 (.load true 264) [.t 7],
 ox 9 .mv [.c (.int .i64 0)]])
 (.block 0
 (.loop [0, 8, 9]
 (.seq
 (.ops [0, 8, 9, 10] [
 ox 10 (.cmp .lss) [.t 9, .c (.int .i64 8)]])
 (.seq
 (.cond (.t 10)
 .skip
 (.exit 0))
 (.seq
 (.block 1
 (.seq
 (.ops [0, 6, 8, 9] [
 ox 11 (.idxArr 8 33 true) [.t 8, .t 9],
 ox 6 (.alloc ([.int .i64 0] ++ (List.replicate 32 (.int .u8 0)))) [],
 oy (.store 33) [.t 6, .t 11]])
 (.seq
 (.ops [0, 8, 9, 24] [
 ox 12 (.load true 33) [.t 6],
 ox 13 (.build ([.int .i64 0] ++ (List.replicate 32 (.int .u8 0))) []) [],
 ox 14 (.eqAgg true (List.replicate 33 .i)) [.t 12, .t 13],
 ox 15 .mv [.t 14],
 og 16 (.fieldAddr 0) [.t 6] 15 true,
 og 17 (.load false 1) [.t 16] 15 true,
 og 18 (.cmp .lss) [.t 17, .c (.int .i64 3)] 15 true,
 og 19 .mv [.t 18] 15 true,
 og 20 (.fieldAddr 0) [.t 6] 19 false,
 og 21 (.load false 1) [.t 20] 19 false,
 og 22 (.cmp .geq) [.t 21, .c (.int .i64 4096)] 19 false,
 og 23 .pick [.t 19, .c (.bool true), .t 22] 15 true,
 ox 24 .pick [.t 15, .t 23, .c (.bool false)]])
 (.cond (.t 24)
 (.seq
 (.ops [4] [
 ox 4 .mv [.c (.bool false)]])
 .ret)
 .skip))))
 (.ops [0, 8, 9] [
 ox 25 (.arith .add) [.t 9, .c (.int .i64 1)],
 ox 9 .mv [.t 25]])))))))
 (.seq
 (.ops [4] [
 ox 26 .mv [.t 0],
 ox 27 (.cmp .geq) [.t 26, .c (.int .i64 0)],
 ox 28 .mv [.t 27],
 og 29 .mv [.t 0] 28 true,
 og 30 (.cmp .lss) [.t 29, .c (.int .i64 9)] 28 true,
 ox 31 .pick [.t 28, .t 30, .c (.bool false)],
 ox 4 .mv [.t 31]])
 .ret)))
def r87 : List ARes := [.tmp 4]
theorem ok87 : FnOk Tryz.prog 87 c87 r87 :=
 ⟨Tryz.f87, _, Tryz.func87, by kernel_rfl, rfl, by kernel_rfl, by kernel_rfl⟩
def c88 : ACode :=
 (.seq
 (.ops [0, 1] [
 ox 4 .mv [.c (.int .i64 0)]])
 (.seq
 (.ops [0, 1, 5] [
 ox 5 .mv [.c (.int .i64 0)]])
 (.seq
 (.ops [0, 5, 6] [
 ox 9 .mv [.t 1],
 ox 10 (.mkFn (.func 98) 1) [.t 9],
 ox 6 .mv [.t 10]])
 (.seq
 (.seq
 (.ops [5, 6, 14, 15, 16] [
 ox 11 .mv [.t 0],
 ox 12 .nilCheck [.t 11],
 ox 13 (.fieldAddr 0) [.t 12],
 ox 14 (.load false 1) [.t 13],
 ox 15 .len [.t 14],
 ox 16 .mv [.c (.int .i64 0)]])
 (.block 0
 (.loop [5, 6, 14, 15, 16]
 (.seq
 (.ops [5, 6, 14, 15, 16, 17] [
 ox 17 (.cmp .lss) [.t 16, .t 15]])
 (.seq
 (.cond (.t 17)
 .skip
 (.exit 0))
 (.seq
 (.block 1
 (.seq
 (.ops [5, 6, 8, 14, 15, 16] [
 ox 18 (.idxAddr 3) [.t 14, .t 16],
 ox 19 (.load true 3) [.t 18],
 ox 8 (.alloc [.int .i64 0, .int .i64 0, .int .i64 0]) [],
 oy (.store 3) [.t 8, .t 19]])
 (.seq
 (.ops [5, 6, 14, 15, 16, 22] [
 ox 20 .mv [.t 6],
 ox 21 (.load true 3) [.t 8],
 ox 22 .callv [.t 20, .t 21]])
 (.cond (.t 22)
 (.ops [5, 6, 14, 15, 16] [
 ox 23 .mv [.t 5],
 ox 24 (.arith .add) [.t 23, .c (.int .i64 1)],
 ox 5 .mv [.t 24]])
 .skip))))
 (.ops [5, 6, 14, 15, 16] [
 ox 25 (.arith .add) [.t 16, .c (.int .i64 1)],
 ox 16 .mv [.t 25]])))))))
 (.seq
 (.ops [4] [
 ox 26 .mv [.t 5],
 ox 4 .mv [.t 26]])
 .ret)))))
def r88 : List ARes := [.tmp 4]
theorem ok88 : FnOk Tryz.prog 88 c88 r88 :=
 ⟨Tryz.f88, _, Tryz.func88, by kernel_rfl, rfl, by kernel_rfl, by kernel_rfl⟩
def c89 : ACode :=
 (.seq
 (.ops [1] [
 ox 1 .box [.t 0],
 ox 2 .mv [.c .nils],
 ox 3 .mv [.c (.int .i64 0)]])
 (.seq
 (.seq
 (.ops [1, 4] [
 ox 8 (.load true 35) [.t 1],
 ox 9 (.call 111) [.t 8],
 ox 4 .mv [.t 9]])
 (.seq
 (.ops [1, 4, 11] [
 ox 10 .mv [.t 4],
 ox 11 (.eq true .int) [.t 10, .c (.int .i64 0)]])
 (.cond (.t 11)
 (.seq
 (.ops [2, 3] [
 ox 12 .mv [.t 4],
 ox 2 .mv [.c .nils],
 ox 3 .mv [.t 12]])
 .ret)
 .skip)))
 (.seq
 (.drawn [1, 5] [
 ox 13 (.fieldAddr 0) [.t 1],
 ox 14 (.load false 1) [.t 13],
 od 15 (.call 37) [.c .nils, .t 14] 0 1,
 od 16 (.fieldAddr 1) [.t 1] 0 1,
 od 17 (.load true 32) [.t 16] 0 1,
 od 18 (.call 112) [.t 15, .t 17] 1 2,
 od 19 (.fieldAddr 33) [.t 1] 0 2,
 od 20 (.load false 1) [.t 19] 0 2,
 od 21 (.call 37) [.t 18, .t 20] 2 3,
 od 22 (.fieldAddr 34) [.t 1] 0 3,
 od 23 (.load false 1) [.t 22] 0 3,
 od 24 .len [.t 23] 0 3,
 od 25 (.call 37) [.t 21, .t 24] 3 4,
 od 5 .mv [.t 25] 4 4])
 (.seq
 (.seq
 (.ops [5, 27, 28, 29] [
 ox 26 (.fieldAddr 34) [.t 1],
 ox 27 (.load false 1) [.t 26],
 ox 28 .len [.t 27],
 ox 29 .mv [.c (.int .i64 0)]])
 (.block 0
 (.loop [5, 27, 28, 29]
 (.seq
 (.ops [5, 27, 28, 29, 30] [
 ox 30 (.cmp .lss) [.t 29, .t 28]])
 (.seq
 (.cond (.t 30)
 .skip
 (.exit 0))
 (.seq
 (.block 1
 (.seq
 (.ops [5, 7, 27, 28, 29] [
 ox 31 (.idxAddr 35) [.t 27, .t 29],
 ox 32 (.load true 35) [.t 31],
 ox 7 (.alloc ([.int .i64 0, .int .i64 0, .int .i64 0] ++ (List.replicate 32 (.int .u8 0)))) [],
 oy (.store 35) [.t 7, .t 32]])
 (.drawn [5, 27, 28, 29] [
 ox 33 .mv [.t 5],
 ox 34 (.fieldAddr 0) [.t 7],
 ox 35 (.load false 1) [.t 34],
 od 36 (.call 37) [.t 33, .t 35] 0 1,
 od 37 (.fieldAddr 1) [.t 7] 0 1,
 od 38 (.load false 1) [.t 37] 0 1,
 od 39 (.call 37) [.t 36, .t 38] 1 2,
 od 40 (.fieldAddr 2) [.t 7] 0 2,
 od 41 (.load false 1) [.t 40] 0 2,
 od 42 (.call 37) [.t 39, .t 41] 2 3,
 od 43 (.fieldAddr 3) [.t 7] 0 3,
 od 44 (.load true 32) [.t 43] 0 3,
 od 45 (.call 112) [.t 42, .t 44] 3 4,
 od 5 .mv [.t 45] 4 4])))
 (.ops [5, 27, 28, 29] [
 ox 46 (.arith .add) [.t 29, .c (.int .i64 1)],
 ox 29 .mv [.t 46]])))))))
 (.seq
 (.ops [2, 3] [
 ox 47 .mv [.t 5],
 ox 2 .mv [.t 47],
 ox 3 .mv [.c (.int .i64 0)]])
 .ret)))))
def r89 : List ARes := [.tmp 2, .tmp 3]
theorem ok89 : FnOk Tryz.prog 89 c89 r89 :=
 ⟨Tryz.f89, _, Tryz.func89, by kernel_rfl, rfl, by kernel_rfl, by kernel_rfl⟩
def c90 : ACode :=
 (.seq
 (.ops [0, 1, 2] [
 ox 6 .mv [.c (.int .i64 0)]])
 (.seq
 (.seq
 (.ops [0, 1, 2, 8] [
 ox 7 .mv [.t 1],
 ox 8 (.eq true .int) [.t 7, .c (.int .i64 0)]])
 (.cond (.t 8)
 (.seq
 (.ops [6] [
 ox 9 .mv [.t 1],
 ox 6 .mv [.t 9]])
 .ret)
 .skip))
 (.seq
 (.ops [6] [
 ox 10 .mv [.t 2],
 ox 11 .mv [.t 0],
 ox 12 .callv [.t 10, .t 11],
 ox 6 .mv [.t 12]])
 .ret)))
def r90 : List ARes := [.tmp 6]
theorem ok90 : FnOk Tryz.prog 90 c90 r90 :=
 ⟨Tryz.f90, _, Tryz.func90, by kernel_rfl, rfl, by kernel_rfl, by kernel_rfl⟩
def c91 : ACode :=
 (.seq
 (.ops [0, 1, 2] [
 ox 4 .mv [.c (.int .i64 0)]])
 (.seq
 (.ops [1, 2, 5, 6] [
 ox 8 (.load false 1) [.t 1],
 ox 9 .mv [.t 0],
 ox 10 (.call 70) [.t 8, .c (.int .i64 3), .t 9],
 ox 7 .mv [.t 10],
 ox 11 (.extract 0) [.t 7],
 ox 12 (.extract 1) [.t 7],
 ox 5 (.alloc ([.int .i64 0] ++ (List.replicate 32 (.int .u8 0)))) [],
 oy (.store 33) [.t 5, .t 11],
 ox 6 .mv [.t 12]])
 (.seq
 (.ops [4] [
 ox 13 (.load true 33) [.t 5],
 ox 14 .mv [.t 6],
 ox 15 (.mkFn (.func 92) 0) [.t 1, .t 2],
 ox 16 (.call 71) [.t 13, .t 14, .t 15],
 ox 4 .mv [.t 16]])
 .ret)))
def r91 : List ARes := [.tmp 4]
theorem ok91 : FnOk Tryz.prog 91 c91 r91 :=
 ⟨Tryz.f91, _, Tryz.func91, by kernel_rfl, rfl, by kernel_rfl, by kernel_rfl⟩
def c92 : ACode :=
 (.seq
 (.ops [1, 2, 3] [
 ox 3 .box [.t 0],
 ox 4 .mv [.c (.int .i64 0)]])
 (.seq
 (.drawn [1, 2] [
 ox 5 (.load false 1) [.t 1],
 od 6 (.load false 1) [.t 1] 0 1,
 ox 7 (.fieldAddr 1) [.t 3],
 ox 8 (.load true 32) [.t 7],
 ox 9 .nilCheck [.t 5],
 ox 10 (.fieldAddr 9) [.t 9],
 oe (.store 32) [.t 10, .t 8] 0 1,
 od 11 .nilCheck [.t 6] 1 1,
 od 12 (.fieldAddr 41) [.t 11] 1 1,
 oe (.store 1) [.t 12, .c .nils] 1 2])
 (.seq
 (.seq
 (.ops [1, 2, 14] [
 ox 13 (.load false 1) [.t 2],
 ox 14 (.cmp .geq) [.t 13, .c (.int .i64 0)]])
 (.cond (.t 14)
 (.ops [] [
 ox 15 (.load false 1) [.t 1],
 ox 16 (.load false 1) [.t 2],
 ox 17 (.build [.int .i64 0, .int .i64 0] [(0, 1)]) [.t 16],
 ox 18 .nilCheck [.t 15],
 ox 19 (.fieldAddr 7) [.t 18],
 oy (.store 2) [.t 19, .t 17]])
 .skip))
 (.seq
 (.ops [4] [
 ox 4 .mv [.c (.int .i64 0)]])
 .ret))))
def r92 : List ARes := [.tmp 4]
theorem ok92 : FnOk Tryz.prog 92 c92 r92 :=
 ⟨Tryz.f92, _, Tryz.func92, by kernel_rfl, rfl, by kernel_rfl, by kernel_rfl⟩
def c95 : ACode :=
 (.seq
 (.ops [1, 2] [
 ox 2 .box [.t 0],
 ox 4 .mv [.c (.int .i64 0)]])
 (.seq
 (.ops [4] [
 ox 5 .mv [.t 1],
 ox 6 (.arith .mul) [.t 5, .c (.int .i64 4)],
 ox 7 (.fieldAddr 1) [.t 2],
 ox 8 (.load false 1) [.t 7],
 ox 9 (.arith .add) [.t 6, .t 8],
 ox 10 (.arith .sub) [.t 9, .c (.int .i64 2)],
 ox 11 (.fieldAddr 1) [.t 2],
 ox 12 (.load false 1) [.t 11],
 ox 13 (.arith .sub) [.t 12, .c (.int .i64 1)],
 ox 14 (.arith .quo) [.t 10, .t 13],
 ox 4 .mv [.t 14]])
 .ret))
def r95 : List ARes := [.tmp 4]
theorem ok95 : FnOk Tryz.prog 95 c95 r95 :=
 ⟨Tryz.f95, _, Tryz.func95, by kernel_rfl, rfl, by kernel_rfl, by kernel_rfl⟩
def c96 : ACode :=
 (.seq
 (.ops [1] [
 ox 1 .box [.t 0],
 ox 2 .mv [.c (.int .i64 0)]])
 (.seq
 (.ops [2] [
 ox 3 (.fieldAddr 1) [.t 1],
 ox 4 (.load false 1) [.t 3],
 ox 5 (.arith .sub) [.t 4, .c (.int .i64 1)],
 ox 6 (.arith .quo) [.t 5, .c (.int .i64 5)],
 ox 2 .mv [.t 6]])
 .ret))
def r96 : List ARes := [.tmp 2]
theorem ok96 : FnOk Tryz.prog 96 c96 r96 :=
 ⟨Tryz.f96, _, Tryz.func96, by kernel_rfl, rfl, by kernel_rfl, by kernel_rfl⟩
def c97 : ACode :=
 (.seq
 (.ops [0, 1] [
 ox 4 .mv [.c (.int .i64 0)]])
 (.seq
 (.seq
 (.ops [0, 1, 7, 8] [
 ox 6 .mv [.t 0],
 ox 7 .len [.t 6],
 ox 8 .mv [.c (.int .i64 0)]])
 (.block 0
 (.loop [0, 1, 7, 8]
 (.seq
 (.ops [0, 1, 7, 8, 9] [
 ox 9 (.cmp .lss) [.t 8, .t 7]])
 (.seq
 (.cond (.t 9)
 .skip
 (.exit 0))
 (.seq
 (.block 1
 (.seq
 (.ops [0, 1, 5, 7, 8] [
 ox 10 .mv [.t 8],
 ox 5 .mv [.t 10]])
 (.seq
 (.ops [0, 1, 5, 7, 8, 16] [
 ox 11 .mv [.t 1],
 ox 12 .mv [.t 0],
 ox 13 .mv [.t 5],
 ox 14 (.idxAddr 3) [.t 12, .t 13],
 ox 15 (.load true 3) [.t 14],
 ox 16 .callv [.t 11, .t 15]])
 (.cond (.t 16)
 (.seq
 (.ops [4] [
 ox 17 .mv [.t 5],
 ox 4 .mv [.t 17]])
 .ret)
 .skip))))
 (.ops [0, 1, 7, 8] [
 ox 18 (.arith .add) [.t 8, .c (.int .i64 1)],
 ox 8 .mv [.t 18]])))))))
 (.seq
 (.ops [4] [
 ox 4 .mv [.c (.int .i64 (-1))]])
 .ret)))
def r97 : List ARes := [.tmp 4]
theorem ok97 : FnOk Tryz.prog 97 c97 r97 :=
 ⟨Tryz.f97, _, Tryz.func97, by kernel_rfl, rfl, by kernel_rfl, by kernel_rfl⟩
def c98 : ACode :=
 (.seq
 (.ops [0, 3] [
 ox 3 .box [.t 1],
 ox 4 .mv [.c (.bool false)]])
 (.seq
 (.ops [4] [
 ox 5 (.fieldAddr 0) [.t 3],
 ox 6 (.load false 1) [.t 5],
 ox 7 .mv [.t 0],
 ox 8 (.eq false .int) [.t 6, .t 7],
 ox 4 .mv [.t 8]])
 .ret))
def r98 : List ARes := [.tmp 4]
theorem ok98 : FnOk Tryz.prog 98 c98 r98 :=
 ⟨Tryz.f98, _, Tryz.func98, by kernel_rfl, rfl, by kernel_rfl, by kernel_rfl⟩
def c99 : ACode :=
 (.seq
 (.ops [0, 1] [
 ox 4 .mv [.c (.bool false)]])
 (.seq
 (.ops [4] [
 ox 5 .mv [.t 0],
 ox 6 .mv [.t 1],
 ox 7 (.call 115) [.t 5, .t 6],
 ox 8 (.cmp .geq) [.t 7, .c (.int .i64 0)],
 ox 4 .mv [.t 8]])
 .ret))
def r99 : List ARes := [.tmp 4]
theorem ok99 : FnOk Tryz.prog 99 c99 r99 :=
 ⟨Tryz.f99, _, Tryz.func99, by kernel_rfl, rfl, by kernel_rfl, by kernel_rfl⟩
def c100 : ACode :=
 (.seq
 (.ops [0] [
 ox 2 .mv [.c (.bool false)]])
 (.seq
 (.ops [2] [
 ox 3 .mv [.t 0],
 ox 4 (.call 64) [.t 3],
 ox 5 (.eq false .int) [.t 4, .c (.int .i64 0)],
 ox 2 .mv [.t 5]])
 .ret))
def r100 : List ARes := [.tmp 2]
theorem ok100 : FnOk Tryz.prog 100 c100 r100 :=
 ⟨Tryz.f100, _, Tryz.func100, by kernel_rfl, rfl, by kernel_rfl, by kernel_rfl⟩
def c101 : ACode :=
 (.seq
 (.ops [0, 3] [
 ox 3 .box [.t 1],
 ox 4 .mv [.c .nils]])
 (.seq
 (.drawn [4] [
 ox 5 .mv [.t 0],
 ox 6 (.fieldAddr 0) [.t 3],
 ox 7 (.load false 1) [.t 6],
 od 8 (.call 37) [.t 5, .t 7] 0 1,
 od 9 (.fieldAddr 1) [.t 3] 0 1,
 od 10 (.load true 32) [.t 9] 0 1,
 od 11 (.call 112) [.t 8, .t 10] 1 2,
 od 4 .mv [.t 11] 2 2])
 .ret))
def r101 : List ARes := [.tmp 4]
theorem ok101 : FnOk Tryz.prog 101 c101 r101 :=
 ⟨Tryz.f101, _, Tryz.func101, by kernel_rfl, rfl, by kernel_rfl, by kernel_rfl⟩
def c102 : ACode :=
 (.seq
 (.ops [0, 1] [
 ox 4 .mv [.c .nils]])
 (.seq
 (.ops [4] [
 ox 5 .mv [.t 0],
 ox 6 .nilCheck [.t 5],
 ox 7 (.fieldAddr 0) [.t 6],
 ox 8 .mv [.t 1],
 ox 9 (.arith .sub) [.t 8, .c (.int .i64 1)],
 ox 10 (.arith .mul) [.t 9, .c (.int .i64 8)],
 ox 11 .mv [.t 1],
 ox 12 (.arith .mul) [.t 11, .c (.int .i64 8)],
 ox 13 (.sliceArr 64 33 true true false) [.t 7, .t 10, .t 12],
 ox 4 .mv [.t 13]])
 .ret))
def r102 : List ARes := [.tmp 4]
theorem ok102 : FnOk Tryz.prog 102 c102 r102 :=
 ⟨Tryz.f102, _, Tryz.func102, by kernel_rfl, rfl, by kernel_rfl, by kernel_rfl⟩
def c103 : ACode :=
 (.seq
 (.ops [0, 3] [
 ox 3 .box [.t 1],
 ox 4 .mv [.c .nils],
 ox 5 .mv [.c (.int .i64 0)]])
 (.seq
 (.block 0
 (.seq
 (.seq
 (.ops [0, 3, 7] [
 ox 8 (.fieldAddr 0) [.t 3],
 ox 9 (.load false 1) [.t 8],
 ox 10 (.cmp .lss) [.t 9, .c (.int .i64 1)],
 ox 7 .mv [.t 10]])
 (.cond (.t 7)
 .skip
 (.ops [0, 3, 7] [
 ox 11 (.fieldAddr 0) [.t 3],
 ox 12 (.load false 1) [.t 11],
 ox 13 (.cmp .gtr) [.t 12, .c (.int .i64 5)],
 ox 7 .mv [.t 13]])))
 (.cond (.t 7)
 (.seq
 (.ops [4, 5] [
 ox 4 .mv [.c .nils],
 ox 5 .mv [.c (.int .i64 5)]])
 .ret)
 (.seq
 (.ops [0, 3, 14] [
 ox 15 (.fieldAddr 1) [.t 3],
 ox 16 (.load false 1) [.t 15],
 ox 17 (.fieldAddr 2) [.t 3],
 ox 18 (.load false 1) [.t 17],
 ox 19 (.fieldAddr 3) [.t 3],
 ox 20 (.load false 1) [.t 19],
 ox 21 (.call 82) [.t 16, .t 18, .t 20],
 ox 22 .not [.t 21],
 ox 14 .mv [.t 22]])
 (.cond (.t 14)
 (.seq
 (.ops [4, 5] [
 ox 4 .mv [.c .nils],
 ox 5 .mv [.c (.int .i64 7)]])
 .ret)
 (.seq
 (.ops [0, 3, 23] [
 ox 24 (.fieldAddr 4) [.t 3],
 ox 25 (.load false 1) [.t 24],
 ox 26 .len [.t 25],
 ox 27 (.cmp .gtr) [.t 26, .c (.int .i64 975)],
 ox 23 .mv [.t 27]])
 (.cond (.t 23)
 (.seq
 (.ops [4, 5] [
 ox 4 .mv [.c .nils],
 ox 5 .mv [.c (.int .i64 3)]])
 .ret)
 .skip)))))))
 (.seq
 (.drawn [0, 3, 6] [
 ox 28 (.fieldAddr 0) [.t 3],
 ox 29 (.load false 1) [.t 28],
 ox 30 (.conv .u8) [.t 29],
 ox 31 (.mkSl 1 [.int .u8 0] [(0, 1)]) [.t 30],
 ox 32 (.fieldAddr 1) [.t 3],
 ox 33 (.load false 1) [.t 32],
 od 34 (.call 37) [.t 31, .t 33] 0 1,
 od 35 (.fieldAddr 2) [.t 3] 0 1,
 od 36 (.load false 1) [.t 35] 0 1,
 od 37 (.call 37) [.t 34, .t 36] 1 2,
 od 6 .mv [.t 37] 2 2])
 (.seq
 (.drawn [4, 5] [
 od 38 .mv [.t 6] 0 2,
 od 39 .mv [.t 0] 0 1,
 od 40 (.fieldAddr 1) [.t 3] 0 1,
 od 41 (.load false 1) [.t 40] 0 1,
 od 42 (.fieldAddr 2) [.t 3] 0 1,
 od 43 (.load false 1) [.t 42] 0 1,
 ox 44 (.fieldAddr 0) [.t 3],
 ox 45 (.load false 1) [.t 44],
 ox 46 (.fieldAddr 3) [.t 3],
 ox 47 (.load false 1) [.t 46],
 od 48 (.call 83) [.t 45, .t 47] 0 1,
 od 49 (.fieldAddr 4) [.t 3] 0 1,
 od 50 (.load false 1) [.t 49] 0 1,
 od 51 (.mkFn (.method "Seal") 1) [.t 39] 0 1,
 od 52 .nilCheck [.t 51] 0 1,
 od 53 .mv [.t 39] 0 1,
 od 54 (.invoke "Seal") [.t 53, .t 41, .t 43, .t 48, .t 50] 1 2,
 od 55 (.append 1 1) [.t 38, .t 54] 2 3,
 od 4 .mv [.t 55] 3 3,
 od 5 .mv [.c (.int .i64 0)] 3 3])
 .ret))))
def r103 : List ARes := [.tmp 4, .tmp 5]
theorem ok103 : FnOk Tryz.prog 103 c103 r103 :=
 ⟨Tryz.f103, _, Tryz.func103, by kernel_rfl, rfl, by kernel_rfl, by kernel_rfl⟩
def c104 : ACode :=
 (.seq
 (.ops [0, 1, 2] [
 ox 4 .mv [.c (.int .i64 0)]])
 (.seq
 (.drawn [4] [
 ox 5 (.load false 1) [.t 1],
 ox 6 .nilCheck [.t 5],
 ox 7 (.fieldAddr 0) [.t 6],
 ox 8 (.load false 1) [.t 7],
 ox 9 (.load false 1) [.t 2],
 ox 10 .mv [.t 0],
 od 11 (.call 105) [.t 8, .t 9, .t 10] 0 1,
 od 4 .mv [.t 11] 1 1])
 .ret))
def r104 : List ARes := [.tmp 4]
theorem ok104 : FnOk Tryz.prog 104 c104 r104 :=
 ⟨Tryz.f104, _, Tryz.func104, by kernel_rfl, rfl, by kernel_rfl, by kernel_rfl⟩
def c105 : ACode :=
 (.seq
 (.ops [0, 1, 2] [
 ox 6 .mv [.c (.int .i64 0)]])
 (.seq
 (.seq
 (.ops [0, 1, 2, 12] [
 ox 9 .mv [.t 0],
 ox 10 .nilCheck [.t 9],
 ox 11 (.fieldAddr 4) [.t 10],
 ox 12 (.load false 1) [.t 11]])
 (.cond (.t 12)
 (.seq
 (.ops [6] [
 ox 6 .mv [.c (.int .i64 12)]])
 .ret)
 .skip))
 (.seq
 (.seq
 (.ops [0, 1, 2, 7] [
 ox 13 .mv [.t 0],
 ox 14 .mv [.t 1],
 ox 15 .mv [.t 2],
 ox 16 (.call 50) [.t 13, .t 14, .t 15],
 ox 7 .mv [.t 16]])
 (.seq
 (.ops [0, 1, 2, 7, 18] [
 ox 17 .mv [.t 7],
 ox 18 (.eq true .int) [.t 17, .c (.int .i64 0)]])
 (.cond (.t 18)
 (.seq
 (.ops [6] [
 ox 19 .mv [.t 7],
 ox 6 .mv [.t 19]])
 .ret)
 .skip)))
 (.seq
 (.seq
 (.ops [0, 1, 2, 8] [
 ox 20 .mv [.t 0],
 ox 21 (.call 116) [.t 20],
 ox 8 .mv [.t 21]])
 (.seq
 (.ops [0, 1, 2, 8, 23] [
 ox 22 .mv [.t 8],
 ox 23 (.eq true .int) [.t 22, .c (.int .i64 0)]])
 (.cond (.t 23)
 (.seq
 (.ops [6] [
 ox 24 .mv [.t 8],
 ox 6 .mv [.t 24]])
 .ret)
 .skip)))
 (.seq
 (.drawn [0] [
 od 25 .mv [.t 0] 0 1,
 od 26 .nilCheck [.t 25] 0 1,
 od 27 (.fieldAddr 1) [.t 26] 0 1,
 od 28 (.load false 1) [.t 27] 0 1,
 od 29 .mv [.t 1] 0 1,
 ox 30 .mv [.t 2],
 od 31 (.call 49) [.t 30] 0 1,
 oe (.mapSet (.one .i)) [.t 28, .t 29, .t 31] 1 2])
 (.seq
 (.ops [] [
 ox 32 .mv [.t 0],
 ox 33 .nilCheck [.t 32],
 ox 34 (.fieldAddr 5) [.t 33],
 ox 35 (.load false 1) [.t 34],
 ox 36 (.arith .add) [.t 35, .c (.int .i64 1)],
 ox 37 .nilCheck [.t 32],
 ox 38 (.fieldAddr 5) [.t 37],
 oy (.store 1) [.t 38, .t 36]])
 (.seq
 (.ops [6] [
 ox 6 .mv [.c (.int .i64 0)]])
 .ret)))))))
def r105 : List ARes := [.tmp 6]
theorem ok105 : FnOk Tryz.prog 105 c105 r105 :=
 ⟨Tryz.f105, _, Tryz.func105, by kernel_rfl, rfl, by kernel_rfl, by kernel_rfl⟩
def c106 : ACode :=
 (.seq
 (.ops [0, 1] [
 ox 4 .mv [.c (.bool false)]])
 (.seq
 (.ops [4] [
 ox 5 .mv [.t 1],
 ox 6 .mv [.t 0],
 ox 7 .nilCheck [.t 6],
 ox 8 (.fieldAddr 0) [.t 7],
 ox 9 (.load false 1) [.t 8],
 ox 10 .len [.t 9],
 ox 11 (.arith .sub) [.t 10, .c (.int .i64 1)],
 ox 12 (.call 117) [.t 5, .t 11],
 ox 4 .mv [.t 12]])
 .ret))
def r106 : List ARes := [.tmp 4]
theorem ok106 : FnOk Tryz.prog 106 c106 r106 :=
 ⟨Tryz.f106, _, Tryz.func106, by kernel_rfl, rfl, by kernel_rfl, by kernel_rfl⟩
def c107 : ACode :=
 (.seq
 (.ops [0, 1, 2] [
 ox 6 .mv [.c (.int .i64 0)]])
 (.seq
 (.seq
 (.ops [0, 1, 2, 21] [
 ox 9 .mv [.t 0],
 ox 10 .nilCheck [.t 9],
 ox 11 (.fieldAddr 1) [.t 10],
 ox 12 (.load false 1) [.t 11],
 ox 13 .mv [.t 12],
 og 14 .mv [.t 0] 13 false,
 og 15 .nilCheck [.t 14] 13 false,
 og 16 (.fieldAddr 0) [.t 15] 13 false,
 og 17 (.load false 1) [.t 16] 13 false,
 og 18 .len [.t 17] 13 false,
 og 19 .mv [.t 1] 13 false,
 og 20 (.cmp .lss) [.t 18, .t 19] 13 false,
 ox 21 .pick [.t 13, .c (.bool true), .t 20]])
 (.cond (.t 21)
 (.seq
 (.ops [] [
 ox 22 .mv [.t 0],
 ox 23 .nilCheck [.t 22],
 ox 24 (.fieldAddr 1) [.t 23],
 oy (.store 1) [.t 24, .c (.bool true)]])
 (.seq
 (.ops [7] [
 ox 7 .mv [.c (.int .i64 0)]])
 (.seq
 (.ops [6] [
 ox 25 .mv [.t 7],
 ox 6 .mv [.t 25]])
 .ret)))
 .skip))
 (.seq
 (.ops [0, 1, 2, 8] [
 ox 26 .mv [.t 0],
 ox 27 .nilCheck [.t 26],
 ox 28 (.fieldAddr 0) [.t 27],
 ox 29 (.load false 1) [.t 28],
 ox 30 .mv [.t 1],
 ox 31 (.slice 1 false true false) [.t 29, .t 30],
 ox 8 .mv [.t 31]])
 (.seq
 (.ops [2, 8] [
 ox 32 .mv [.t 0],
 ox 33 .mv [.t 0],
 ox 34 .nilCheck [.t 33],
 ox 35 (.fieldAddr 0) [.t 34],
 ox 36 (.load false 1) [.t 35],
 ox 37 .mv [.t 1],
 ox 38 (.slice 1 true false false) [.t 36, .t 37],
 ox 39 .nilCheck [.t 32],
 ox 40 (.fieldAddr 0) [.t 39],
 oy (.store 1) [.t 40, .t 38]])
 (.seq
 (.ops [6] [
 ox 41 .mv [.t 2],
 ox 42 .mv [.t 8],
 ox 43 .callv [.t 41, .t 42],
 ox 6 .mv [.t 43]])
 .ret)))))
def r107 : List ARes := [.tmp 6]
theorem ok107 : FnOk Tryz.prog 107 c107 r107 :=
 ⟨Tryz.f107, _, Tryz.func107, by kernel_rfl, rfl, by kernel_rfl, by kernel_rfl⟩
def c108 : ACode :=
 (.seq
 (.ops [0] [
 ox 2 .mv [.c (.int .i64 0)]])
 (.seq
 (.ops [0, 3] [
 ox 3 .mv [.c (.int .u64 0)]])
 (.seq
 (.seq
 (.ops [3, 6, 7, 8] [
 ox 6 .mv [.t 0],
 ox 7 .len [.t 6],
 ox 8 .mv [.c (.int .i64 0)]])
 (.block 0
 (.loop [3, 6, 7, 8]
 (.seq
 (.ops [3, 6, 7, 8, 9] [
 ox 9 (.cmp .lss) [.t 8, .t 7]])
 (.seq
 (.cond (.t 9)
 .skip
 (.exit 0))
 (.seq
 (.block 1
 (.seq
 (.ops [3, 5, 6, 7, 8] [
 ox 10 (.idxAddr 1) [.t 6, .t 8],
 ox 11 (.load false 1) [.t 10],
 ox 5 .mv [.t 11]])
 (.ops [3, 6, 7, 8] [
 ox 12 .mv [.t 3],
 ox 13 (.shift .shl) [.t 12, .c (.int .u64 8)],
 ox 14 .mv [.t 5],
 ox 15 (.conv .u64) [.t 14],
 ox 16 (.arith .or) [.t 13, .t 15],
 ox 3 .mv [.t 16]])))
 (.ops [3, 6, 7, 8] [
 ox 17 (.arith .add) [.t 8, .c (.int .i64 1)],
 ox 8 .mv [.t 17]])))))))
 (.seq
 (.ops [2] [
 ox 18 .mv [.t 3],
 ox 19 (.conv .i64) [.t 18],
 ox 2 .mv [.t 19]])
 .ret))))
def r108 : List ARes := [.tmp 2]
theorem ok108 : FnOk Tryz.prog 108 c108 r108 :=
 ⟨Tryz.f108, _, Tryz.func108, by kernel_rfl, rfl, by kernel_rfl, by kernel_rfl⟩
def c109 : ACode :=
 (.seq
 (.ops [0, 1, 2, 6] [
 ox 6 (.alloc ([.int .i64 0] ++ (List.replicate 32 (.int .u8 0)))) []])
 (.seq
 (.seq
 (.ops [0, 1, 2, 6, 21] [
 ox 9 .mv [.t 0],
 ox 10 .nilCheck [.t 9],
 ox 11 (.fieldAddr 1) [.t 10],
 ox 12 (.load false 1) [.t 11],
 ox 13 .mv [.t 12],
 og 14 .mv [.t 0] 13 false,
 og 15 .nilCheck [.t 14] 13 false,
 og 16 (.fieldAddr 0) [.t 15] 13 false,
 og 17 (.load false 1) [.t 16] 13 false,
 og 18 .len [.t 17] 13 false,
 og 19 .mv [.t 1] 13 false,
 og 20 (.cmp .lss) [.t 18, .t 19] 13 false,
 ox 21 .pick [.t 13, .c (.bool true), .t 20]])
 (.cond (.t 21)
 (.seq
 (.ops [6] [
 ox 22 .mv [.t 0],
 ox 23 .nilCheck [.t 22],
 ox 24 (.fieldAddr 1) [.t 23],
 oy (.store 1) [.t 24, .c (.bool true)]])
 (.seq
 (.ops [6, 7] [
 ox 7 (.alloc ([.int .i64 0] ++ (List.replicate 32 (.int .u8 0)))) []])
 (.seq
 (.ops [6] [
 ox 25 (.load true 33) [.t 7],
 oy (.store 33) [.t 6, .t 25]])
 .ret)))
 .skip))
 (.seq
 (.ops [0, 1, 2, 6, 8] [
 ox 26 .mv [.t 0],
 ox 27 .nilCheck [.t 26],
 ox 28 (.fieldAddr 0) [.t 27],
 ox 29 (.load false 1) [.t 28],
 ox 30 .mv [.t 1],
 ox 31 (.slice 1 false true false) [.t 29, .t 30],
 ox 8 .mv [.t 31]])
 (.seq
 (.ops [2, 6, 8] [
 ox 32 .mv [.t 0],
 ox 33 .mv [.t 0],
 ox 34 .nilCheck [.t 33],
 ox 35 (.fieldAddr 0) [.t 34],
 ox 36 (.load false 1) [.t 35],
 ox 37 .mv [.t 1],
 ox 38 (.slice 1 true false false) [.t 36, .t 37],
 ox 39 .nilCheck [.t 32],
 ox 40 (.fieldAddr 0) [.t 39],
 oy (.store 1) [.t 40, .t 38]])
 (.seq
 (.ops [6] [
 ox 41 .mv [.t 2],
 ox 42 .mv [.t 8],
 ox 43 .callv [.t 41, .t 42],
 oy (.store 33) [.t 6, .t 43]])
 .ret)))))
def r109 : List ARes := [.cell 6 true 33]
theorem ok109 : FnOk Tryz.prog 109 c109 r109 :=
 ⟨Tryz.f109, _, Tryz.func109, by kernel_rfl, rfl, by kernel_rfl, by kernel_rfl⟩
def c110 : ACode :=
 (.seq
 (.ops [0, 2] [
 ox 2 (.alloc ([.int .i64 0] ++ (List.replicate 32 (.int .u8 0)))) []])
 (.seq
 (.drawn [2] [
 ox 3 .mv [.t 0],
 ox 4 (.slice 1 false true false) [.t 3, .c (.int .i64 8)],
 od 5 (.call 108) [.t 4] 0 1,
 od 6 .mv [.t 0] 0 1,
 od 7 (.slice 1 true false false) [.t 6, .c (.int .i64 8)] 0 1,
 od 8 (.call 118) [.t 7] 1 2,
 od 9 (.build ([.int .i64 0] ++ (List.replicate 32 (.int .u8 0))) [(0, 1), (1, 32)]) [.t 5, .t 8] 2 2,
 oe (.store 33) [.t 2, .t 9] 2 3])
 .ret))
def r110 : List ARes := [.cell 2 true 33]
theorem ok110 : FnOk Tryz.prog 110 c110 r110 :=
 ⟨Tryz.f110, _, Tryz.func110, by kernel_rfl, rfl, by kernel_rfl, by kernel_rfl⟩
def c111 : ACode :=
 (.seq
 (.ops [1] [
 ox 1 .box [.t 0],
 ox 2 .mv [.c (.int .i64 0)]])
 (.seq
 (.block 0
 (.seq
 (.ops [1, 6] [
 ox 7 (.fieldAddr 34) [.t 1],
 ox 8 (.load false 1) [.t 7],
 ox 9 .len [.t 8],
 ox 10 (.cmp .gtr) [.t 9, .c (.int .i64 16)],
 ox 6 .mv [.t 10]])
 (.cond (.t 6)
 (.seq
 (.ops [2] [
 ox 2 .mv [.c (.int .i64 17)]])
 .ret)
 (.seq
 (.ops [1, 11] [
 ox 12 (.fieldAddr 0) [.t 1],
 ox 13 (.load false 1) [.t 12],
 ox 14 (.call 119) [.t 13, .c (.int .i64 0), .c (.int .i64 1099511627776)],
 ox 15 .not [.t 14],
 ox 16 .mv [.t 15],
 og 17 (.fieldAddr 33) [.t 1] 16 false,
 og 18 (.load false 1) [.t 17] 16 false,
 og 19 (.call 119) [.t 18, .c (.int .i64 (-1)), .c (.int .i64 31)] 16 false,
 og 20 .not [.t 19] 16 false,
 ox 21 .pick [.t 16, .c (.bool true), .t 20],
 ox 11 .mv [.t 21]])
 (.cond (.t 11)
 (.seq
 (.ops [2] [
 ox 2 .mv [.c (.int .i64 7)]])
 .ret)
 .skip)))))
 (.seq
 (.ops [1, 3] [
 ox 3 .mv [.c (.int .i64 (-1))]])
 (.seq
 .skip
 (.seq
 (.seq
 (.ops [3, 23, 24, 25] [
 ox 22 (.fieldAddr 34) [.t 1],
 ox 23 (.load false 1) [.t 22],
 ox 24 .len [.t 23],
 ox 25 .mv [.c (.int .i64 0)]])
 (.block 1
 (.loop [3, 23, 24, 25]
 (.seq
 (.ops [3, 23, 24, 25, 26] [
 ox 26 (.cmp .lss) [.t 25, .t 24]])
 (.seq
 (.cond (.t 26)
 .skip
 (.exit 1))
 (.seq
 (.block 2
 (.seq
 (.ops [3, 5, 23, 24, 25] [
 ox 27 (.idxAddr 35) [.t 23, .t 25],
 ox 28 (.load true 35) [.t 27],
 ox 5 (.alloc ([.int .i64 0, .int .i64 0, .int .i64 0] ++ (List.replicate 32 (.int .u8 0)))) [],
 oy (.store 35) [.t 5, .t 28]])
 (.seq
 (.block 3
 (.seq
 (.ops [3, 5, 23, 24, 25, 29] [
 ox 30 (.fieldAddr 0) [.t 5],
 ox 31 (.load false 1) [.t 30],
 ox 32 (.call 119) [.t 31, .c (.int .i64 1), .c (.int .i64 3)],
 ox 33 .not [.t 32],
 ox 29 .mv [.t 33]])
 (.cond (.t 29)
 (.seq
 (.ops [2] [
 ox 2 .mv [.c (.int .i64 5)]])
 .ret)
 (.seq
 (.ops [3, 5, 23, 24, 25, 34] [
 ox 35 (.load true 35) [.t 5],
 ox 36 (.call 120) [.t 35],
 ox 37 .not [.t 36],
 ox 34 .mv [.t 37]])
 (.cond (.t 34)
 (.seq
 (.ops [2] [
 ox 2 .mv [.c (.int .i64 7)]])
 .ret)
 (.seq
 (.ops [3, 5, 23, 24, 25, 38] [
 ox 39 (.fieldAddr 0) [.t 5],
 ox 40 (.load false 1) [.t 39],
 ox 41 (.eq false .int) [.t 40, .c (.int .i64 2)],
 ox 38 .mv [.t 41]])
 (.cond (.t 38)
 (.exit 2)
 (.seq
 (.ops [5, 23, 24, 25, 42] [
 ox 43 .mv [.t 3],
 ox 44 (.cmp .geq) [.t 43, .c (.int .i64 0)],
 ox 45 .mv [.t 44],
 og 46 (.fieldAddr 2) [.t 5] 45 true,
 og 47 (.load false 1) [.t 46] 45 true,
 og 48 .mv [.t 3] 45 true,
 og 49 (.arith .add) [.t 48, .c (.int .i64 1)] 45 true,
 og 50 (.eq true .int) [.t 47, .t 49] 45 true,
 ox 51 .pick [.t 45, .t 50, .c (.bool false)],
 ox 42 .mv [.t 51]])
 (.cond (.t 42)
 (.seq
 (.ops [2] [
 ox 2 .mv [.c (.int .i64 8)]])
 .ret)
 .skip)))))))))
 (.ops [3, 23, 24, 25] [
 ox 52 (.fieldAddr 2) [.t 5],
 ox 53 (.load false 1) [.t 52],
 ox 3 .mv [.t 53]]))))
 (.ops [3, 23, 24, 25] [
 ox 54 (.arith .add) [.t 25, .c (.int .i64 1)],
 ox 25 .mv [.t 54]])))))))
 (.seq
 (.ops [2] [
 ox 2 .mv [.c (.int .i64 0)]])
 .ret))))))
def r111 : List ARes := [.tmp 2]
theorem ok111 : FnOk Tryz.prog 111 c111 r111 :=
 ⟨Tryz.f111, _, Tryz.func111, by kernel_rfl, rfl, by kernel_rfl, by kernel_rfl⟩
def c112 : ACode :=
 (.seq
 (.ops [0, 3] [
 ox 3 .box [.t 1],
 ox 4 .mv [.c .nils]])
 (.seq
 (.ops [4] [
 ox 5 .mv [.t 0],
 ox 6 (.sliceArr 32 1 false false false) [.t 3],
 ox 7 (.call 74) [.t 5, .t 6],
 ox 4 .mv [.t 7]])
 .ret))
def r112 : List ARes := [.tmp 4]
theorem ok112 : FnOk Tryz.prog 112 c112 r112 :=
 ⟨Tryz.f112, _, Tryz.func112, by kernel_rfl, rfl, by kernel_rfl, by kernel_rfl⟩
def c115 : ACode :=
 (.seq
 (.ops [0, 1] [
 ox 4 .mv [.c (.int .i64 0)]])
 (.seq
 (.seq
 (.ops [0, 1, 7, 8] [
 ox 6 .mv [.t 0],
 ox 7 .len [.t 6],
 ox 8 .mv [.c (.int .i64 0)]])
 (.block 0
 (.loop [0, 1, 7, 8]
 (.seq
 (.ops [0, 1, 7, 8, 9] [
 ox 9 (.cmp .lss) [.t 8, .t 7]])
 (.seq
 (.cond (.t 9)
 .skip
 (.exit 0))
 (.seq
 (.block 1
 (.seq
 (.ops [0, 1, 5, 7, 8] [
 ox 10 .mv [.t 8],
 ox 5 .mv [.t 10]])
 (.seq
 (.ops [0, 1, 5, 7, 8, 16] [
 ox 11 .mv [.t 1],
 ox 12 .mv [.t 0],
 ox 13 .mv [.t 5],
 ox 14 (.idxAddr 1) [.t 12, .t 13],
 ox 15 (.load false 1) [.t 14],
 ox 16 (.eq false .int) [.t 11, .t 15]])
 (.cond (.t 16)
 (.seq
 (.ops [4] [
 ox 17 .mv [.t 5],
 ox 4 .mv [.t 17]])
 .ret)
 .skip))))
 (.ops [0, 1, 7, 8] [
 ox 18 (.arith .add) [.t 8, .c (.int .i64 1)],
 ox 8 .mv [.t 18]])))))))
 (.seq
 (.ops [4] [
 ox 4 .mv [.c (.int .i64 (-1))]])
 .ret)))
def r115 : List ARes := [.tmp 4]
theorem ok115 : FnOk Tryz.prog 115 c115 r115 :=
 ⟨Tryz.f115, _, Tryz.func115, by kernel_rfl, rfl, by kernel_rfl, by kernel_rfl⟩
def c116 : ACode :=
 (.seq
 (.ops [0] [
 ox 2 .mv [.c (.int .i64 0)]])
 (.seq
 (.block 0
 (.seq
 (.ops [0, 3] [
 ox 4 .mv [.t 0],
 ox 5 .nilCheck [.t 4],
 ox 6 (.fieldAddr 4) [.t 5],
 ox 7 (.load false 1) [.t 6],
 ox 3 .mv [.t 7]])
 (.cond (.t 3)
 (.seq
 (.ops [2] [
 ox 2 .mv [.c (.int .i64 12)]])
 .ret)
 (.seq
 (.ops [0, 8] [
 ox 9 .mv [.t 0],
 ox 10 .nilCheck [.t 9],
 ox 11 (.fieldAddr 2) [.t 10],
 ox 12 (.load false 1) [.t 11],
 ox 13 .mv [.t 12],
 og 14 .mv [.t 0] 13 true,
 og 15 .nilCheck [.t 14] 13 true,
 og 16 (.fieldAddr 3) [.t 15] 13 true,
 og 17 (.load false 1) [.t 16] 13 true,
 og 18 (.eq false .int) [.t 17, .c (.int .i64 0)] 13 true,
 ox 19 .pick [.t 13, .t 18, .c (.bool false)],
 ox 8 .mv [.t 19]])
 (.cond (.t 8)
 (.seq
 (.ops [] [
 ox 20 .mv [.t 0],
 ox 21 .nilCheck [.t 20],
 ox 22 (.fieldAddr 4) [.t 21],
 oy (.store 1) [.t 22, .c (.bool true)]])
 (.seq
 (.ops [2] [
 ox 2 .mv [.c (.int .i64 12)]])
 .ret))
 .skip)))))
 (.seq
 (.ops [] [
 ox 23 .mv [.t 0],
 ox 24 .nilCheck [.t 23],
 ox 25 (.fieldAddr 3) [.t 24],
 ox 26 (.load false 1) [.t 25],
 ox 27 (.arith .sub) [.t 26, .c (.int .i64 1)],
 ox 28 .nilCheck [.t 23],
 ox 29 (.fieldAddr 3) [.t 28],
 oy (.store 1) [.t 29, .t 27]])
 (.seq
 (.ops [2] [
 ox 2 .mv [.c (.int .i64 0)]])
 .ret))))
def r116 : List ARes := [.tmp 2]
theorem ok116 : FnOk Tryz.prog 116 c116 r116 :=
 ⟨Tryz.f116, _, Tryz.func116, by kernel_rfl, rfl, by kernel_rfl, by kernel_rfl⟩
def c117 : ACode :=
 (.seq
 (.ops [0, 1] [
 ox 4 .mv [.c (.bool false)]])
 (.seq
 (.ops [4] [
 ox 5 .mv [.t 0],
 ox 6 (.cmp .geq) [.t 5, .c (.int .i64 0)],
 ox 7 .mv [.t 6],
 og 8 .mv [.t 0] 7 true,
 og 9 .mv [.t 1] 7 true,
 og 10 (.cmp .leq) [.t 8, .t 9] 7 true,
 ox 11 .pick [.t 7, .t 10, .c (.bool false)],
 ox 4 .mv [.t 11]])
 .ret))
def r117 : List ARes := [.tmp 4]
theorem ok117 : FnOk Tryz.prog 117 c117 r117 :=
 ⟨Tryz.f117, _, Tryz.func117, by kernel_rfl, rfl, by kernel_rfl, by kernel_rfl⟩
def c118 : ACode :=
 (.seq
 (.ops [0, 2] [
 ox 2 (.alloc (List.replicate 32 (.int .u8 0))) []])
 (.seq
 (.ops [2] [
 ox 3 .mv [.t 0],
 ox 4 (.arrPtr 32) [.t 3],
 ox 5 (.load true 32) [.t 4],
 oy (.store 32) [.t 2, .t 5]])
 .ret))
def r118 : List ARes := [.cell 2 true 32]
theorem ok118 : FnOk Tryz.prog 118 c118 r118 :=
 ⟨Tryz.f118, _, Tryz.func118, by kernel_rfl, rfl, by kernel_rfl, by kernel_rfl⟩
def c119 : ACode :=
 (.seq
 (.ops [0, 1, 2] [
 ox 6 .mv [.c (.bool false)]])
 (.seq
 (.ops [6] [
 ox 7 .mv [.t 0],
 ox 8 .mv [.t 1],
 ox 9 (.cmp .geq) [.t 7, .t 8],
 ox 10 .mv [.t 9],
 og 11 .mv [.t 0] 10 true,
 og 12 .mv [.t 2] 10 true,
 og 13 (.cmp .leq) [.t 11, .t 12] 10 true,
 ox 14 .pick [.t 10, .t 13, .c (.bool false)],
 ox 6 .mv [.t 14]])
 .ret))
def r119 : List ARes := [.tmp 6]
theorem ok119 : FnOk Tryz.prog 119 c119 r119 :=
 ⟨Tryz.f119, _, Tryz.func119, by kernel_rfl, rfl, by kernel_rfl, by kernel_rfl⟩
def c120 : ACode :=
 (.seq
 (.ops [1] [
 ox 1 .box [.t 0],
 ox 2 .mv [.c (.bool false)]])
 (.seq
 (.ops [1, 3] [
 ox 3 .mv [.c (.int .i64 64)]])
 (.seq
 (.seq
 (.ops [1, 3, 6] [
 ox 4 (.fieldAddr 0) [.t 1],
 ox 5 (.load false 1) [.t 4],
 ox 6 (.eq false .int) [.t 5, .c (.int .i64 3)]])
 (.cond (.t 6)
 (.ops [1, 3] [
 ox 3 .mv [.c (.int .i64 9)]])
 .skip))
 (.seq
 (.seq
 (.ops [1, 18] [
 ox 7 (.fieldAddr 1) [.t 1],
 ox 8 (.load false 1) [.t 7],
 ox 9 .mv [.t 3],
 ox 10 (.arith .sub) [.t 9, .c (.int .i64 1)],
 ox 11 (.call 119) [.t 8, .c (.int .i64 0), .t 10],
 ox 12 .not [.t 11],
 ox 13 .mv [.t 12],
 og 14 (.fieldAddr 2) [.t 1] 13 false,
 og 15 (.load false 1) [.t 14] 13 false,
 og 16 (.call 119) [.t 15, .c (.int .i64 0), .c (.int .i64 63)] 13 false,
 og 17 .not [.t 16] 13 false,
 ox 18 .pick [.t 13, .c (.bool true), .t 17]])
 (.cond (.t 18)
 (.seq
 (.ops [2] [
 ox 2 .mv [.c (.bool false)]])
 .ret)
 .skip))
 (.seq
 (.ops [2] [
 ox 19 (.fieldAddr 0) [.t 1],
 ox 20 (.load false 1) [.t 19],
 ox 21 (.eq true .int) [.t 20, .c (.int .i64 2)],
 ox 22 .mv [.t 21],
 og 23 (.fieldAddr 2) [.t 1] 22 false,
 og 24 (.load false 1) [.t 23] 22 false,
 og 25 (.eq false .int) [.t 24, .c (.int .i64 0)] 22 false,
 og 26 .mv [.t 25] 22 false,
 og 27 (.fieldAddr 3) [.t 1] 26 true,
 og 28 (.load true 32) [.t 27] 26 true,
 og 29 (.build (List.replicate 32 (.int .u8 0)) []) [] 26 true,
 og 30 (.eqAgg false (List.replicate 32 .i)) [.t 28, .t 29] 26 true,
 og 31 .pick [.t 26, .t 30, .c (.bool false)] 22 false,
 ox 32 .pick [.t 22, .c (.bool true), .t 31],
 ox 2 .mv [.t 32]])
 .ret)))))
def r120 : List ARes := [.tmp 2]
theorem ok120 : FnOk Tryz.prog 120 c120 r120 :=
 ⟨Tryz.f120, _, Tryz.func120, by kernel_rfl, rfl, by kernel_rfl, by kernel_rfl⟩
def c141 : ACode :=
 (.seq
 (.ops [0, 1, 2, 3, 4] [
 ox 10 .mv [.c .nils],
 ox 11 .mv [.c (.bool false)]])
 (.seq
 (.seq
 (.ops [0, 1, 2, 3, 4, 18] [
 ox 16 .mv [.t 4],
 ox 17 .len [.t 16],
 ox 18 (.cmp .lss) [.t 17, .c (.int .i64 32)]])
 (.cond (.t 18)
 (.seq
 (.ops [10, 11] [
 ox 10 .mv [.c .nils],
 ox 11 .mv [.c (.bool false)]])
 .ret)
 .skip))
 (.seq
 (.drawn [0, 1, 2, 3, 12, 13] [
 ox 19 .mv [.t 4],
 ox 20 .mv [.t 4],
 ox 21 .len [.t 20],
 ox 22 (.arith .sub) [.t 21, .c (.int .i64 32)],
 ox 23 (.slice 1 false true false) [.t 19, .t 22],
 ox 24 .mv [.t 4],
 ox 25 .mv [.t 4],
 ox 26 .len [.t 25],
 ox 27 (.arith .sub) [.t 26, .c (.int .i64 32)],
 ox 28 (.slice 1 true false false) [.t 24, .t 27],
 ox 12 .mv [.t 23],
 ox 13 .mv [.t 28]])
 (.seq
 (.drawn [12, 13, 14, 15] [
 ox 30 .mv [.t 0],
 ox 31 .nilCheck [.t 30],
 ox 32 (.fieldAddr 0) [.t 31],
 ox 33 (.load false 1) [.t 32],
 ox 34 .mv [.t 1],
 ox 35 .mv [.t 2],
 ox 36 .mv [.t 3],
 ox 37 .b2s [.t 36],
 ox 38 .mv [.t 12],
 ox 39 .b2s [.t 38],
 ox 40 (.build [.int .i64 0, .int .i64 0, .str ⟨#[]⟩, .str ⟨#[]⟩] [(0, 1), (1, 1), (2, 1), (3, 1)]) [.t 34, .t 35, .t 37, .t 39],
 ox 41 (.lookup (.agg [.i, .i, .s, .s]) (.int .i64 0) true) [.t 33, .t 40],
 ox 29 .mv [.t 41],
 ox 42 (.extract 0) [.t 29],
 ox 43 (.extract 1) [.t 29],
 ox 14 .mv [.t 42],
 ox 15 .mv [.t 43]])
 (.seq
 (.seq
 (.drawn [12, 55] [
 ox 44 .mv [.t 15],
 ox 45 .not [.t 44],
 ox 46 .mv [.t 45],
 oh 47 .mv [.t 13] 46 false 0 2,
 oh 48 (.mkSlice [.int .u8 0] 1) [.c (.int .i64 24), .c (.int .i64 24)] 46 false 0 1,
 og 49 .mv [.t 14] 46 false,
 oh 50 (.call 146) [.t 49] 46 false 0 1,
 oh 51 (.mkSl 2 [.nils, .nils] [(0, 1), (1, 1)]) [.t 48, .t 50] 46 false 1 1,
 oh 52 (.call 145) [.t 51] 46 false 1 2,
 oh 53 (.call 144) [.t 47, .t 52] 46 false 2 3,
 oh 54 .not [.t 53] 46 false 3 3,
 od 55 .pick [.t 46, .c (.bool true), .t 54] 3 3])
 (.cond (.t 55)
 (.seq
 (.ops [10, 11] [
 ox 10 .mv [.c .nils],
 ox 11 .mv [.c (.bool false)]])
 .ret)
 .skip))
 (.seq
 (.ops [10, 11] [
 ox 56 .mv [.t 12],
 ox 57 (.call 49) [.t 56],
 ox 10 .mv [.t 57],
 ox 11 .mv [.c (.bool true)]])
 .ret))))))
def r141 : List ARes := [.tmp 10, .tmp 11]
theorem ok141 : FnOk Tryz.prog 141 c141 r141 :=
 ⟨Tryz.f141, _, Tryz.func141, by kernel_rfl, rfl, by kernel_rfl, by kernel_rfl⟩
def c142 : ACode :=
 (.seq
 (.ops [0, 1, 2, 3, 4] [
 ox 10 .mv [.c .nils]])
 (.seq
 (.seq
 (.ops [0, 1, 2, 3, 4, 21] [
 ox 14 .mv [.t 1],
 ox 15 (.call 147) [.t 14],
 ox 16 .not [.t 15],
 ox 17 .mv [.t 16],
 og 18 .mv [.t 2] 17 false,
 og 19 (.call 147) [.t 18] 17 false,
 og 20 .not [.t 19] 17 false,
 ox 21 .pick [.t 17, .c (.bool true), .t 20]])
 (.cond (.t 21)
 (.seq
 (.ops [10] [
 ox 10 .mv [.c .nils]])
 .ret)
 .skip))
 (.seq
 (.ops [0, 4, 11] [
 ox 22 .mv [.t 1],
 ox 23 .mv [.t 2],
 ox 24 .mv [.t 3],
 ox 25 .b2s [.t 24],
 ox 26 .mv [.t 4],
 ox 27 .b2s [.t 26],
 ox 28 (.build [.int .i64 0, .int .i64 0, .str ⟨#[]⟩, .str ⟨#[]⟩] [(0, 1), (1, 1), (2, 1), (3, 1)]) [.t 22, .t 23, .t 25, .t 27],
 ox 11 (.alloc [.int .i64 0, .int .i64 0, .str ⟨#[]⟩, .str ⟨#[]⟩]) [],
 oy (.store 4) [.t 11, .t 28]])
 (.seq
 (.drawn [0, 4, 11, 12, 13] [
 ox 30 .mv [.t 0],
 ox 31 .nilCheck [.t 30],
 ox 32 (.fieldAddr 0) [.t 31],
 ox 33 (.load false 1) [.t 32],
 ox 34 (.load true 4) [.t 11],
 ox 35 (.lookup (.agg [.i, .i, .s, .s]) (.int .i64 0) true) [.t 33, .t 34],
 ox 29 .mv [.t 35],
 ox 36 (.extract 0) [.t 29],
 ox 37 (.extract 1) [.t 29],
 ox 12 .mv [.t 36],
 ox 13 .mv [.t 37]])
 (.seq
 (.seq
 (.ops [0, 4, 11, 12, 39] [
 ox 38 .mv [.t 13],
 ox 39 .not [.t 38]])
 (.cond (.t 39)
 (.seq
 (.drawn [0, 4, 11] [
 od 40 .mv [.t 0] 0 1,
 ox 41 .mv [.t 0],
 ox 42 .nilCheck [.t 41],
 ox 43 (.fieldAddr 1) [.t 42],
 ox 44 (.load false 1) [.t 43],
 ox 45 (.load true 4) [.t 11],
 ox 46 (.mkSl 1 [.int .i64 0, .int .i64 0, .str ⟨#[]⟩, .str ⟨#[]⟩] [(0, 4)]) [.t 45],
 od 47 (.append 4 48) [.t 44, .t 46] 0 1,
 od 48 .nilCheck [.t 40] 1 1,
 od 49 (.fieldAddr 1) [.t 48] 1 1,
 oe (.store 1) [.t 49, .t 47] 1 2])
 (.seq
 (.ops [0, 4, 11, 12] [
 ox 50 .mv [.t 0],
 ox 51 .nilCheck [.t 50],
 ox 52 (.fieldAddr 1) [.t 51],
 ox 53 (.load false 1) [.t 52],
 ox 54 .len [.t 53],
 ox 12 .mv [.t 54]])
 (.drawn [4, 12] [
 ox 55 .mv [.t 0],
 ox 56 .nilCheck [.t 55],
 ox 57 (.fieldAddr 0) [.t 56],
 ox 58 (.load false 1) [.t 57],
 ox 59 (.load true 4) [.t 11],
 ox 60 .mv [.t 12],
 oe (.mapSet (.agg [.i, .i, .s, .s])) [.t 58, .t 59, .t 60] 0 1])))
 .skip))
 (.seq
 (.drawn [10] [
 od 61 .mv [.t 4] 0 1,
 od 62 (.mkSlice [.int .u8 0] 1) [.c (.int .i64 24), .c (.int .i64 24)] 0 1,
 ox 63 .mv [.t 12],
 od 64 (.call 146) [.t 63] 0 1,
 od 65 (.mkSl 3 [.nils, .nils, .nils] [(0, 1), (1, 1), (2, 1)]) [.t 61, .t 62, .t 64] 1 1,
 od 66 (.call 145) [.t 65] 1 2,
 od 10 .mv [.t 66] 2 2])
 .ret))))))
def r142 : List ARes := [.tmp 10]
theorem ok142 : FnOk Tryz.prog 142 c142 r142 :=
 ⟨Tryz.f142, _, Tryz.func142, by kernel_rfl, rfl, by kernel_rfl, by kernel_rfl⟩
def c143 : ACode :=
 (.seq
 (.ops [0, 1, 4] [
 ox 4 (.alloc (List.replicate 32 (.int .u8 0))) []])
 (.seq
 (.drawn [0, 1, 4, 5, 6] [
 ox 10 .mv [.t 0],
 ox 11 .nilCheck [.t 10],
 ox 12 (.fieldAddr 2) [.t 11],
 ox 13 (.load false 1) [.t 12],
 ox 14 .mv [.t 1],
 ox 15 .b2s [.t 14],
 ox 16 (.lookup (.one .s) (.int .i64 0) true) [.t 13, .t 15],
 ox 9 .mv [.t 16],
 ox 17 (.extract 0) [.t 9],
 ox 18 (.extract 1) [.t 9],
 ox 5 .mv [.t 17],
 ox 6 .mv [.t 18]])
 (.seq
 (.seq
 (.ops [0, 1, 4, 5, 20] [
 ox 19 .mv [.t 6],
 ox 20 .not [.t 19]])
 (.cond (.t 20)
 (.seq
 (.ops [0, 1, 4, 5] [
 ox 21 .mv [.t 0],
 ox 22 .nilCheck [.t 21],
 ox 23 (.fieldAddr 2) [.t 22],
 ox 24 (.load false 1) [.t 23],
 ox 25 .lenMap [.t 24],
 ox 26 (.arith .add) [.t 25, .c (.int .i64 1)],
 ox 5 .mv [.t 26]])
 (.drawn [4, 5] [
 ox 27 .mv [.t 0],
 ox 28 .nilCheck [.t 27],
 ox 29 (.fieldAddr 2) [.t 28],
 ox 30 (.load false 1) [.t 29],
 ox 31 .mv [.t 1],
 ox 32 .b2s [.t 31],
 ox 33 .mv [.t 5],
 oe (.mapSet (.one .s)) [.t 30, .t 32, .t 33] 0 1]))
 .skip))
 (.seq
 (.ops [4, 5, 7] [
 ox 7 (.alloc (List.replicate 32 (.int .u8 0))) []])
 (.seq
 (.seq
 (.ops [4, 5, 7, 34] [
 ox 34 .mv [.c (.int .i64 0)]])
 (.block 0
 (.loop [4, 5, 7, 34]
 (.seq
 (.ops [4, 5, 7, 34, 35] [
 ox 35 (.cmp .lss) [.t 34, .c (.int .i64 32)]])
 (.seq
 (.cond (.t 35)
 .skip
 (.exit 0))
 (.seq
 (.block 1
 (.seq
 (.ops [4, 5, 7, 8, 34] [
 ox 36 .mv [.t 34],
 ox 8 .mv [.t 36]])
 (.ops [4, 5, 7, 34] [
 ox 37 .mv [.t 8],
 ox 38 (.idxAddrArr 32 1) [.t 7, .t 37],
 oy (.store 1) [.t 38, .c (.int .u8 1)]])))
 (.ops [4, 5, 7, 34] [
 ox 39 (.arith .add) [.t 34, .c (.int .i64 1)],
 ox 34 .mv [.t 39]])))))))
 (.seq
 (.drawn [4, 7] [
 od 40 (.sliceArr 32 1 true false false) [.t 7, .c (.int .i64 24)] 0 1,
 ox 41 .mv [.t 5],
 od 42 (.call 146) [.t 41] 0 1,
 od 43 (.copy 1) [.t 40, .t 42] 1 2])
 (.seq
 (.ops [4] [
 ox 44 (.load true 32) [.t 7],
 oy (.store 32) [.t 4, .t 44]])
 .ret)))))))
def r143 : List ARes := [.cell 4 true 32]
theorem ok143 : FnOk Tryz.prog 143 c143 r143 :=
 ⟨Tryz.f143, _, Tryz.func143, by kernel_rfl, rfl, by kernel_rfl, by kernel_rfl⟩
def c144 : ACode :=
 (.seq
 (.ops [0, 1] [
 ox 4 .mv [.c (.bool false)]])
 (.seq
 (.seq
 (.ops [0, 1, 10] [
 ox 6 .mv [.t 0],
 ox 7 .len [.t 6],
 ox 8 .mv [.t 1],
 ox 9 .len [.t 8],
 ox 10 (.eq true .int) [.t 7, .t 9]])
 (.cond (.t 10)
 (.seq
 (.ops [4] [
 ox 4 .mv [.c (.bool false)]])
 .ret)
 .skip))
 (.seq
 (.seq
 (.ops [0, 1, 12, 13] [
 ox 11 .mv [.t 0],
 ox 12 .len [.t 11],
 ox 13 .mv [.c (.int .i64 0)]])
 (.block 0
 (.loop [0, 1, 12, 13]
 (.seq
 (.ops [0, 1, 12, 13, 14] [
 ox 14 (.cmp .lss) [.t 13, .t 12]])
 (.seq
 (.cond (.t 14)
 .skip
 (.exit 0))
 (.seq
 (.block 1
 (.seq
 (.ops [0, 1, 5, 12, 13] [
 ox 15 .mv [.t 13],
 ox 5 .mv [.t 15]])
 (.seq
 (.drawn [0, 1, 12, 13, 24] [
 ox 16 .mv [.t 0],
 ox 17 .mv [.t 5],
 ox 18 (.idxAddr 1) [.t 16, .t 17],
 ox 19 (.load false 1) [.t 18],
 ox 20 .mv [.t 1],
 ox 21 .mv [.t 5],
 ox 22 (.idxAddr 1) [.t 20, .t 21],
 ox 23 (.load false 1) [.t 22],
 ox 24 (.eq true .int) [.t 19, .t 23]])
 (.cond (.t 24)
 (.seq
 (.ops [4] [
 ox 4 .mv [.c (.bool false)]])
 .ret)
 .skip))))
 (.ops [0, 1, 12, 13] [
 ox 25 (.arith .add) [.t 13, .c (.int .i64 1)],
 ox 13 .mv [.t 25]])))))))
 (.seq
 (.ops [4] [
 ox 4 .mv [.c (.bool true)]])
 .ret))))
def r144 : List ARes := [.tmp 4]
theorem ok144 : FnOk Tryz.prog 144 c144 r144 :=
 ⟨Tryz.f144, _, Tryz.func144, by kernel_rfl, rfl, by kernel_rfl, by kernel_rfl⟩
def c145 : ACode :=
 (.seq
 (.ops [0] [
 ox 2 .mv [.c .nils]])
 (.seq
 (.ops [0, 3] [
 ox 3 .mv [.c (.int .i64 0)]])
 (.seq
 (.seq
 (.ops [0, 3, 9, 10, 11] [
 ox 9 .mv [.t 0],
 ox 10 .len [.t 9],
 ox 11 .mv [.c (.int .i64 0)]])
 (.block 0
 (.loop [0, 3, 9, 10, 11]
 (.seq
 (.ops [0, 3, 9, 10, 11, 12] [
 ox 12 (.cmp .lss) [.t 11, .t 10]])
 (.seq
 (.cond (.t 12)
 .skip
 (.exit 0))
 (.seq
 (.block 1
 (.seq
 (.ops [0, 3, 5, 9, 10, 11] [
 ox 13 (.idxAddr 1) [.t 9, .t 11],
 ox 14 (.load false 1) [.t 13],
 ox 5 .mv [.t 14]])
 (.seq
 (.ops [0, 3, 9, 10, 11] [
 ox 15 .mv [.t 3],
 ox 16 .mv [.t 5],
 ox 17 .len [.t 16],
 ox 18 (.arith .add) [.t 15, .t 17],
 ox 3 .mv [.t 18]])
 (.seq
 (.ops [0, 3, 9, 10, 11, 20] [
 ox 19 .mv [.t 3],
 ox 20 (.cmp .lss) [.t 19, .c (.int .i64 0)]])
 (.cond (.t 20)
 (.ops [0, 3, 9, 10, 11] [
 ox 21 (.iface 9) [.c (.str ⟨#[108, 101, 110, 32, 111, 117, 116, 32, 111, 102, 32, 114, 97, 110, 103, 101]⟩)],
 oy .no [.t 21]])
 .skip)))))
 (.ops [0, 3, 9, 10, 11] [
 ox 22 (.arith .add) [.t 11, .c (.int .i64 1)],
 ox 11 .mv [.t 22]])))))))
 (.seq
 (.ops [0, 6] [
 ox 23 .mv [.t 3],
 ox 24 (.call 148) [.c .nils, .t 23],
 ox 6 .mv [.t 24]])
 (.seq
 (.seq
 (.ops [6, 25, 26, 27] [
 ox 25 .mv [.t 0],
 ox 26 .len [.t 25],
 ox 27 .mv [.c (.int .i64 0)]])
 (.block 2
 (.loop [6, 25, 26, 27]
 (.seq
 (.ops [6, 25, 26, 27, 28] [
 ox 28 (.cmp .lss) [.t 27, .t 26]])
 (.seq
 (.cond (.t 28)
 .skip
 (.exit 2))
 (.seq
 (.block 3
 (.seq
 (.ops [6, 8, 25, 26, 27] [
 ox 29 (.idxAddr 1) [.t 25, .t 27],
 ox 30 (.load false 1) [.t 29],
 ox 8 .mv [.t 30]])
 (.ops [6, 25, 26, 27] [
 ox 31 .mv [.t 6],
 ox 32 .mv [.t 8],
 ox 33 (.append 1 1) [.t 31, .t 32],
 ox 6 .mv [.t 33]])))
 (.ops [6, 25, 26, 27] [
 ox 34 (.arith .add) [.t 27, .c (.int .i64 1)],
 ox 27 .mv [.t 34]])))))))
 (.seq
 (.ops [2] [
 ox 35 .mv [.t 6],
 ox 2 .mv [.t 35]])
 .ret))))))
def r145 : List ARes := [.tmp 2]
theorem ok145 : FnOk Tryz.prog 145 c145 r145 :=
 ⟨Tryz.f145, _, Tryz.func145, by kernel_rfl, rfl, by kernel_rfl, by kernel_rfl⟩
def c146 : ACode :=
 (.seq
 (.ops [0] [
 ox 2 .mv [.c .nils]])
 (.seq
 (.ops [0, 3] [
 ox 5 (.mkSlice [.int .u8 0] 1) [.c (.int .i64 8), .c (.int .i64 8)],
 ox 3 .mv [.t 5]])
 (.seq
 (.seq
 (.ops [0, 3, 7, 8] [
 ox 6 .mv [.t 3],
 ox 7 .len [.t 6],
 ox 8 .mv [.c (.int .i64 0)]])
 (.block 0
 (.loop [0, 3, 7, 8]
 (.seq
 (.ops [0, 3, 7, 8, 9] [
 ox 9 (.cmp .lss) [.t 8, .t 7]])
 (.seq
 (.cond (.t 9)
 .skip
 (.exit 0))
 (.seq
 (.block 1
 (.seq
 (.ops [0, 3, 4, 7, 8] [
 ox 10 .mv [.t 8],
 ox 4 .mv [.t 10]])
 (.ops [0, 3, 7, 8] [
 ox 11 .mv [.t 3],
 ox 12 .mv [.t 4],
 ox 13 .mv [.t 0],
 ox 14 (.conv .u64) [.t 13],
 ox 15 .mv [.t 4],
 ox 16 (.arith .sub) [.c (.int .i64 7), .t 15],
 ox 17 (.arith .mul) [.c (.int .i64 8), .t 16],
 ox 18 (.shift .shr) [.t 14, .t 17],
 ox 19 (.conv .u8) [.t 18],
 ox 20 (.idxAddr 1) [.t 11, .t 12],
 oy (.store 1) [.t 20, .t 19]])))
 (.ops [0, 3, 7, 8] [
 ox 21 (.arith .add) [.t 8, .c (.int .i64 1)],
 ox 8 .mv [.t 21]])))))))
 (.seq
 (.ops [2] [
 ox 22 .mv [.t 3],
 ox 2 .mv [.t 22]])
 .ret))))
def r146 : List ARes := [.tmp 2]
theorem ok146 : FnOk Tryz.prog 146 c146 r146 :=
 ⟨Tryz.f146, _, Tryz.func146, by kernel_rfl, rfl, by kernel_rfl, by kernel_rfl⟩
def c147 : ACode :=
 (.seq
 (.ops [0] [
 ox 2 .mv [.c (.bool false)]])
 (.seq
 (.ops [2] [
 ox 3 .mv [.t 0],
 ox 4 (.cmp .geq) [.t 3, .c (.int .i64 0)],
 ox 5 .mv [.t 4],
 og 6 .mv [.t 0] 5 true,
 og 7 (.cmp .leq) [.t 6, .c (.int .i64 1099511627776)] 5 true,
 ox 8 .pick [.t 5, .t 7, .c (.bool false)],
 ox 2 .mv [.t 8]])
 .ret))
def r147 : List ARes := [.tmp 2]
theorem ok147 : FnOk Tryz.prog 147 c147 r147 :=
 ⟨Tryz.f147, _, Tryz.func147, by kernel_rfl, rfl, by kernel_rfl, by kernel_rfl⟩
def c148 : ACode :=
 (.seq
 (.ops [0, 1] [
 ox 4 .mv [.c .nils]])
 (.seq
 (.seq
 (.ops [0, 1, 6] [
 ox 5 .mv [.t 1],
 ox 6 (.cmp .lss) [.t 5, .c (.int .i64 0)]])
 (.cond (.t 6)
 (.ops [0, 1] [
 ox 7 (.iface 9) [.c (.str ⟨#[99, 97, 110, 110, 111, 116, 32, 98, 101, 32, 110, 101, 103, 97, 116, 105, 118, 101]⟩)],
 oy .no [.t 7]])
 .skip))
 (.seq
 (.seq
 (.ops [0, 1] [
 ox 8 .mv [.t 1],
 ox 9 .mv [.t 0],
 ox 10 .cap [.t 9],
 ox 11 .mv [.t 0],
 ox 12 .len [.t 11],
 ox 13 (.arith .sub) [.t 10, .t 12],
 ox 14 (.arith .sub) [.t 8, .t 13],
 ox 1 .mv [.t 14]])
 (.seq
 (.ops [0, 1, 16] [
 ox 15 .mv [.t 1],
 ox 16 (.cmp .gtr) [.t 15, .c (.int .i64 0)]])
 (.cond (.t 16)
 (.ops [0] [
 ox 17 .mv [.t 0],
 ox 18 .mv [.t 0],
 ox 19 .cap [.t 18],
 ox 20 (.slice 1 false true false) [.t 17, .t 19],
 ox 21 .mv [.t 1],
 ox 22 (.appendZ [.int .u8 0] 1) [.t 20, .t 21],
 ox 23 .mv [.t 0],
 ox 24 .len [.t 23],
 ox 25 (.slice 1 false true false) [.t 22, .t 24],
 ox 0 .mv [.t 25]])
 .skip)))
 (.seq
 (.ops [4] [
 ox 26 .mv [.t 0],
 ox 4 .mv [.t 26]])
 .ret))))
def r148 : List ARes := [.tmp 4]
theorem ok148 : FnOk Tryz.prog 148 c148 r148 :=
 ⟨Tryz.f148, _, Tryz.func148, by kernel_rfl, rfl, by kernel_rfl, by kernel_rfl⟩
end Go.Proofs.YtehnkcnjmfbjpaaGreat
end
section
namespace Go.Proofs.YtehnkcnjmfbjpaaGreat
open Go.Adm
def d7_2 : ACode :=
 (.seq
 (.ops [1, 2, 4] [
 ox 15 (.call 29) [],
 ox 4 .mv [.t 15]])
 (.seq
 (.ops [1, 2, 4, 5] [
 ox 16 (.fieldAddr 0) [.t 1],
 ox 17 (.load false 1) [.t 16],
 ox 18 (.call 30) [.t 17],
 ox 5 .mv [.t 18]])
 (.seq
 (.ops [1, 2, 4, 5] [
 ox 19 .mv [.t 5],
 ox 20 (.call 31) [.t 19, .c (.int .i64 0)]])
 (.seq
 (.drawn [0] [
 od 21 .mv [.t 2] 0 2,
 od 22 .mv [.t 4] 0 2,
 od 23 (.iface 83) [.t 22] 0 2,
 od 24 (.load true 3) [.t 1] 0 2,
 od 25 (.call 32) [] 0 1,
 od 26 .mv [.t 5] 0 2,
 od 27 .mv [.t 2] 0 1,
 od 28 .mv [.t 4] 0 1,
 od 29 (.iface 83) [.t 28] 0 1,
 od 30 (.load true 3) [.t 1] 0 1,
 od 31 .mv [.t 5] 0 1,
 od 32 (.build [.int .i64 0, .int .i64 0] []) [] 0 1,
 od 33 (.build (List.replicate 32 (.int .u8 0)) []) [] 0 1,
 od 34 (.call 33) [.t 27, .t 29, .t 30, .t 31, .c (.int .i64 1), .t 32, .t 33] 1 2,
 od 35 (.build [.nilp, .nili, .int .i64 0, .int .i64 0, .int .i64 0, .nilp, .nilp, .nilp] [(0, 1), (1, 1), (2, 3), (5, 1), (6, 1), (7, 1)]) [.t 21, .t 23, .t 24, .t 25, .t 26, .t 34] 2 2,
 od 36 .box [.t 35] 2 2,
 od 0 .mv [.t 36] 2 2])
 .ret))))
def d7_1 : ACode :=
 (.seq
 (.ops [1, 2, 14] [
 ox 13 .mv [.t 3],
 ox 14 (.eq true .int) [.t 13, .c (.int .i64 0)]])
 (.cond (.t 14)
 (.seq
 (.ops [0] [
 ox 0 .mv [.c .nilp]])
 .ret)
 .skip))
theorem q7 : c7 =
 (.seq
 (.ops [] [
 ox 0 .mv [.c .nilp]])
 (.seq
 (.ops [1] [
 ox 6 (.call 26) [],
 ox 1 (.alloc [.int .i64 0, .int .i64 0, .int .i64 0]) [],
 oy (.store 3) [.t 1, .t 6]])
 (.seq
 (.ops [1, 2, 3] [
 ox 8 (.load true 3) [.t 1],
 ox 9 (.call 28) [.t 8],
 ox 10 (.call 27) [.t 9],
 ox 7 .mv [.t 10],
 ox 11 (.extract 0) [.t 7],
 ox 12 (.extract 1) [.t 7],
 ox 2 .mv [.t 11],
 ox 3 .mv [.t 12]])
 (.seq d7_1 d7_2)))) := rfl
def d8_2 : ACode :=
 (.seq
 (.ops [0, 1] [
 ox 7 .mv [.t 0],
 ox 8 .mv [.t 1],
 ox 9 (.arith .rem) [.t 7, .t 8],
 ox 0 .mv [.t 9]])
 (.seq
 (.seq
 (.ops [0, 1, 11] [
 ox 10 .mv [.t 0],
 ox 11 (.cmp .lss) [.t 10, .c (.int .i64 0)]])
 (.cond (.t 11)
 (.ops [0] [
 ox 12 .mv [.t 0],
 ox 13 .mv [.t 1],
 ox 14 (.arith .add) [.t 12, .t 13],
 ox 0 .mv [.t 14]])
 .skip))
 (.seq
 (.ops [4] [
 ox 15 .mv [.t 0],
 ox 4 .mv [.t 15]])
 .ret)))
def d8_1 : ACode :=
 (.seq
 (.ops [0, 1, 6] [
 ox 5 .mv [.t 1],
 ox 6 (.cmp .lss) [.t 5, .c (.int .i64 1)]])
 (.cond (.t 6)
 (.seq
 (.ops [4] [
 ox 4 .mv [.c (.int .i64 0)]])
 .ret)
 .skip))
theorem q8 : c8 =
 (.seq
 (.ops [0, 1] [
 ox 4 .mv [.c (.int .i64 0)]])
 (.seq d8_1 d8_2)) := rfl
def d10_2 : ACode :=
 (.seq
 (.drawn [0, 7, 9] [
 ox 26 .mv [.t 0],
 ox 27 .nilCheck [.t 26],
 ox 28 (.fieldAddr 5) [.t 27],
 ox 29 (.load false 1) [.t 28],
 ox 30 .mv [.t 1],
 ox 31 (.load true 33) [.t 7],
 od 32 (.call 38) [.t 29, .t 30, .t 31] 0 1,
 od 9 .mv [.t 32] 1 1])
 (.seq
 (.ops [0, 9] [
 ox 33 .mv [.t 0],
 ox 34 (.load true 33) [.t 7],
 ox 35 (.mkSl 1 ([.int .i64 0] ++ (List.replicate 32 (.int .u8 0))) [(0, 33)]) [.t 34],
 ox 36 (.call 39) [.t 33, .c (.int .i64 1), .t 35]])
 (.seq
 (.ops [] [
 ox 37 .mv [.t 0],
 ox 38 .mv [.t 9],
 ox 39 (.call 39) [.t 37, .c (.int .i64 (-1)), .t 38]])
 (.seq
 (.ops [6] [
 ox 6 .mv [.c (.int .i64 0)]])
 .ret))))
def d10_1 : ACode :=
 (.seq
 (.ops [0, 1, 7, 8, 24] [
 ox 23 .mv [.t 8],
 ox 24 (.eq true .int) [.t 23, .c (.int .i64 0)]])
 (.cond (.t 24)
 (.seq
 (.ops [6] [
 ox 25 .mv [.t 8],
 ox 6 .mv [.t 25]])
 .ret)
 .skip))
theorem q10 : c10 =
 (.seq
 (.ops [0, 1, 2] [
 ox 6 .mv [.c (.int .i64 0)]])
 (.seq
 (.drawn [0, 1, 7, 8] [
 od 11 .mv [.t 0] 0 2,
 od 12 .nilCheck [.t 11] 0 2,
 od 13 (.fieldAddr 7) [.t 12] 0 2,
 od 14 (.load false 1) [.t 13] 0 2,
 od 15 .mv [.t 1] 0 2,
 ox 16 .mv [.t 1],
 od 17 (.call 37) [.c .nils, .t 16] 0 1,
 od 18 .mv [.t 2] 0 1,
 od 19 (.append 1 1) [.t 17, .t 18] 1 2,
 od 20 (.call 36) [.t 14, .c (.int .i64 4), .t 15, .t 19] 2 3,
 od 10 .mv [.t 20] 3 3,
 od 21 (.extract 0) [.t 10] 3 3,
 od 22 (.extract 1) [.t 10] 3 4,
 od 7 (.alloc ([.int .i64 0] ++ (List.replicate 32 (.int .u8 0)))) [] 0 3,
 oe (.store 33) [.t 7, .t 21] 3 4,
 od 8 .mv [.t 22] 4 4])
 (.seq d10_1 d10_2))) := rfl
def e14_2 : ACode :=
 (.seq
 (.seq
 (.ops [4, 12, 85] [
 ox 80 .mv [.t 11],
 ox 81 (.eq true .int) [.t 80, .c (.int .i64 0)],
 ox 82 .mv [.t 81],
 og 83 .mv [.t 13] 82 false,
 og 84 .not [.t 83] 82 false,
 ox 85 .pick [.t 82, .c (.bool true), .t 84]])
 (.cond (.t 85)
 (.seq
 (.ops [4, 5] [
 ox 86 (.build ([.int .i64 0, .int .i64 0, .int .i64 0] ++ (List.replicate 32 (.int .u8 0) ++ ([.nils]))) []) [],
 oy (.store 36) [.t 4, .t 86],
 ox 5 .mv [.c (.bool false)]])
 .ret)
 .skip))
 (.seq
 (.ops [4, 5] [
 ox 87 (.load true 36) [.t 12],
 oy (.store 36) [.t 4, .t 87],
 ox 5 .mv [.c (.bool true)]])
 .ret))
def e14_1 : ACode :=
 (.seq
 (.ops [4, 10, 11, 12, 13, 56] [
 ox 56 .mv [.t 9]])
 (.block 0
 (.seq
 (.ops [4, 10, 11, 12, 13, 56, 57] [
 ox 58 (.eq false .int) [.t 56, .c (.int .i64 4)],
 ox 57 .mv [.t 58]])
 (.cond (.t 57)
 (.ops [4, 11, 12, 13] [
 ox 60 (.fieldAddr 4) [.t 10],
 ox 61 (.load false 1) [.t 60],
 ox 62 (.call 46) [.t 61],
 ox 59 .mv [.t 62],
 ox 63 (.extract 0) [.t 59],
 ox 64 (.extract 1) [.t 59],
 ox 65 (.extract 2) [.t 59],
 ox 66 (.fieldAddr 1) [.t 12],
 oy (.store 1) [.t 66, .t 63],
 ox 67 (.fieldAddr 35) [.t 12],
 oy (.store 1) [.t 67, .t 64],
 ox 13 .mv [.t 65]])
 (.seq
 (.ops [4, 10, 11, 12, 13, 68] [
 ox 69 (.eq false .int) [.t 56, .c (.int .i64 5)],
 ox 68 .mv [.t 69]])
 (.cond (.t 68)
 (.seq
 (.ops [4, 10, 11, 12] [
 ox 14 .mv [.c (.int .i64 0)]])
 (.seq
 (.ops [4, 11, 12, 14] [
 ox 71 (.fieldAddr 4) [.t 10],
 ox 72 (.load false 1) [.t 71],
 ox 73 (.call 47) [.t 72],
 ox 70 .mv [.t 73],
 ox 74 (.extract 0) [.t 70],
 ox 75 (.extract 1) [.t 70],
 ox 76 (.extract 2) [.t 70],
 ox 77 (.fieldAddr 1) [.t 12],
 oy (.store 1) [.t 77, .t 74],
 ox 14 .mv [.t 76]])
 (.ops [4, 11, 12, 13] [
 ox 78 .mv [.t 14],
 ox 79 (.eq false .int) [.t 78, .c (.int .i64 0)],
 ox 13 .mv [.t 79]])))
 .skip))))))
theorem s14 : c14 =
 (.seq
 (.ops [0, 3, 4] [
 ox 3 .box [.t 1],
 ox 4 (.alloc ([.int .i64 0, .int .i64 0, .int .i64 0] ++ (List.replicate 32 (.int .u8 0) ++ ([.nils])))) [],
 ox 5 .mv [.c (.bool false)]])
 (.seq
 (.drawn [0, 4, 6] [
 ox 15 .mv [.t 0],
 ox 16 .nilCheck [.t 15],
 ox 17 (.fieldAddr 2) [.t 16],
 ox 18 (.load true 3) [.t 17],
 ox 19 (.load true 2) [.t 3],
 od 20 (.call 43) [.t 18, .t 19] 0 1,
 od 6 .mv [.t 20] 1 1])
 (.seq
 (.seq
 (.ops [0, 4, 6, 22] [
 ox 21 .mv [.t 6],
 ox 22 (.eq false .int) [.t 21, .c (.int .i64 0)]])
 (.cond (.t 22)
 (.seq
 (.ops [4, 5] [
 ox 23 (.build ([.int .i64 0, .int .i64 0, .int .i64 0] ++ (List.replicate 32 (.int .u8 0) ++ ([.nils]))) []) [],
 oy (.store 36) [.t 4, .t 23],
 ox 5 .mv [.c (.bool false)]])
 .ret)
 .skip))
 (.seq
 (.ops [0, 4, 6, 7] [
 ox 25 .mv [.t 0],
 ox 26 .nilCheck [.t 25],
 ox 27 (.fieldAddr 0) [.t 26],
 ox 28 (.load false 1) [.t 27],
 ox 29 .mv [.t 6],
 ox 30 (.call 17) [.t 28, .t 29],
 ox 24 .mv [.t 30],
 ox 31 (.extract 0) [.t 24],
 ox 32 (.extract 1) [.t 24],
 ox 7 .mv [.t 31],
 ox 8 .mv [.t 32]])
 (.seq
 (.ops [0, 4, 6, 7, 9] [
 ox 33 .mv [.t 7],
 ox 34 (.call 44) [.t 33],
 ox 9 .mv [.t 34]])
 (.seq
 (.ops [0, 4, 6, 7, 9, 10, 11] [
 ox 36 .mv [.t 0],
 ox 37 .nilCheck [.t 36],
 ox 38 (.fieldAddr 1) [.t 37],
 ox 39 (.load false 1) [.t 38],
 ox 40 .mv [.t 9],
 ox 41 .mv [.t 6],
 ox 42 .mv [.t 7],
 ox 43 (.call 45) [.t 39, .t 40, .t 41, .t 42],
 ox 35 .mv [.t 43],
 ox 44 (.extract 0) [.t 35],
 ox 45 (.extract 1) [.t 35],
 ox 10 (.alloc [.int .i64 0, .int .i64 0, .int .i64 0, .int .i64 0, .nils]) [],
 oy (.store 5) [.t 10, .t 44],
 ox 11 .mv [.t 45]])
 (.seq
 (.ops [4, 9, 10, 11, 12, 13] [
 ox 46 .mv [.t 9],
 ox 47 .mv [.t 6],
 ox 48 .mv [.t 0],
 ox 49 .nilCheck [.t 48],
 ox 50 (.fieldAddr 1) [.t 49],
 ox 51 (.load false 1) [.t 50],
 ox 52 .mv [.t 7],
 ox 53 (.invoke "Sum") [.t 51, .t 52],
 ox 54 (.build ([.int .i64 0] ++ (List.replicate 32 (.int .u8 0))) [(0, 1), (1, 32)]) [.t 47, .t 53],
 ox 55 (.build ([.int .i64 0, .int .i64 0, .int .i64 0] ++ (List.replicate 32 (.int .u8 0) ++ ([.nils]))) [(0, 1), (2, 33)]) [.t 46, .t 54],
 ox 12 (.alloc ([.int .i64 0, .int .i64 0, .int .i64 0] ++ (List.replicate 32 (.int .u8 0) ++ ([.nils])))) [],
 oy (.store 36) [.t 12, .t 55],
 ox 13 .mv [.c (.bool false)]])
 (.seq e14_1 e14_2)))))))) := rfl
def d35_6 : ACode :=
 (.seq
 (.ops [0, 1, 7] [
 ox 51 .mv [.t 0],
 ox 52 (.load true 33) [.t 7],
 ox 53 (.mkSl 1 ([.int .i64 0] ++ (List.replicate 32 (.int .u8 0))) [(0, 33)]) [.t 52],
 ox 54 (.call 39) [.t 51, .c (.int .i64 1), .t 53]])
 (.seq
 (.drawn [4] [
 ox 55 .mv [.t 0],
 ox 56 .nilCheck [.t 55],
 ox 57 (.fieldAddr 5) [.t 56],
 ox 58 (.load false 1) [.t 57],
 ox 59 .mv [.t 1],
 ox 60 (.load true 33) [.t 7],
 od 61 (.call 65) [.t 58, .t 59, .t 60] 0 1,
 od 4 .mv [.t 61] 1 1])
 .ret))
def d35_5 : ACode :=
 (.seq
 (.ops [0, 1, 6, 7, 49] [
 ox 48 .mv [.t 6],
 ox 49 (.eq true .int) [.t 48, .c (.int .i64 0)]])
 (.cond (.t 49)
 (.seq
 (.ops [4] [
 ox 50 .mv [.t 6],
 ox 4 .mv [.t 50]])
 .ret)
 .skip))
def d35_4 : ACode :=
 (.seq
 (.ops [0, 1, 6, 7] [
 ox 39 .mv [.t 0],
 ox 40 .nilCheck [.t 39],
 ox 41 (.fieldAddr 7) [.t 40],
 ox 42 (.load false 1) [.t 41],
 ox 43 .mv [.t 1],
 ox 44 .mv [.t 5],
 ox 45 (.call 36) [.t 42, .c (.int .i64 5), .t 43, .t 44],
 ox 38 .mv [.t 45],
 ox 46 (.extract 0) [.t 38],
 ox 47 (.extract 1) [.t 38],
 ox 7 (.alloc ([.int .i64 0] ++ (List.replicate 32 (.int .u8 0)))) [],
 oy (.store 33) [.t 7, .t 46],
 ox 6 .mv [.t 47]])
 (.seq d35_5 d35_6))
def d35_3 : ACode :=
 (.seq
 (.ops [0, 1, 5, 6, 36] [
 ox 35 .mv [.t 6],
 ox 36 (.eq true .int) [.t 35, .c (.int .i64 0)]])
 (.cond (.t 36)
 (.seq
 (.ops [4] [
 ox 37 .mv [.t 6],
 ox 4 .mv [.t 37]])
 .ret)
 .skip))
def d35_2 : ACode :=
 (.seq
 (.ops [0, 1, 5, 6] [
 ox 25 .mv [.t 1],
 ox 26 .mv [.t 0],
 ox 27 .nilCheck [.t 26],
 ox 28 (.fieldAddr 5) [.t 27],
 ox 29 (.load false 1) [.t 28],
 ox 30 .mv [.t 1],
 ox 31 (.call 67) [.t 29, .t 30],
 ox 32 (.call 66) [.t 25, .t 31],
 ox 24 .mv [.t 32],
 ox 33 (.extract 0) [.t 24],
 ox 34 (.extract 1) [.t 24],
 ox 5 .mv [.t 33],
 ox 6 .mv [.t 34]])
 (.seq d35_3 d35_4))
def d35_1 : ACode :=
 (.seq
 (.ops [0, 1, 17] [
 ox 8 .mv [.t 1],
 ox 9 (.eq false .int) [.t 8, .c (.int .i64 0)],
 ox 10 .mv [.t 9],
 og 11 .mv [.t 0] 10 true,
 og 12 .nilCheck [.t 11] 10 true,
 og 13 (.fieldAddr 5) [.t 12] 10 true,
 og 14 (.load false 1) [.t 13] 10 true,
 og 15 (.call 64) [.t 14] 10 true,
 og 16 (.eq false .int) [.t 15, .c (.int .i64 0)] 10 true,
 ox 17 .pick [.t 10, .t 16, .c (.bool false)]])
 (.cond (.t 17)
 (.seq
 (.ops [4] [
 ox 18 .mv [.t 0],
 ox 19 .nilCheck [.t 18],
 ox 20 (.fieldAddr 5) [.t 19],
 ox 21 (.load false 1) [.t 20],
 ox 22 (.build ([.int .i64 0] ++ (List.replicate 32 (.int .u8 0))) []) [],
 ox 23 (.call 65) [.t 21, .c (.int .i64 0), .t 22],
 ox 4 .mv [.t 23]])
 .ret)
 .skip))
theorem q35 : c35 =
 (.seq
 (.ops [0, 1] [
 ox 4 .mv [.c (.int .i64 0)]])
 (.seq d35_1 d35_2)) := rfl
def e36_2 : ACode :=
 (.seq
 (.seq
 (.ops [1, 3, 4, 6, 8, 10, 11] [
 ox 47 (.load false 1) [.t 4],
 ox 48 (.call 69) [.t 47],
 ox 11 .mv [.t 48]])
 (.seq
 (.ops [1, 3, 4, 6, 8, 10, 11, 50] [
 ox 49 .mv [.t 11],
 ox 50 (.eq true .int) [.t 49, .c (.int .i64 0)]])
 (.cond (.t 50)
 (.seq
 (.ops [8, 9] [
 ox 51 (.build ([.int .i64 0] ++ (List.replicate 32 (.int .u8 0))) []) [],
 ox 52 .mv [.t 11],
 oy (.store 33) [.t 8, .t 51],
 ox 9 .mv [.t 52]])
 .ret)
 .skip)))
 (.seq
 (.ops [1, 3, 4, 6, 8, 10, 12] [
 ox 53 (.load false 1) [.t 4],
 ox 54 .nilCheck [.t 53],
 ox 55 (.fieldAddr 7) [.t 54],
 ox 56 (.fieldAddr 1) [.t 55],
 ox 57 (.load false 1) [.t 56],
 ox 12 (.alloc [.int .i64 0]) [],
 oy (.store 1) [.t 12, .t 57]])
 (.seq
 (.ops [4, 6, 8, 10, 12, 13, 14] [
 ox 59 (.load false 1) [.t 4],
 ox 60 .mv [.t 1],
 ox 61 .mv [.t 3],
 ox 62 (.call 70) [.t 59, .t 60, .t 61],
 ox 58 .mv [.t 62],
 ox 63 (.extract 0) [.t 58],
 ox 64 (.extract 1) [.t 58],
 ox 13 (.alloc ([.int .i64 0] ++ (List.replicate 32 (.int .u8 0)))) [],
 oy (.store 33) [.t 13, .t 63],
 ox 14 .mv [.t 64]])
 (.seq
 (.ops [8, 13, 14] [
 ox 65 (.load true 33) [.t 13],
 ox 66 .mv [.t 14],
 ox 67 (.mkFn (.func 72) 0) [.t 4, .t 10, .t 6, .t 12],
 ox 68 (.call 71) [.t 65, .t 66, .t 67],
 ox 14 .mv [.t 68]])
 (.seq
 (.seq
 (.ops [8, 13, 14, 70] [
 ox 69 .mv [.t 14],
 ox 70 (.eq true .int) [.t 69, .c (.int .i64 0)]])
 (.cond (.t 70)
 (.seq
 (.ops [8, 9] [
 ox 71 (.build ([.int .i64 0] ++ (List.replicate 32 (.int .u8 0))) []) [],
 ox 72 .mv [.t 14],
 oy (.store 33) [.t 8, .t 71],
 ox 9 .mv [.t 72]])
 .ret)
 .skip))
 (.seq
 (.ops [8, 9] [
 ox 73 (.load true 33) [.t 13],
 oy (.store 33) [.t 8, .t 73],
 ox 9 .mv [.c (.int .i64 0)]])
 .ret))))))
def e36_1 : ACode :=
 (.block 0
 (.seq
 (.ops [1, 3, 4, 6, 8, 10, 18] [
 ox 19 (.load false 1) [.t 10],
 ox 20 (.eq false .int) [.t 19, .c (.int .i64 0)],
 ox 21 .mv [.t 20],
 og 22 .mv [.t 3] 21 false,
 og 23 .len [.t 22] 21 false,
 og 24 (.cmp .gtr) [.t 23, .c (.int .i64 975)] 21 false,
 ox 25 .pick [.t 21, .c (.bool true), .t 24],
 ox 18 .mv [.t 25]])
 (.cond (.t 18)
 (.seq
 (.ops [8, 9] [
 ox 26 (.build ([.int .i64 0] ++ (List.replicate 32 (.int .u8 0))) []) [],
 oy (.store 33) [.t 8, .t 26],
 ox 9 .mv [.c (.int .i64 1)]])
 .ret)
 (.seq
 (.ops [1, 3, 4, 6, 8, 10, 27] [
 ox 28 (.load false 1) [.t 4],
 ox 29 (.call 51) [.t 28],
 ox 30 .mv [.t 29],
 og 31 (.load false 1) [.t 4] 30 true,
 og 32 (.call 52) [.t 31, .c (.int .i64 0)] 30 true,
 og 33 .mv [.t 32] 30 true,
 og 34 (.load false 1) [.t 4] 33 false,
 og 35 (.call 52) [.t 34, .c (.int .i64 1)] 33 false,
 og 36 .mv [.t 35] 33 false,
 og 37 (.load false 1) [.t 4] 36 true,
 og 38 .nilCheck [.t 37] 36 true,
 og 39 (.fieldAddr 41) [.t 38] 36 true,
 og 40 (.load false 1) [.t 39] 36 true,
 og 41 .len [.t 40] 36 true,
 og 42 (.eq false .int) [.t 41, .c (.int .i64 15)] 36 true,
 og 43 .pick [.t 36, .t 42, .c (.bool false)] 33 false,
 og 44 .pick [.t 33, .c (.bool true), .t 43] 30 true,
 ox 45 .pick [.t 30, .t 44, .c (.bool false)],
 ox 27 .mv [.t 45]])
 (.cond (.t 27)
 (.seq
 (.ops [8, 9] [
 ox 46 (.build ([.int .i64 0] ++ (List.replicate 32 (.int .u8 0))) []) [],
 oy (.store 33) [.t 8, .t 46],
 ox 9 .mv [.c (.int .i64 11)]])
 .ret)
 .skip)))))
theorem s36 : c36 =
 (.seq
 (.ops [1, 3, 4, 6, 8] [
 ox 4 .box [.t 0],
 ox 6 .box [.t 2],
 ox 8 (.alloc ([.int .i64 0] ++ (List.replicate 32 (.int .u8 0)))) [],
 ox 9 .mv [.c (.int .i64 0)]])
 (.seq
 (.ops [1, 3, 4, 6, 8, 10] [
 ox 15 .mv [.t 1],
 ox 16 (.load false 1) [.t 6],
 ox 17 (.call 68) [.t 15, .t 16],
 ox 10 (.alloc [.int .i64 0]) [],
 oy (.store 1) [.t 10, .t 17]])
 (.seq e36_1 e36_2))) := rfl
def c142_2 : ACode :=
 (.seq
 (.drawn [10] [
 od 61 .mv [.t 4] 0 1,
 od 62 (.mkSlice [.int .u8 0] 1) [.c (.int .i64 24), .c (.int .i64 24)] 0 1,
 ox 63 .mv [.t 12],
 od 64 (.call 146) [.t 63] 0 1,
 od 65 (.mkSl 3 [.nils, .nils, .nils] [(0, 1), (1, 1), (2, 1)]) [.t 61, .t 62, .t 64] 1 1,
 od 66 (.call 145) [.t 65] 1 2,
 od 10 .mv [.t 66] 2 2])
 .ret)
def c142_1 : ACode :=
 (.seq
 (.ops [0, 4, 11, 12, 39] [
 ox 38 .mv [.t 13],
 ox 39 .not [.t 38]])
 (.cond (.t 39)
 (.seq
 (.drawn [0, 4, 11] [
 od 40 .mv [.t 0] 0 1,
 ox 41 .mv [.t 0],
 ox 42 .nilCheck [.t 41],
 ox 43 (.fieldAddr 1) [.t 42],
 ox 44 (.load false 1) [.t 43],
 ox 45 (.load true 4) [.t 11],
 ox 46 (.mkSl 1 [.int .i64 0, .int .i64 0, .str ⟨#[]⟩, .str ⟨#[]⟩] [(0, 4)]) [.t 45],
 od 47 (.append 4 48) [.t 44, .t 46] 0 1,
 od 48 .nilCheck [.t 40] 1 1,
 od 49 (.fieldAddr 1) [.t 48] 1 1,
 oe (.store 1) [.t 49, .t 47] 1 2])
 (.seq
 (.ops [0, 4, 11, 12] [
 ox 50 .mv [.t 0],
 ox 51 .nilCheck [.t 50],
 ox 52 (.fieldAddr 1) [.t 51],
 ox 53 (.load false 1) [.t 52],
 ox 54 .len [.t 53],
 ox 12 .mv [.t 54]])
 (.drawn [4, 12] [
 ox 55 .mv [.t 0],
 ox 56 .nilCheck [.t 55],
 ox 57 (.fieldAddr 0) [.t 56],
 ox 58 (.load false 1) [.t 57],
 ox 59 (.load true 4) [.t 11],
 ox 60 .mv [.t 12],
 oe (.mapSet (.agg [.i, .i, .s, .s])) [.t 58, .t 59, .t 60] 0 1])))
 .skip))
theorem p142 : c142 =
 (.seq
 (.ops [0, 1, 2, 3, 4] [
 ox 10 .mv [.c .nils]])
 (.seq
 (.seq
 (.ops [0, 1, 2, 3, 4, 21] [
 ox 14 .mv [.t 1],
 ox 15 (.call 147) [.t 14],
 ox 16 .not [.t 15],
 ox 17 .mv [.t 16],
 og 18 .mv [.t 2] 17 false,
 og 19 (.call 147) [.t 18] 17 false,
 og 20 .not [.t 19] 17 false,
 ox 21 .pick [.t 17, .c (.bool true), .t 20]])
 (.cond (.t 21)
 (.seq
 (.ops [10] [
 ox 10 .mv [.c .nils]])
 .ret)
 .skip))
 (.seq
 (.ops [0, 4, 11] [
 ox 22 .mv [.t 1],
 ox 23 .mv [.t 2],
 ox 24 .mv [.t 3],
 ox 25 .b2s [.t 24],
 ox 26 .mv [.t 4],
 ox 27 .b2s [.t 26],
 ox 28 (.build [.int .i64 0, .int .i64 0, .str ⟨#[]⟩, .str ⟨#[]⟩] [(0, 1), (1, 1), (2, 1), (3, 1)]) [.t 22, .t 23, .t 25, .t 27],
 ox 11 (.alloc [.int .i64 0, .int .i64 0, .str ⟨#[]⟩, .str ⟨#[]⟩]) [],
 oy (.store 4) [.t 11, .t 28]])
 (.seq
 (.drawn [0, 4, 11, 12, 13] [
 ox 30 .mv [.t 0],
 ox 31 .nilCheck [.t 30],
 ox 32 (.fieldAddr 0) [.t 31],
 ox 33 (.load false 1) [.t 32],
 ox 34 (.load true 4) [.t 11],
 ox 35 (.lookup (.agg [.i, .i, .s, .s]) (.int .i64 0) true) [.t 33, .t 34],
 ox 29 .mv [.t 35],
 ox 36 (.extract 0) [.t 29],
 ox 37 (.extract 1) [.t 29],
 ox 12 .mv [.t 36],
 ox 13 .mv [.t 37]])
 (.seq c142_1 c142_2))))) := rfl
def c143_2 : ACode :=
 (.seq
 (.ops [4, 5, 7] [
 ox 7 (.alloc (List.replicate 32 (.int .u8 0))) []])
 (.seq
 (.seq
 (.ops [4, 5, 7, 34] [
 ox 34 .mv [.c (.int .i64 0)]])
 (.block 0
 (.loop [4, 5, 7, 34]
 (.seq
 (.ops [4, 5, 7, 34, 35] [
 ox 35 (.cmp .lss) [.t 34, .c (.int .i64 32)]])
 (.seq
 (.cond (.t 35)
 .skip
 (.exit 0))
 (.seq
 (.block 1
 (.seq
 (.ops [4, 5, 7, 8, 34] [
 ox 36 .mv [.t 34],
 ox 8 .mv [.t 36]])
 (.ops [4, 5, 7, 34] [
 ox 37 .mv [.t 8],
 ox 38 (.idxAddrArr 32 1) [.t 7, .t 37],
 oy (.store 1) [.t 38, .c (.int .u8 1)]])))
 (.ops [4, 5, 7, 34] [
 ox 39 (.arith .add) [.t 34, .c (.int .i64 1)],
 ox 34 .mv [.t 39]])))))))
 (.seq
 (.drawn [4, 7] [
 od 40 (.sliceArr 32 1 true false false) [.t 7, .c (.int .i64 24)] 0 1,
 ox 41 .mv [.t 5],
 od 42 (.call 146) [.t 41] 0 1,
 od 43 (.copy 1) [.t 40, .t 42] 1 2])
 (.seq
 (.ops [4] [
 ox 44 (.load true 32) [.t 7],
 oy (.store 32) [.t 4, .t 44]])
 .ret))))
def c143_1 : ACode :=
 (.seq
 (.ops [0, 1, 4, 5, 20] [
 ox 19 .mv [.t 6],
 ox 20 .not [.t 19]])
 (.cond (.t 20)
 (.seq
 (.ops [0, 1, 4, 5] [
 ox 21 .mv [.t 0],
 ox 22 .nilCheck [.t 21],
 ox 23 (.fieldAddr 2) [.t 22],
 ox 24 (.load false 1) [.t 23],
 ox 25 .lenMap [.t 24],
 ox 26 (.arith .add) [.t 25, .c (.int .i64 1)],
 ox 5 .mv [.t 26]])
 (.drawn [4, 5] [
 ox 27 .mv [.t 0],
 ox 28 .nilCheck [.t 27],
 ox 29 (.fieldAddr 2) [.t 28],
 ox 30 (.load false 1) [.t 29],
 ox 31 .mv [.t 1],
 ox 32 .b2s [.t 31],
 ox 33 .mv [.t 5],
 oe (.mapSet (.one .s)) [.t 30, .t 32, .t 33] 0 1]))
 .skip))
theorem p143 : c143 =
 (.seq
 (.ops [0, 1, 4] [
 ox 4 (.alloc (List.replicate 32 (.int .u8 0))) []])
 (.seq
 (.drawn [0, 1, 4, 5, 6] [
 ox 10 .mv [.t 0],
 ox 11 .nilCheck [.t 10],
 ox 12 (.fieldAddr 2) [.t 11],
 ox 13 (.load false 1) [.t 12],
 ox 14 .mv [.t 1],
 ox 15 .b2s [.t 14],
 ox 16 (.lookup (.one .s) (.int .i64 0) true) [.t 13, .t 15],
 ox 9 .mv [.t 16],
 ox 17 (.extract 0) [.t 9],
 ox 18 (.extract 1) [.t 9],
 ox 5 .mv [.t 17],
 ox 6 .mv [.t 18]])
 (.seq c143_1 c143_2))) := rfl
end Go.Proofs.YtehnkcnjmfbjpaaGreat
end
section
namespace Go.Proofs.YtehnkcnjmfbjpaaGreat
open Go Go.Adm
set_option linter.unusedSimpArgs false
set_option maxRecDepth 100000
def lent (l : List B8) : List B8 := tab (l.length + 5) fun j => if j < l.length then gb l j else 165#8
theorem lent_len (l : List B8) : (lent l).length = l.length + 5 := tab_len _ _
def lq1 := And.intro @lenB (@lent_len)
theorem ans_samebytes {m : Mem} {x y : AV} {a b : List B8} (hx : RdB m x a) (hy : RdB m y b) (hl : a.length < 1152921504606846976) : Ans Tryz.prog 16 [x, y] m fun r m' => r = .bool (a == b) ∧ m' = m := by
 refine ans_ret mixed ok16 ?_
 by_cases h : a.length = b.length
 ·have h' : ((a.length : Int) == (b.length : Int)) = true := by rw [h]; simp
  simp -implicitDefEqProofs (disch := (first | omega | (simp only [lq1] <;> omega) | fail)) only [admQ, lq1, aFill, AK.cls, implies_true, if_true, if_false, seval, -List.reduceReplicate, c16, r16, hx.len, hy.len, h']
  refine LoopW.on (fun i : Nat => [(0, x), (1, y), (5, .int .i64 i)]) (fun i => a.length - i) (fun i m' => m' = m ∧ i ≤ a.length ∧ ∀ j, j < i → gb a j = gb b j) ?_ 0 _ _ rfl ⟨rfl, by omega, fun j hj => by omega⟩
  rintro i _ X ⟨rfl, hi, hj⟩ hX
  by_cases hlt : i < a.length
  ·obtain ⟨b1, o1, cap1, s1, c1, rfl, hr1, hg1, hl1, hc1, hs1, ht1⟩ := hx.cons hlt
   obtain ⟨b2, o2, cap2, s2, c2, rfl, hr2, hg2, hl2, hc2, hs2, ht2⟩ := hy.cons (by omega : i < b.length)
   have e1 := hg1 i hlt
   have e2 := hg2 i (by omega)
   cases he : gb a i == gb b i
   ·have hne : (a == b) = false := by
     rw [beq_eq_false_iff_ne]; rintro rfl; simp at he
    simp -implicitDefEqProofs (disch := (first | omega | (simp only [lq1] <;> omega) | fail)) only [admQ, lq1, aFill, AK.cls, implies_true, if_true, if_false, seval, -List.reduceReplicate, hr1, hr2, e1, e2, he, hne]
   ·simp -implicitDefEqProofs (disch := (first | omega | (simp only [lq1] <;> omega) | fail)) only [admQ, lq1, aFill, AK.cls, implies_true, if_true, if_false, seval, -List.reduceReplicate, hr1, hr2, e1, e2, he]
    refine hX (i + 1) _ _ rfl (by omega) ⟨rfl, by omega, fun j hj2 => ?_⟩
    by_cases hji : j = i
    ·subst hji; simpa using he
    ·exact hj j (by omega)
  ·have he : (a == b) = true := by rw [beq_iff_eq]; exact gb_ext h fun j hj2 => hj j (by omega)
   simp -implicitDefEqProofs (disch := (first | omega | (simp only [lq1] <;> omega) | fail)) only [admQ, lq1, aFill, AK.cls, implies_true, if_true, if_false, seval, -List.reduceReplicate, hx.len, he]
 ·have h' : ((a.length : Int) == (b.length : Int)) = false := by rw [beq_eq_false_iff_ne]; omega
  have he : (a == b) = false := by rw [beq_eq_false_iff_ne]; rintro rfl; exact h rfl
  simp -implicitDefEqProofs (disch := (first | omega | (simp only [lq1] <;> omega) | fail)) only [admQ, lq1, aFill, AK.cls, implies_true, if_true, if_false, seval, -List.reduceReplicate, c16, r16, hx.len, hy.len, h', he]
end Go.Proofs.YtehnkcnjmfbjpaaGreat
end
section
namespace Go.Proofs.YtehnkcnjmfbjpaaGreat
open Go Go.Adm
set_option linter.unusedSimpArgs false
set_option linter.unusedVariables false
set_option maxRecDepth 100000
theorem nw64 {k : Nat} (h : k < 18446744073709551616) : IntKind.u64.wrap (k : Int) = k := by
 rw [wr_u64, BitVec.ofInt_natCast, BitVec.toNat_ofNat, Nat.mod_eq_of_lt h]
def numB (v : Nat) : List B8 := lowB v 8
theorem numB_len (v : Nat) : (numB v).length = 8 := lowB_len _ _
def lq2 := And.intro @lenB (And.intro @lowB_len (@numB_len))
theorem ans_nnumber (v : Nat) (hv : v < 4611686018427387904) (m : Mem) : Ans Tryz.prog 146 [.int .i64 v] m fun r m' => ∃ p, r = .sl p 0 8 8 0 ∧ Kept [] m m' ∧ m.length ≤ p ∧ own m' p = some (bys (numB v)) := by
 refine ans_ret mixed ok146 ?_
 simp -implicitDefEqProofs (disch := (first | omega | (simp only [lq2] <;> omega) | fail)) only [admQ, lq2, aFill, AK.cls, implies_true, if_true, if_false, seval, -List.reduceReplicate, c146, r146]
 have hr : rep 8 [AV.int .u8 0] = bys (upTo 8 (fun i => byV v (7 - i)) (fun _ => 0#8) 0) := by rw [upTo_zero, tab_const]; rfl
 simp -implicitDefEqProofs (disch := (first | omega | (simp only [lq2] <;> omega) | fail)) only [admQ, lq2, aFill, AK.cls, implies_true, if_true, if_false, seval, -List.reduceReplicate, hr]
 refine LoopW.on (fun i : Nat => [(0, .int .i64 v), (3, .sl m.length 0 8 8 0), (7, .int .i64 8), (8, .int .i64 i)]) (fun i => 8 - i)
  (fun i M => i ≤ 8 ∧ M = m ++ [.row (bys (upTo 8 (fun i => byV v (7 - i)) (fun _ => 0#8) i)) false]) ?_ 0 _ _ rfl ⟨by omega, rfl⟩
 rintro i M X ⟨hi, rfl⟩ hX
 by_cases hlt : i < 8
 ·have hw : IntKind.u8.wrap ((v >>> (8 * (7 - i)) : Nat) : Int) = ((byV v (7 - i)).toNat : Int) := wrap_u8 _
  have hu := upTo_set (n := 8) (i := i) (f := fun i => byV v (7 - i)) (g := fun _ => 0#8)
  simp -implicitDefEqProofs (disch := (first | omega | (simp only [lq2] <;> omega) | fail)) only [admQ, lq2, aFill, AK.cls, implies_true, if_true, if_false, seval, -List.reduceReplicate, fdiv_nat, hw, @nw64, splice_byte, hu]
  exact hX (i + 1) _ _ rfl (by omega) ⟨by omega, rfl⟩
 ·obtain rfl : i = 8 := by omega
  rw [upTo_all]
  simp -implicitDefEqProofs (disch := (first | omega | (simp only [lq2] <;> omega) | fail)) only [admQ, lq2, aFill, AK.cls, implies_true, if_true, if_false, seval, -List.reduceReplicate]
  exact ⟨_, rfl, .app _ _ _, Nat.le_refl _, by rw [own_app_at0]; rfl⟩
def within (e : Int) : Prop := 0 ≤ e ∧ e ≤ 1099511627776
instance (e : Int) : Decidable (within e) := by unfold within; infer_instance
theorem ans_nwithin (e : Int) (m : Mem) : Ans Tryz.prog 147 [.int .i64 e] m fun r m' => r = .bool (decide (within e)) ∧ m' = m := by
 refine ans_ret mixed ok147 ?_
 by_cases h1 : e ≥ 0
 ·by_cases h2 : e ≤ 1099511627776
  ·simp -implicitDefEqProofs (disch := (first | omega | (simp only [lq2] <;> omega) | fail)) only [admQ, lq2, aFill, AK.cls, implies_true, if_true, if_false, seval, -List.reduceReplicate, c147, r147, dec_t h1, dec_t h2, dec_t (show within e from ⟨h1, h2⟩)]
  ·simp -implicitDefEqProofs (disch := (first | omega | (simp only [lq2] <;> omega) | fail)) only [admQ, lq2, aFill, AK.cls, implies_true, if_true, if_false, seval, -List.reduceReplicate, c147, r147, dec_t h1, dec_f h2, dec_f (show ¬ within e from fun h => h2 h.2)]
 ·simp -implicitDefEqProofs (disch := (first | omega | (simp only [lq2] <;> omega) | fail)) only [admQ, lq2, aFill, AK.cls, implies_true, if_true, if_false, seval, -List.reduceReplicate, c147, r147, dec_f h1, dec_f (show ¬ within e from fun h => h1 h.1)]
theorem ans_slgrow (n : Nat) (hn : n ≤ 1000000000) (m : Mem) : Ans Tryz.prog 148 [.nils, .int .i64 n] m fun r m' => Kept [] m m' ∧ Room m.length m' r [] n := by
 refine ans_ret mixed ok148 ?_
 by_cases h0 : n = 0
 ·subst h0
  simp -implicitDefEqProofs (disch := (first | omega | (simp only [lq2] <;> omega) | fail)) only [admQ, lq2, aFill, AK.cls, implies_true, if_true, if_false, seval, -List.reduceReplicate, c148, r148, mapR, pCap]
  exact ⟨.refl _ _, .inl ⟨rfl, rfl, rfl⟩⟩
 ·simp -implicitDefEqProofs (disch := (first | omega | (simp only [lq2] <;> omega) | fail)) only [admQ, lq2, aFill, AK.cls, implies_true, if_true, if_false, seval, -List.reduceReplicate, c148, r148, mapR, pCap, aAppendZ]
  refine ⟨.app _ _ _, .inr ⟨by omega, m.length, rfl, ?_, Nat.le_refl _, by simp⟩⟩
  rw [own_app_at0]
  have hr : rep n [AV.int .u8 0] = bys (List.replicate n 0#8) := by rw [← bys_rep]; simp [rep]
  simp [own_c0, hr]
theorem ans_slconcat {m : Mem} {p k : Nat} {xs : List AV} {ls : List (List B8)} (hp : rowOf m p = some xs) (hr : RdL m xs ls) (hk : ls.length = k) (hb : k ≤ 1000 ∧ ls.flatten.length ≤ 900000000) :
  Ans Tryz.prog 145 [.sl p 0 k k 0] m fun r m' => Kept [] m m' ∧ GrB m.length m' r ls.flatten := by
 refine ans_ret mixed ok145 ?_
 simp -implicitDefEqProofs (disch := (first | omega | (simp only [lq2] <;> omega) | fail)) only [admQ, lq2, aFill, AK.cls, implies_true, if_true, if_false, seval, -List.reduceReplicate, c145, r145]
 refine LoopW.on (fun i : Nat => [(0, .sl p 0 k k 0), (3, .int .i64 ((ls.take i).flatten.length : Nat)), (9, .sl p 0 k k 0), (10, .int .i64 k), (11, .int .i64 i)]) (fun i => k - i) (fun i M => i ≤ k ∧ M = m) ?_ 0 _ _ rfl ⟨by omega, rfl⟩
 rintro i M X ⟨hi, rfl⟩ hX
 by_cases hlt : i < k
 ·obtain ⟨l, hl⟩ : ∃ l, ls[i]? = some l := ⟨_, List.getElem?_eq_getElem (by omega)⟩
  obtain ⟨y, hy, hyr⟩ := hr.2 i l hl
  have hcat := flat_take hl
  have h1 := flat_len (ls := ls) (i + 1)
  rw [hcat, List.length_append] at h1
  simp -implicitDefEqProofs (disch := (first | omega | (simp only [lq2] <;> omega) | fail)) only [admQ, lq2, aFill, AK.cls, implies_true, if_true, if_false, seval, -List.reduceReplicate, hp, hy, hyr.len]
  refine hX (i + 1) _ _ ?_ (by omega) ⟨by omega, rfl⟩
  rw [hcat, List.length_append]
  rfl
 ·obtain rfl : i = k := by omega
  rw [List.take_of_length_le (by omega)]
  simp -implicitDefEqProofs (disch := (first | omega | (simp only [lq2] <;> omega) | fail)) only [admQ, lq2, aFill, AK.cls, implies_true, if_true, if_false, seval, -List.reduceReplicate]
  clear hX X
  refine (ans_slgrow _ (by omega) _).mono ?_
  rintro z m1 ⟨k1, g1⟩
  simp -implicitDefEqProofs (disch := (first | omega | (simp only [lq2] <;> omega) | fail)) only [admQ, lq2, aFill, AK.cls, implies_true, if_true, if_false, seval, -List.reduceReplicate]
  refine LoopW.on (fun t : Nat × AV => [(6, t.2), (25, .sl p 0 i i 0), (26, .int .i64 i), (27, .int .i64 t.1)]) (fun t => i - t.1) (fun t N => t.1 ≤ i ∧ Kept [] M N ∧ Room M.length N t.2 (ls.take t.1).flatten ls.flatten.length) ?_ (0, z) _ _ rfl ⟨by simp, k1, g1⟩
  clear k1 g1 hlt hi
  rintro ⟨j, v⟩ N X ⟨hj, kk, g⟩ hX
  change Room M.length N v (ls.take j).flatten _ at g
  simp only at hj
  by_cases hlt : j < i
  ·obtain ⟨l, hl⟩ : ∃ l, ls[j]? = some l := ⟨_, List.getElem?_eq_getElem (by omega)⟩
   obtain ⟨y, hy, hyr⟩ := hr.2 j l hl
   have hrow := kk.row hp (by simp)
   have hcat := flat_take hl
   have h1 := flat_len (ls := ls) (j + 1)
   rw [hcat, List.length_append] at h1
   simp -implicitDefEqProofs (disch := (first | omega | (simp only [lq2] <;> omega) | fail)) only [admQ, lq2, aFill, AK.cls, implies_true, if_true, if_false, seval, -List.reduceReplicate, hrow, hy]
   obtain ⟨x3, m3, e3, g3, k3⟩ := g.push (hyr.kept0 kk) h1
   refine someW_eq e3 ?_
   simp -implicitDefEqProofs (disch := (first | omega | (simp only [lq2] <;> omega) | fail)) only [admQ, lq2, aFill, AK.cls, implies_true, if_true, if_false, seval, -List.reduceReplicate]
   refine hX (j + 1, x3) _ _ rfl (by simp only; omega) ⟨by simp only; omega, kk.upon k3 g.low, ?_⟩
   show Room M.length m3 x3 (ls.take (j + 1)).flatten _
   rw [hcat]; exact g3
  ·obtain rfl : j = i := by omega
   rw [List.take_of_length_le (by omega)] at g
   simp -implicitDefEqProofs (disch := (first | omega | (simp only [lq2] <;> omega) | fail)) only [admQ, lq2, aFill, AK.cls, implies_true, if_true, if_false, seval, -List.reduceReplicate]
   exact ⟨kk, g.all rfl⟩
theorem ans_slequal {m : Mem} {x y : AV} {a b : List B8} (hx : RdB m x a) (hy : RdB m y b) (hl : a.length < 1152921504606846976) : Ans Tryz.prog 144 [x, y] m fun r m' => r = .bool (a == b) ∧ m' = m := by
 refine ans_ret mixed ok144 ?_
 by_cases h : a.length = b.length
 ·have h' : ((a.length : Int) == (b.length : Int)) = true := by rw [h]; simp
  simp -implicitDefEqProofs (disch := (first | omega | (simp only [lq2] <;> omega) | fail)) only [admQ, lq2, aFill, AK.cls, implies_true, if_true, if_false, seval, -List.reduceReplicate, c144, r144, hx.len, hy.len, h', Bool.not_true]
  refine LoopW.on (fun i : Nat => [(0, x), (1, y), (12, .int .i64 a.length), (13, .int .i64 i)]) (fun i => a.length - i) (fun i m' => m' = m ∧ i ≤ a.length ∧ ∀ j, j < i → gb a j = gb b j) ?_ 0 _ _ rfl ⟨rfl, by omega, fun j hj => by omega⟩
  rintro i _ X ⟨rfl, hi, hj⟩ hX
  by_cases hlt : i < a.length
  ·obtain ⟨b1, o1, cap1, s1, c1, rfl, hr1, hg1, hl1, hc1, hs1, ht1⟩ := hx.cons hlt
   obtain ⟨b2, o2, cap2, s2, c2, rfl, hr2, hg2, hl2, hc2, hs2, ht2⟩ := hy.cons (by omega : i < b.length)
   have e1 := hg1 i hlt
   have e2 := hg2 i (by omega)
   cases he : gb a i == gb b i
   ·have hne : (a == b) = false := by
     rw [beq_eq_false_iff_ne]; rintro rfl; simp at he
    simp -implicitDefEqProofs (disch := (first | omega | (simp only [lq2] <;> omega) | fail)) only [admQ, lq2, aFill, AK.cls, implies_true, if_true, if_false, seval, -List.reduceReplicate, hr1, hr2, e1, e2, he, hne, Bool.not_false]
   ·simp -implicitDefEqProofs (disch := (first | omega | (simp only [lq2] <;> omega) | fail)) only [admQ, lq2, aFill, AK.cls, implies_true, if_true, if_false, seval, -List.reduceReplicate, hr1, hr2, e1, e2, he, Bool.not_true]
    refine hX (i + 1) _ _ rfl (by omega) ⟨rfl, by omega, fun j hj2 => ?_⟩
    by_cases hji : j = i
    ·subst hji; simpa using he
    ·exact hj j (by omega)
  ·have he : (a == b) = true := by rw [beq_iff_eq]; exact gb_ext h fun j hj2 => hj j (by omega)
   simp -implicitDefEqProofs (disch := (first | omega | (simp only [lq2] <;> omega) | fail)) only [admQ, lq2, aFill, AK.cls, implies_true, if_true, if_false, seval, -List.reduceReplicate, hx.len, he]
 ·have h' : ((a.length : Int) == (b.length : Int)) = false := by rw [beq_eq_false_iff_ne]; omega
  have he : (a == b) = false := by rw [beq_eq_false_iff_ne]; rintro rfl; exact h rfl
  simp -implicitDefEqProofs (disch := (first | omega | (simp only [lq2] <;> omega) | fail)) only [admQ, lq2, aFill, AK.cls, implies_true, if_true, if_false, seval, -List.reduceReplicate, c144, r144, hx.len, hy.len, h', he, Bool.not_false]
theorem ans_slclone {m : Mem} {x : AV} {l : List B8} (hx : RdB m x l) (hl : l.length ≤ 1000000000) : Ans Tryz.prog 49 [x] m fun r m' => Kept [] m m' ∧ GrB m.length m' r l ∧ ∀ b ∈ blkOf r, m.length ≤ b := by
 refine ans_ret mixed ok49 ?_
 rcases hx with ⟨rfl, rfl⟩ | ⟨b, o, cap, s, c, rfl, h2⟩
 ·simp -implicitDefEqProofs (disch := (first | omega | (simp only [lq2] <;> omega) | fail)) only [admQ, lq2, aFill, AK.cls, implies_true, if_true, if_false, seval, -List.reduceReplicate, c49, r49]
  exact ⟨.refl _ _, .nils .., by simp [blkOf]⟩
 ·have hx : RdB m (.sl b o l.length cap s) l := .inr ⟨b, o, cap, s, c, rfl, h2⟩
  simp -implicitDefEqProofs (disch := (first | omega | (simp only [lq2] <;> omega) | fail)) only [admQ, lq2, aFill, AK.cls, implies_true, if_true, if_false, seval, -List.reduceReplicate, c49, r49]
  have gz : GrB m.length (m ++ [Blk.row [] false]) (.sl m.length 0 0 0 0) [] := .zero (by rw [own_app_at0]; rfl)
  obtain ⟨x4, m4, e4, g4, k4, a4, n4⟩ := GrA.pushs5 (sz := 1) (bytes := 1) gz Nat.one_pos (hx.app [Blk.row [] false]).elems (hx.app [Blk.row [] false]).lenA (by simp) (by simp; omega) (by simp)
  refine someW_eq e4 ?_
  simp -implicitDefEqProofs (disch := (first | omega | (simp only [lq2] <;> omega) | fail)) only [admQ, lq2, aFill, AK.cls, implies_true, if_true, if_false, seval, -List.reduceReplicate]
  refine ⟨a4 _ _ (.app _ _ _) (Nat.le_refl _), by simpa [GrB] using g4, fun q hq => ?_⟩
  by_cases h0 : 0 < l.length
  ·have := n4 h0 q hq; simp at this; omega
  ·have e := app_none (m := m ++ [Blk.row [] false]) (size := 1) (bytes := 1) (s := .sl m.length 0 0 0 0) (x := .sl b o l.length cap s) (congrArg some (show l.length = 0 by omega)) rfl
   rw [e] at e4; cases e4
   simp [blkOf] at hq; omega
end Go.Proofs.YtehnkcnjmfbjpaaGreat
end
section
namespace Go.Proofs.YtehnkcnjmfbjpaaGreat
open Go Go.Adm
set_option linter.unusedSimpArgs false
set_option linter.unusedVariables false
set_option maxRecDepth 100000
abbrev Sd := Int × Int × List B8 × List B8
def sdC (s : Sd) : List AV := [.int .i64 s.1, .int .i64 s.2.1, .str (strOf s.2.2.1), .str (strOf s.2.2.2)]
def sdK (s : Sd) : AV := .agg (sdC s)
def txK (t : List B8) : AV := .str (strOf t)
abbrev sdM : MK := .agg [.i, .i, .s, .s]
theorem sd_key (a b : Sd) : mapEq sdM (sdK a) (sdK b) = some (decide (a = b)) := by
 obtain ⟨a1, a2, a3, a4⟩ := a
 obtain ⟨b1, b2, b3, b4⟩ := b
 simp only [mapEq, sdK, sdC, aEqCells, aEqCk, if_true, Option.bind_some, Option.map_some, strOf_beq, Bool.and_true]
 congr 1
 rw [Bool.eq_iff_iff]
 simp [Prod.ext_iff]
theorem sd_fit (a : Sd) : keyFits sdM (sdK a) = true := rfl
theorem tx_key (a b : List B8) : mapEq (.one .s) (txK a) (txK b) = some (decide (a = b)) := by
 simp only [mapEq, txK, aEqCk, strOf_beq]
 congr 1
 rw [Bool.eq_iff_iff]; simp
theorem tx_fit (a : List B8) : keyFits (.one .s) (txK a) = true := rfl
structure Nm (m : Mem) (x : Nat) (W : List Nat) (S : List Sd) (T : List (List B8)) : Prop where
 ex : ∃ bs v bt, own m x = some [.map bs, v, .map bt] ∧ MapR sdK m bs S ∧ GrA 4 0 m v (S.flatMap sdC) ∧ MapR txK m bt T ∧ W = x :: bs :: bt :: blkOf v ∧ bs ≠ bt ∧ x ∉ blkOf v
theorem Nm.kept {m m' : Mem} {x : Nat} {W X : List Nat} {S : List Sd} {T : List (List B8)} (h : Nm m x W S T) (hk : Kept X m m') (hX : ∀ b ∈ W, b ∉ X) : Nm m' x W S T := by
 obtain ⟨bs, v, bt, h1, h2, h3, h4, rfl, h6⟩ := h.ex
 exact ⟨bs, v, bt, hk.own h1 (hX x (by simp)), h2.kept hk (hX bs (by simp)), h3.kept hk (fun b hb => hX b (by simp [hb])), h4.kept hk (hX bt (by simp)), rfl, h6⟩
theorem Nm.kept0 {m m' : Mem} {x : Nat} {W : List Nat} {S : List Sd} {T : List (List B8)} (h : Nm m x W S T) (hk : Kept [] m m') : Nm m' x W S T := h.kept hk (by simp)
theorem Nm.lt {m : Mem} {x : Nat} {W : List Nat} {S : List Sd} {T : List (List B8)} (h : Nm m x W S T) : ∀ b ∈ W, b < m.length := by
 obtain ⟨bs, v, bt, h1, h2, h3, h4, rfl, h6⟩ := h.ex
 simp only [List.mem_cons]
 rintro b (rfl | rfl | rfl | hb)
 ·exact own_lt h1
 ·exact h2.lt
 ·exact h4.lt
 ·exact h3.lt b hb
theorem ans_nnew (m : Mem) : Ans Tryz.prog 29 [] m fun r m' => ∃ x W, r = .ptr x 0 ∧ Kept [] m m' ∧ Nm m' x W [] [] ∧ ∀ b ∈ W, m.length ≤ b := by
 refine ans_ret mixed ok29 ?_
 simp -implicitDefEqProofs (disch := (first | omega | (simp only [lq2] <;> omega) | fail)) only [admQ, lq2, aFill, AK.cls, implies_true, if_true, if_false, seval, -List.reduceReplicate, c29, r29, mapR, mkMp]
 refine ⟨m.length + 2, [m.length + 2, m.length, m.length + 1], rfl, .app _ _ _, ⟨m.length, .nils, m.length + 1, ?_, ?_, .nils .., ?_, rfl, by omega, by simp [blkOf]⟩, by simp⟩
 ·rw [own_app_at]; rfl
 ·exact (MapR.new sdK m).at_ (by simp)
 ·have := MapR.new txK (m ++ [.map [] 0])
  rw [List.length_append] at this
  exact this.at_ (by simp)
def addN {α : Type} [DecidableEq α] (s : α) (S : List α) : List α := if s ∈ S then S else S ++ [s]
def posN {α : Type} [DecidableEq α] (s : α) (S : List α) : Nat := ((fidx s S).getD S.length) + 1
def zeros (n : Nat) : List B8 := List.replicate n 0#8
def nsealB (S : List Sd) (s : Sd) : List B8 := s.2.2.2 ++ zeros 24 ++ numB (posN s S)
theorem sd_len (S : List Sd) : (S.flatMap sdC).length = S.length * 4 := by
 induction S with
 | nil => rfl
 | cons a l ih => rw [List.flatMap_cons, List.length_append, ih, List.length_cons]; simp only [sdC, List.length_cons, List.length_nil]; omega
def nsealQ (m : Mem) (x : Nat) (W : List Nat) (S : List Sd) (T : List (List B8)) (e n : Int) (head plain : List B8) (r : AV) (m' : Mem) : Prop :=
 (within e ∧ within n → ∃ W', Kept W m m' ∧ Nm m' x W' (addN (e, n, head, plain) S) T ∧ (∀ b ∈ W', b ∈ W ∨ m.length ≤ b) ∧ GrB m.length m' r (nsealB S (e, n, head, plain)) ∧ ∀ b ∈ blkOf r, b ∉ W') ∧
   (¬ (within e ∧ within n) → r = .nils ∧ Kept [] m m')
theorem nsealTail {m M : Mem} {x : Nat} {W W' : List Nat} {S : List Sd} {T : List (List B8)} {bx : AV} {e n : Int} {head plain : List B8} (hp : within e ∧ within n) (hb : RdB M bx plain) (hS : S.length ≤ 1000) (hl : plain.length ≤ 100000)
  (hk : Kept W m M) (hN : Nm M x W' (addN (e, n, head, plain) S) T) (hW : ∀ b ∈ W', b ∈ W ∨ m.length ≤ b) (k : Nat) (hk1 : k = posN (e, n, head, plain) S) (hk2 : k ≤ 1001) :
  wpA Tryz.prog c142_2 [(4, bx), (12, .int .i64 (k : Int))] M (retQ [.tmp 10] (nsealQ m x W S T e n head plain)) := by
 simp -implicitDefEqProofs (disch := (first | omega | (simp only [lq2] <;> omega) | fail)) only [admQ, lq2, aFill, AK.cls, implies_true, if_true, if_false, seval, -List.reduceReplicate, c142_2]
 have hr : rep 24 [AV.int .u8 0] = bys (zeros 24) := rfl
 simp -implicitDefEqProofs (disch := (first | omega | (simp only [lq2] <;> omega) | fail)) only [admQ, lq2, aFill, AK.cls, implies_true, if_true, if_false, seval, -List.reduceReplicate, hr]
 refine (ans_nnumber k (by omega) _).mono ?_
 rintro _ m1 ⟨p, rfl, k1, hp1, op⟩
 have oZ : own (M ++ [Blk.row (bys (zeros 24)) false]) M.length = some (bys (zeros 24)) := by rw [own_app_at0]; rfl
 have kA := Kept.app [] M [Blk.row (bys (zeros 24)) false]
 have hAl : (M ++ [Blk.row (bys (zeros 24)) false]).length = M.length + 1 := by simp
 have hEq : (M ++ [Blk.row (bys (zeros 24)) false])[M.length]? = some (.row (bys (zeros 24)) false) := by simp
 generalize M ++ [Blk.row (bys (zeros 24)) false] = A at *
 have hE : m1[M.length]? = some (.row (bys (zeros 24)) false) := by rw [k1.eq _ (by omega) (by simp)]; exact hEq
 simp -implicitDefEqProofs (disch := (first | omega | (simp only [lq2] <;> omega) | fail)) only [admQ, lq2, aFill, AK.cls, implies_true, if_true, if_false, seval, -List.reduceReplicate, hE, (rd_one hb).1, (rd_one hb).2]
 have oZ1 := k1.own oZ (by simp)
 have K1 := kA.trans k1
 have rl : RdL (m1 ++ [Blk.row [bx, .sl M.length 0 24 24 0, .sl p 0 8 8 0] false]) [bx, .sl M.length 0 24 24 0, .sl p 0 8 8 0] [plain, zeros 24, numB k] :=
  .cons ((hb.kept0 K1).app _) (.cons (RdB.row (l := zeros 24) 24 0 (rowOf_own (own_app oZ1 _)) (by simp [zeros])) (.cons (RdB.row (l := numB k) 8 0 (rowOf_own (own_app op _)) (by rw [numB_len]; omega)) (.nil _)))
 have hfl : [plain, zeros 24, numB k].flatten = nsealB S (e, n, head, plain) := by simp [nsealB, hk1]
 have K2 := K1.more_app [Blk.row [bx, .sl M.length 0 24 24 0, .sl p 0 8 8 0] false]
 have rB : rowOf (m1 ++ [Blk.row [bx, .sl M.length 0 24 24 0, .sl p 0 8 8 0] false]) m1.length = some [bx, .sl M.length 0 24 24 0, .sl p 0 8 8 0] := by rw [rowOf_app_at0]; rfl
 generalize m1 ++ [Blk.row [bx, .sl M.length 0 24 24 0, .sl p 0 8 8 0] false] = C at *
 refine (ans_slconcat (k := 3) rB rl rfl ⟨by omega, by simp [zeros, numB_len]; omega⟩).mono ?_
 rintro r m3 ⟨k3, g3⟩
 simp -implicitDefEqProofs (disch := (first | omega | (simp only [lq2] <;> omega) | fail)) only [admQ, lq2, aFill, AK.cls, implies_true, if_true, if_false, seval, -List.reduceReplicate]
 rw [hfl] at g3
 have hMC := K2.len
 have hmM := hk.len
 have hgb := GrA.blk g3 (by intro h0; have := congrArg List.length h0; simp [nsealB, numB_len] at this)
 refine ⟨fun _ => ⟨W', hk.trans (K2.trans k3 |>.more (by simp)), hN.kept0 (K2.trans k3), hW, g3.low (by omega), fun b hb1 hb2 => ?_⟩, fun h => absurd hp h⟩
 have := hN.lt b hb2
 have := hgb b hb1
 omega
theorem ans_nseal {m : Mem} {x : Nat} {W : List Nat} {S : List Sd} {T : List (List B8)} {hx bx : AV} {e n : Int} {head plain : List B8} (hN : Nm m x W S T) (hh : RdB m hx head) (hb : RdB m bx plain)
  (hd : ∀ b ∈ blkOf bx, b ∉ W) (hS : S.length ≤ 1000) (hl : head.length ≤ 100000 ∧ plain.length ≤ 100000) :
  Ans Tryz.prog 142 [.ptr x 0, .int .i64 e, .int .i64 n, hx, bx] m (nsealQ m x W S T e n head plain) := by
 refine ans_ret mixed ok142 ?_
 simp -implicitDefEqProofs (disch := (first | omega | (simp only [lq2] <;> omega) | fail)) only [admQ, lq2, aFill, AK.cls, implies_true, if_true, if_false, seval, -List.reduceReplicate, p142, r142]
 refine (ans_nwithin e _).mono ?_
 rintro _ M ⟨rfl, hM⟩
 subst hM
 by_cases he : within e
 ·simp -implicitDefEqProofs (disch := (first | omega | (simp only [lq2] <;> omega) | fail)) only [admQ, lq2, aFill, AK.cls, implies_true, if_true, if_false, seval, -List.reduceReplicate, dec_t he, Bool.not_true]
  refine (ans_nwithin n _).mono ?_
  rintro _ M ⟨rfl, hM⟩
  subst hM
  by_cases hn : within n
  ·obtain ⟨bs, v, bt, h1, h2, h3, h4, rfl, h6, h7⟩ := hN.ex
   simp -implicitDefEqProofs (disch := (first | omega | (simp only [lq2] <;> omega) | fail)) only [admQ, lq2, aFill, AK.cls, implies_true, if_true, if_false, seval, -List.reduceReplicate, dec_t hn, Bool.not_true, mapR, hh.b2s, hb.b2s]
   have k0 := Kept.app [] M [Blk.row [.int .i64 e, .int .i64 n, .str (strOf head), .str (strOf plain)] false]
   have o0 : own (M ++ [Blk.row [.int .i64 e, .int .i64 n, .str (strOf head), .str (strOf plain)] false]) M.length = some [.int .i64 e, .int .i64 n, .str (strOf head), .str (strOf plain)] := by rw [own_app_at0]; rfl
   generalize M ++ [Blk.row [.int .i64 e, .int .i64 n, .str (strOf head), .str (strOf plain)] false] = A at k0 o0
   have g1 := k0.own h1 (by simp)
   have g2 := h2.kept k0 (by simp)
   have g3 := h3.kept0 k0
   have g4 := h4.kept k0 (by simp)
   have lk : rLookup (.agg [.i, .i, .s, .s]) (.int .i64 0) true A [.map bs, .agg [.int .i64 e, .int .i64 n, .str (strOf head), .str (strOf plain)]] = some (lookR (fidx (e, n, head, plain) S)) := g2.look sd_key sd_fit (e, n, head, plain)
   have hMA := k0.len
   cases hf : fidx (e, n, head, plain) S with
   | some i =>
    rw [hf] at lk
    simp -implicitDefEqProofs (disch := (first | omega | (simp only [lq2] <;> omega) | fail)) only [admQ, lq2, aFill, AK.cls, implies_true, if_true, if_false, seval, -List.reduceReplicate, rowOf_own g1, rowOf_own o0, mapR, lk, lookR]
    have hin := List.mem_of_getElem? (fidx_some hf)
    have hpos : i + 1 = posN (e, n, head, plain) S := by simp [posN, hf]
    have hi := fidx_lt hf
    refine wp_join2 [4, 12] (fun _ : Unit => [(4, bx), (12, .int .i64 ((i + 1 : Nat) : Int))]) (fun _ M' => M' = A) rfl ?_ ?_
    ·simp -implicitDefEqProofs (disch := (first | omega | (simp only [lq2] <;> omega) | fail)) only [admQ, lq2, aFill, AK.cls, implies_true, if_true, if_false, seval, -List.reduceReplicate, c142_1, joins, Bool.not_true]
     exact ⟨(), trivial⟩
    ·rintro _ M' rfl
     exact nsealTail ⟨he, hn⟩ (hb.kept0 k0) hS hl.2 (k0.more (by simp)) (by rw [addN, if_pos hin]; exact hN.kept0 k0) (fun b hb => .inl hb) _ hpos (by omega)
   | none =>
    rw [hf] at lk
    simp -implicitDefEqProofs (disch := (first | omega | (simp only [lq2] <;> omega) | fail)) only [admQ, lq2, aFill, AK.cls, implies_true, if_true, if_false, seval, -List.reduceReplicate, rowOf_own g1, rowOf_own o0, mapR, lk, lookR]
    have hin := fidx_none.mp hf
    have hpos : S.length + 1 = posN (e, n, head, plain) S := by simp [posN, hf]
    refine wp_join2 [4, 12] (fun _ : Unit => [(4, bx), (12, .int .i64 ((S.length + 1 : Nat) : Int))]) (fun _ M' => ∃ W', Kept (x :: bs :: bt :: blkOf v) M M' ∧ RdB M' bx plain ∧ Nm M' x W' (S ++ [(e, n, head, plain)]) T ∧ ∀ b ∈ W', b ∈ x :: bs :: bt :: blkOf v ∨ M.length ≤ b) rfl ?_ ?_
    ·simp -implicitDefEqProofs (disch := (first | omega | (simp only [lq2] <;> omega) | fail)) only [admQ, lq2, aFill, AK.cls, implies_true, if_true, if_false, seval, -List.reduceReplicate, c142_1, joins, Bool.not_false, rowOf_own g1, rowOf_own o0]
     have hsl := sd_len S
     have hvM : M.length ∉ blkOf v := fun h => by have := hN.lt M.length (by simp [h]); omega
     have hvA : A.length ∉ blkOf v := fun h => by have := hN.lt A.length (by simp [h]); omega
     have hxM : x < M.length := hN.lt x (by simp)
     have kB := Kept.app [] A [Blk.row (sdC (e, n, head, plain)) false]
     have hBE : (A ++ [Blk.row (sdC (e, n, head, plain)) false])[A.length]? = some (.row (sdC (e, n, head, plain)) false) := by simp
     have hBl : (A ++ [Blk.row (sdC (e, n, head, plain)) false]).length = A.length + 1 := by simp
     obtain ⟨v2, m2, e2, gv2, kv2, av2, nv2⟩ := GrA.pushs5 (bytes := 48) (k := 1) (y := .sl A.length 0 1 1 0) (l2 := sdC (e, n, head, plain)) (g3.kept0 kB) (by omega) (elemsS_one A rfl) rfl rfl (by omega) (Nat.zero_le _)
     refine someW_eq e2 ?_
     generalize A ++ [Blk.row (sdC (e, n, head, plain)) false] = B at *
     have x1 := kv2.own (kB.own g1 (by simp)) h7
     have oM := kv2.own (kB.own o0 (by simp)) hvM
     have cE : m2[A.length]? = some (.row [.int .i64 e, .int .i64 n, .str (strOf head), .str (strOf plain)] false) := by rw [kv2.eq _ (by omega) hvA]; exact hBE
     have kM2 : Kept (x :: bs :: bt :: blkOf v) M m2 := (((k0.trans kB).more (by simp)).trans (kv2.more fun q hq _ => by simp [hq]))
     have hbsx : bs ≠ x := MapR.ne_own h2 h1
     have hbtx : bt ≠ x := MapR.ne_own h4 h1
     have hbsM : bs < M.length := h2.lt
     have hbtM : bt < M.length := h4.lt
     have hx2 := own_lt x1
     have hvbs : bs ∉ blkOf v := MapR.ne_gr h2 h3
     have hvbt : bt ∉ blkOf v := MapR.ne_gr h4 h3
     have hv2b : ∀ b ∈ blkOf v2, B.length ≤ b := nv2 (by omega)
     have hxv2 : x ∉ blkOf v2 := fun h => by have := hv2b x h; omega
     have hbsv2 : bs ∉ blkOf v2 := fun h => by have := hv2b bs h; omega
     have gb2 := (g2.kept kB (by simp)).kept kv2 hvbs
     have gt2 := (g4.kept kB (by simp)).kept kv2 hvbt
     have kX := Kept.set1 m2 x (.row [.map bs, v2, .map bt] false)
     have x3 := own_set hx2 [AV.map bs, v2, AV.map bt]
     have oM3 := own_set_ne' oM (show x ≠ M.length by omega) (.row [.map bs, v2, .map bt] false)
     have gv3 := gv2.kept kX (by simpa using fun b hb (h : b = x) => hxv2 (h ▸ hb))
     have gb3 := gb2.kept kX (by simpa using hbsx)
     have gt3 := gt2.kept kX (by simpa using hbtx)
     have cE3 : (m2.set x (.row [.map bs, v2, .map bt] false))[A.length]? = some (.row [.int .i64 e, .int .i64 n, .str (strOf head), .str (strOf plain)] false) := by rw [List.getElem?_set_ne (by omega)]; exact cE
     have kM3 := kM2.trans (kX.more fun q hq _ => by simp at hq; simp [hq])
     simp -implicitDefEqProofs (disch := (first | omega | (simp only [lq2] <;> omega) | fail)) only [admQ, lq2, aFill, AK.cls, implies_true, if_true, if_false, seval, -List.reduceReplicate, rowOf_own x1, rowOf_own oM, x1, cE, (gr_one gv2).1, (gr_one gv2).2, rowOf_own x3, rowOf_own oM3, x3, cE3]
     obtain ⟨bv, nn, rfl, hn0, hnl, hbv, _⟩ := gv3.sl (by intro h0; have := congrArg List.length h0; simp [sdC] at this)
     have hnn : nn = S.length + 1 := by
      rw [List.length_append, hsl] at hnl
      simp only [sdC, List.length_cons, List.length_nil] at hnl
      omega
     subst hnn
     generalize m2.set x (.row [.map bs, .sl bv 0 (S.length + 1) (S.length + 1) 4, .map bt] false) = m3 at *
     obtain ⟨m4, eM, mr4, k4⟩ := gb3.add sd_key sd_fit hin
     have eM' : aMapSet (.agg [.i, .i, .s, .s]) m3 [.map bs, .agg [.int .i64 e, .int .i64 n, .str (strOf head), .str (strOf plain)], .int .i64 ((S.length + 1 : Nat) : Int)] = some (.tup [], m4) := eM
     have x4 := k4.own x3 (by simpa using hbsx.symm)
     have oM4 := k4.own oM3 (by simp; omega)
     simp -implicitDefEqProofs (disch := (first | omega | (simp only [lq2] <;> omega) | fail)) only [admQ, lq2, aFill, AK.cls, implies_true, if_true, if_false, seval, -List.reduceReplicate, rowOf_own x3, rowOf_own oM3, mapR, eM', rowOf_own x4, rowOf_own oM4, joins]
     have kM4 := kM3.trans (k4.more fun q hq _ => by simp at hq; simp [hq])
     refine ⟨(), x :: bs :: bt :: blkOf (.sl bv 0 (S.length + 1) (S.length + 1) 4), kM4, hb.kept kM4 (fun b o n cap s h => hd b (by rw [h]; simp [blkOf])), ⟨bs, _, bt, x4, mr4, ?_, gt3.kept k4 (by simpa using h6.symm), rfl, h6, hxv2⟩, fun b hb => ?_⟩
     ·rw [List.flatMap_append, List.flatMap_singleton]
      exact gv3.kept k4 (by simpa using fun b hb (h : b = bs) => hbsv2 (h ▸ hb))
     ·simp only [List.mem_cons] at hb ⊢
      rcases hb with rfl | rfl | rfl | hb
      ·exact .inl (.inl rfl)
      ·exact .inl (.inr (.inl rfl))
      ·exact .inl (.inr (.inr (.inl rfl)))
      ·have := hv2b b hb; exact .inr (by omega)
    ·rintro _ M' ⟨W', hk, hb', hN', hW⟩
     exact nsealTail ⟨he, hn⟩ hb' hS hl.2 hk (by rw [addN, if_neg hin]; exact hN') hW _ hpos (by omega)
  ·simp -implicitDefEqProofs (disch := (first | omega | (simp only [lq2] <;> omega) | fail)) only [admQ, lq2, aFill, AK.cls, implies_true, if_true, if_false, seval, -List.reduceReplicate, dec_f hn, Bool.not_false]
   exact ⟨fun h => absurd h.2 hn, fun _ => by first | exact ⟨rfl, .refl _ _⟩ | exact .refl _ _⟩
 ·simp -implicitDefEqProofs (disch := (first | omega | (simp only [lq2] <;> omega) | fail)) only [admQ, lq2, aFill, AK.cls, implies_true, if_true, if_false, seval, -List.reduceReplicate, dec_f he, Bool.not_false]
  exact ⟨fun h => absurd h.1 he, fun _ => by first | exact ⟨rfl, .refl _ _⟩ | exact .refl _ _⟩
def nopenP (S : List Sd) (e n : Int) (head b : List B8) : Prop :=
 32 ≤ b.length ∧ ∃ i, fidx (e, n, head, b.take (b.length - 32)) S = some i ∧ b.drop (b.length - 32) = zeros 24 ++ numB (i + 1)
theorem ans_nopen {m : Mem} {x : Nat} {W : List Nat} {S : List Sd} {T : List (List B8)} {hx bx : AV} {e n : Int} {head b : List B8} (hN : Nm m x W S T) (hh : RdB m hx head) (hb : RdB m bx b) (hS : S.length ≤ 1000) (hl : head.length ≤ 100000 ∧ b.length ≤ 100000) :
  Ans Tryz.prog 141 [.ptr x 0, .int .i64 e, .int .i64 n, hx, bx] m fun r m' => Kept [] m m' ∧
   (nopenP S e n head b → ∃ v, r = .tup [v, .bool true] ∧ GrB m.length m' v (b.take (b.length - 32)) ∧ ∀ q ∈ blkOf v, m.length ≤ q) ∧ (¬ nopenP S e n head b → r = .tup [.nils, .bool false]) := by
 refine ans_ret mixed ok141 ?_
 by_cases h32 : b.length < 32
 ·have hno : ¬ nopenP S e n head b := fun h => by have := h.1; omega
  simp -implicitDefEqProofs (disch := (first | omega | (simp only [lq2] <;> omega) | fail)) only [admQ, lq2, aFill, AK.cls, implies_true, if_true, if_false, seval, -List.reduceReplicate, c141, r141, hb.len]
  exact ⟨.refl _ _, fun h => absurd h hno⟩
 ·obtain ⟨q, o, cap, sl, cc, rfl, hrow, hat, hlen, hcap, hsl, htk⟩ := hb.cons (i := 0) (by omega)
  obtain ⟨bs, v, bt, h1, h2, h3, h4, rfl, h6, h7⟩ := hN.ex
  have hpl := hb.take (k := b.length - 32) (by omega)
  have htg := hb.drop (k := b.length - 32) (by omega)
  have hp8 : (b.take (b.length - 32)).length = b.length - 32 := by simp
  have ht8 : (b.drop (b.length - 32)).length = 32 := by simp; omega
  have lk : rLookup (.agg [.i, .i, .s, .s]) (.int .i64 0) true m [.map bs, .agg [.int .i64 e, .int .i64 n, .str (strOf head), .str (strOf (b.take (b.length - 32)))]] = some (lookR (fidx (e, n, head, b.take (b.length - 32)) S)) := h2.look sd_key sd_fit (e, n, head, b.take (b.length - 32))
  cases hf : fidx (e, n, head, b.take (b.length - 32)) S with
  | none =>
   rw [hf] at lk
   have hno : ¬ nopenP S e n head b := fun h => by obtain ⟨_, i, hi, _⟩ := h; rw [hf] at hi; cases hi
   simp -implicitDefEqProofs (disch := (first | omega | (simp only [lq2] <;> omega) | fail)) only [admQ, lq2, aFill, AK.cls, implies_true, if_true, if_false, seval, -List.reduceReplicate, c141, r141, rowOf_own h1, mapR, hh.b2s, hpl.b2s, lk, lookR, Bool.not_false]
   exact ⟨.refl _ _, fun h => absurd h hno⟩
  | some i =>
   rw [hf] at lk
   have hi := fidx_lt hf
   simp -implicitDefEqProofs (disch := (first | omega | (simp only [lq2] <;> omega) | fail)) only [admQ, lq2, aFill, AK.cls, implies_true, if_true, if_false, seval, -List.reduceReplicate, c141, r141, rowOf_own h1, mapR, hh.b2s, hpl.b2s, lk, lookR, Bool.not_true]
   have hr : rep 24 [AV.int .u8 0] = bys (zeros 24) := rfl
   simp -implicitDefEqProofs (disch := (first | omega | (simp only [lq2] <;> omega) | fail)) only [admQ, lq2, aFill, AK.cls, implies_true, if_true, if_false, seval, -List.reduceReplicate, hr]
   refine (ans_nnumber (i + 1) (by omega) _).mono ?_
   rintro _ m1 ⟨p, rfl, k1, hp1, op⟩
   have oZ : own (m ++ [Blk.row (bys (zeros 24)) false]) m.length = some (bys (zeros 24)) := by rw [own_app_at0]; rfl
   have kA := Kept.app [] m [Blk.row (bys (zeros 24)) false]
   have hAl : (m ++ [Blk.row (bys (zeros 24)) false]).length = m.length + 1 := by simp
   have hEq : (m ++ [Blk.row (bys (zeros 24)) false])[m.length]? = some (.row (bys (zeros 24)) false) := by simp
   generalize m ++ [Blk.row (bys (zeros 24)) false] = A at *
   have hE : m1[m.length]? = some (.row (bys (zeros 24)) false) := by rw [k1.eq _ (by omega) (by simp)]; exact hEq
   simp -implicitDefEqProofs (disch := (first | omega | (simp only [lq2] <;> omega) | fail)) only [admQ, lq2, aFill, AK.cls, implies_true, if_true, if_false, seval, -List.reduceReplicate, hE]
   have oZ1 := k1.own oZ (by simp)
   have K1 := kA.trans k1
   have rl : RdL (m1 ++ [Blk.row [.sl m.length 0 24 24 0, .sl p 0 8 8 0] false]) [.sl m.length 0 24 24 0, .sl p 0 8 8 0] [zeros 24, numB (i + 1)] :=
    .cons (RdB.row (l := zeros 24) 24 0 (rowOf_own (own_app oZ1 _)) (by simp [zeros])) (.cons (RdB.row (l := numB (i + 1)) 8 0 (rowOf_own (own_app op _)) (by rw [numB_len]; omega)) (.nil _))
   have hfl : [zeros 24, numB (i + 1)].flatten = zeros 24 ++ numB (i + 1) := by simp
   have K2 := K1.more_app [Blk.row [.sl m.length 0 24 24 0, .sl p 0 8 8 0] false]
   have rB : rowOf (m1 ++ [Blk.row [.sl m.length 0 24 24 0, .sl p 0 8 8 0] false]) m1.length = some [.sl m.length 0 24 24 0, .sl p 0 8 8 0] := by rw [rowOf_app_at0]; rfl
   have hE2 : (m1 ++ [Blk.row [.sl m.length 0 24 24 0, .sl p 0 8 8 0] false])[m.length]? = some (.row (bys (zeros 24)) false) := by rw [List.getElem?_append_left (by have := k1.len; omega)]; exact hE
   have hB2 : (m1 ++ [Blk.row [.sl m.length 0 24 24 0, .sl p 0 8 8 0] false])[m1.length]? = some (.row [.sl m.length 0 24 24 0, .sl p 0 8 8 0] false) := by simp
   have hCl : (m1 ++ [Blk.row [.sl m.length 0 24 24 0, .sl p 0 8 8 0] false]).length = m1.length + 1 := by simp
   have hm1 := K1.len
   generalize m1 ++ [Blk.row [.sl m.length 0 24 24 0, .sl p 0 8 8 0] false] = C at *
   refine (ans_slconcat (k := 2) rB rl rfl ⟨by omega, by simp [zeros, numB_len]⟩).mono ?_
   rintro r m3 ⟨k3, g3⟩
   rw [hfl] at g3
   have hE3 : m3[m.length]? = some (.row (bys (zeros 24)) false) := by rw [k3.eq _ (by omega) (by simp)]; exact hE2
   have hB3 : m3[m1.length]? = some (.row [.sl m.length 0 24 24 0, .sl p 0 8 8 0] false) := by rw [k3.eq _ (by omega) (by simp)]; exact hB2
   have K3 := K2.trans k3
   simp -implicitDefEqProofs (disch := (first | omega | (simp only [lq2] <;> omega) | fail)) only [admQ, lq2, aFill, AK.cls, implies_true, if_true, if_false, seval, -List.reduceReplicate, hE3, hB3]
   refine (ans_slequal (htg.kept0 K3) g3.rd (by omega)).mono ?_
   rintro _ M ⟨rfl, hM⟩
   subst hM
   by_cases hq : b.drop (b.length - 32) = zeros 24 ++ numB (i + 1)
   ·have hyes : nopenP S e n head b := ⟨by omega, i, hf, hq⟩
    simp -implicitDefEqProofs (disch := (first | omega | (simp only [lq2] <;> omega) | fail)) only [admQ, lq2, aFill, AK.cls, implies_true, if_true, if_false, seval, -List.reduceReplicate, beq_iff_eq.mpr hq, Bool.not_true, hE3, hB3]
    refine (ans_slclone (hpl.kept0 K3) (by omega)).mono ?_
    rintro v m4 ⟨k4, g4, hb4⟩
    simp -implicitDefEqProofs (disch := (first | omega | (simp only [lq2] <;> omega) | fail)) only [admQ, lq2, aFill, AK.cls, implies_true, if_true, if_false, seval, -List.reduceReplicate]
    have := K3.len
    exact ⟨K3.trans k4, fun _ => ⟨v, rfl, g4.low this, fun q hq => Nat.le_trans this (hb4 q hq)⟩, fun h => absurd hyes h⟩
   ·have hno : ¬ nopenP S e n head b := fun h => by
     obtain ⟨_, j, hj, hq'⟩ := h
     rw [hf] at hj; cases hj
     exact hq hq'
    simp -implicitDefEqProofs (disch := (first | omega | (simp only [lq2] <;> omega) | fail)) only [admQ, lq2, aFill, AK.cls, implies_true, if_true, if_false, seval, -List.reduceReplicate, beq_eq_false_iff_ne.mpr hq, Bool.not_false, hE3, hB3]
    exact ⟨K3, fun h => absurd h hno⟩
def nsumB (T : List (List B8)) (b : List B8) : List B8 := List.replicate 24 1#8 ++ numB (posN b T)
theorem nsumB_len (T : List (List B8)) (b : List B8) : (nsumB T b).length = 32 := by simp [nsumB, numB_len]
theorem nsumTail {m M : Mem} {x : Nat} {W : List Nat} {S : List Sd} {T : List (List B8)} {b : List B8} (hT : T.length ≤ 100000) (k : Nat) (hk1 : k = posN b T) (hk2 : k ≤ 100001)
  (hk : Kept W m M) (hN : Nm M x W S (addN b T)) (hz : own M m.length = some (bys (List.replicate 32 0#8))) (hW : m.length ∉ W) :
  wpA Tryz.prog c143_2 [(4, .ptr m.length 0), (5, .int .i64 (k : Int))] M (retQ [.cell 4 true 32] fun r m' => r = .agg (bys (nsumB T b)) ∧ Kept W m m' ∧ Nm m' x W S (addN b T)) := by
 simp -implicitDefEqProofs (disch := (first | omega | (simp only [lq2] <;> omega) | fail)) only [admQ, lq2, aFill, AK.cls, implies_true, if_true, if_false, seval, -List.reduceReplicate, c143_2]
 have hzl := own_lt hz
 have hr : bys (List.replicate 32 0#8) = bys (upTo 32 (fun _ => 1#8) (fun _ => 0#8) 0) := by rw [upTo_zero, tab_const]
 rw [hr]
 refine LoopW.on (fun i : Nat => [(4, .ptr m.length 0), (5, .int .i64 (k : Int)), (7, .ptr M.length 0), (34, .int .i64 i)]) (fun i => 32 - i)
  (fun i N => i ≤ 32 ∧ N = M ++ [.row (bys (upTo 32 (fun _ => 1#8) (fun _ => 0#8) i)) false]) ?_ 0 _ _ rfl ⟨by omega, rfl⟩
 rintro i N X ⟨hi, rfl⟩ hX
 by_cases hlt : i < 32
 ·have hu := upTo_set (n := 32) (i := i) (f := fun _ => 1#8) (g := fun _ => 0#8)
  have hsp : splice (bys (upTo 32 (fun _ => 1#8) (fun _ => 0#8) i)) i [.int .u8 1] = bys (upTo 32 (fun _ => 1#8) (fun _ => 0#8) (i + 1)) := (splice_byte (l := upTo 32 (fun _ => 1#8) (fun _ => 0#8) i) (i := i) (x := 1#8) (by rw [upTo_len]; exact hlt)).trans (congrArg bys hu)
  simp -implicitDefEqProofs (disch := (first | omega | (simp only [lq2] <;> omega) | fail)) only [admQ, lq2, aFill, AK.cls, implies_true, if_true, if_false, seval, -List.reduceReplicate, hsp]
  exact hX (i + 1) _ _ rfl (by omega) ⟨by omega, rfl⟩
 ·obtain rfl : i = 32 := by omega
  rw [upTo_all]
  simp -implicitDefEqProofs (disch := (first | omega | (simp only [lq2] <;> omega) | fail)) only [admQ, lq2, aFill, AK.cls, implies_true, if_true, if_false, seval, -List.reduceReplicate]
  clear hX X hr
  refine (ans_nnumber k (by omega) _).mono ?_
  rintro _ m1 ⟨p, rfl, k1, hp1, op⟩
  have oS := k1.own (show own (M ++ [Blk.row (bys (tab 32 fun _ => 1#8)) false]) M.length = some _ by rw [own_app_at0]; rfl) (by simp)
  have kA := Kept.app [] M [Blk.row (bys (tab 32 fun _ => 1#8)) false]
  have oZ1 := (kA.trans k1).own hz (by simp)
  have hcp := copy_row (o := 24) (ld := 8) (cap := 8) (s := 0) (.row (l := numB k) 8 0 (rowOf_own op) (by rw [numB_len]; omega)) oS (by simp [tab_len]) (by rw [numB_len]; omega)
  rw [numB_len] at hcp
  have hsp : splice (bys (tab 32 fun _ => 1#8)) 24 (bys (numB k)) = bys (nsumB T b) := by
   rw [nsumB, ← hk1, tab_const, splice]
   simp only [bys, List.map_replicate, List.map_append, List.length_map, numB_len, List.take_replicate, List.drop_replicate]
   simp
  rw [hsp] at hcp
  have hnl := nsumB_len T b
  have hMm := hk.len
  have hm1 := (kA.trans k1).len
  have oS2 := own_set (own_lt oS) (bys (nsumB T b))
  have oZ2 := own_set_ne' oZ1 (show M.length ≠ m.length by omega) (.row (bys (nsumB T b)) false)
  simp -implicitDefEqProofs (disch := (first | omega | (simp only [lq2] <;> omega) | fail)) only [admQ, lq2, aFill, AK.cls, implies_true, if_true, if_false, seval, -List.reduceReplicate, hcp, rowOf_own oS2, oS2, oZ2, own_set (own_lt oZ2), rowOf_own (own_set (own_lt oZ2) _)]
  have K1 := (hk.trans ((kA.trans k1).more (by simp)))
  have hNk : Nm m1 x W S (addN b T) := hN.kept0 (kA.trans k1)
  refine ⟨(K1.write (.inr (by omega)) _).write (.inr (Nat.le_refl _)) _, (hNk.kept (.set1 m1 M.length _) fun q hq => ?_).kept (.set1 _ m.length _) fun q hq => ?_⟩
  ·have := hN.lt q hq; simp; omega
  ·simp; rintro rfl; exact hW hq
theorem ans_nsum {m : Mem} {x : Nat} {W : List Nat} {S : List Sd} {T : List (List B8)} {bx : AV} {b : List B8} (hN : Nm m x W S T) (hb : RdB m bx b) (hd : ∀ q ∈ blkOf bx, q ∉ W) (hT : T.length ≤ 100000) (hl : b.length ≤ 100000) :
  Ans Tryz.prog 143 [.ptr x 0, bx] m fun r m' => r = .agg (bys (nsumB T b)) ∧ Kept W m m' ∧ Nm m' x W S (addN b T) := by
 refine ans_ret mixed ok143 ?_
 obtain ⟨bs, v, bt, h1, h2, h3, h4, rfl, h6, h7⟩ := hN.ex
 simp -implicitDefEqProofs (disch := (first | omega | (simp only [lq2] <;> omega) | fail)) only [admQ, lq2, aFill, AK.cls, implies_true, if_true, if_false, seval, -List.reduceReplicate, p143, r143]
 have k0 := Kept.app [] m [Blk.row (bys (List.replicate 32 0#8)) false]
 have o0 : own (m ++ [Blk.row (bys (List.replicate 32 0#8)) false]) m.length = some (bys (List.replicate 32 0#8)) := by rw [own_app_at0]; rfl
 generalize m ++ [Blk.row (bys (List.replicate 32 0#8)) false] = A at k0 o0
 have g1 := k0.own h1 (by simp)
 have g4 := h4.kept k0 (by simp)
 have lk : rLookup (.one .s) (.int .i64 0) true A [.map bt, .str (strOf b)] = some (lookR (fidx b T)) := g4.look tx_key tx_fit b
 have hW : m.length ∉ x :: bs :: bt :: blkOf v := fun h => by have := hN.lt _ h; omega
 have hb0 := hb.kept0 k0
 cases hf : fidx b T with
 | some i =>
  rw [hf] at lk
  have hin := List.mem_of_getElem? (fidx_some hf)
  have hpos : i + 1 = posN b T := by simp [posN, hf]
  have hi := fidx_lt hf
  simp -implicitDefEqProofs (disch := (first | omega | (simp only [lq2] <;> omega) | fail)) only [admQ, lq2, aFill, AK.cls, implies_true, if_true, if_false, seval, -List.reduceReplicate, rowOf_own g1, mapR, hb0.b2s, lk, lookR]
  refine wp_join2 [4, 5] (fun _ : Unit => [(4, .ptr m.length 0), (5, .int .i64 ((i + 1 : Nat) : Int))]) (fun _ M' => M' = A) rfl ?_ ?_
  ·simp -implicitDefEqProofs (disch := (first | omega | (simp only [lq2] <;> omega) | fail)) only [admQ, lq2, aFill, AK.cls, implies_true, if_true, if_false, seval, -List.reduceReplicate, c143_1, joins, Bool.not_true]
   exact ⟨(), trivial⟩
  ·rintro _ M' rfl
   exact nsumTail hT _ hpos (by omega) (k0.more (by simp)) (by rw [addN, if_pos hin]; exact hN.kept0 k0) o0 hW
 | none =>
  rw [hf] at lk
  have hin := fidx_none.mp hf
  have hpos : T.length + 1 = posN b T := by simp [posN, hf]
  simp -implicitDefEqProofs (disch := (first | omega | (simp only [lq2] <;> omega) | fail)) only [admQ, lq2, aFill, AK.cls, implies_true, if_true, if_false, seval, -List.reduceReplicate, rowOf_own g1, mapR, hb0.b2s, lk, lookR]
  refine wp_join2 [4, 5] (fun _ : Unit => [(4, .ptr m.length 0), (5, .int .i64 ((T.length + 1 : Nat) : Int))]) (fun _ M' => Kept (x :: bs :: bt :: blkOf v) m M' ∧ own M' m.length = some (bys (List.replicate 32 0#8)) ∧ Nm M' x (x :: bs :: bt :: blkOf v) S (T ++ [b])) rfl ?_ ?_
  ·obtain ⟨m4, eM, mr4, k4⟩ := g4.add tx_key tx_fit hin
   have eM' : aMapSet (.one .s) A [.map bt, .str (strOf b), .int .i64 ((T.length + 1 : Nat) : Int)] = some (.tup [], m4) := eM
   have hbtx : bt ≠ x := MapR.ne_own h4 h1
   have x4 := k4.own g1 (by simpa using hbtx.symm)
   simp -implicitDefEqProofs (disch := (first | omega | (simp only [lq2] <;> omega) | fail)) only [admQ, lq2, aFill, AK.cls, implies_true, if_true, if_false, seval, -List.reduceReplicate, c143_1, joins, Bool.not_false, rowOf_own g1, mapR, g4.len, hb0.b2s, eM']
   have hbs : bs ≠ bt := h6
   refine ⟨(), (k0.more (by simp)).trans (k4.more fun q hq _ => by simp at hq; simp [hq]), k4.own o0 (by have := h4.lt; simp; omega), ⟨bs, v, bt, x4, (h2.kept k0 (by simp)).kept k4 (by simpa using h6), (h3.kept0 k0).kept k4 (by have := MapR.ne_gr h4 h3; simpa using fun b hb (h : b = bt) => this (h ▸ hb)), mr4, rfl, h6, h7⟩⟩
  ·rintro _ M' ⟨hk, hz, hN'⟩
   exact nsumTail hT _ hpos (by omega) hk (by rw [addN, if_neg hin]; exact hN') hz hW
end Go.Proofs.YtehnkcnjmfbjpaaGreat
end
section
namespace Go.Proofs.YtehnkcnjmfbjpaaGreat
open Go Go.Adm
set_option linter.unusedSimpArgs false
set_option linter.unusedVariables false
set_option maxRecDepth 100000
def mayP (s : Sd) : Prop := within s.1 ∧ within s.2.1
instance (s : Sd) : Decidable (mayP s) := by unfold mayP; infer_instance
theorem nsealB_len (S : List Sd) (s : Sd) : (nsealB S s).length = s.2.2.2.length + 32 := by simp [nsealB, zeros, numB_len]
theorem nopenP_seal {S : List Sd} {e n : Int} {head plain : List B8} (S' : List Sd) (h : fidx (e, n, head, plain) S' = some (posN (e, n, head, plain) S - 1)) : nopenP S' e n head (nsealB S (e, n, head, plain)) ∧ (nsealB S (e, n, head, plain)).take ((nsealB S (e, n, head, plain)).length - 32) = plain := by
 have hl := nsealB_len S (e, n, head, plain)
 simp only at hl
 have e0 : (nsealB S (e, n, head, plain)).length - 32 = plain.length := by omega
 have e1 : (nsealB S (e, n, head, plain)).take plain.length = plain := by simp [nsealB]
 have e2 : (nsealB S (e, n, head, plain)).drop plain.length = zeros 24 ++ numB (posN (e, n, head, plain) S) := by simp [nsealB]
 rw [nopenP, e0, e1]
 refine ⟨⟨by omega, _, h, ?_⟩, rfl⟩
 rw [e2]; rfl
end Go.Proofs.YtehnkcnjmfbjpaaGreat
end
section
namespace Go.Proofs.YtehnkcnjmfbjpaaGreat
open Go Go.Adm
set_option linter.unusedSimpArgs false
set_option linter.unusedVariables false
set_option maxRecDepth 100000
theorem numB_inj {a b : Nat} (ha : a < 65536) (hb : b < 65536) (h : numB a = numB b) : a = b := by
 have h7 := congrArg (fun l => (gb l 7).toNat) h
 have h6 := congrArg (fun l => (gb l 6).toNat) h
 have e : ∀ v i, i < 8 → gb (numB v) i = byV v (7 - i) := fun v i hi => by rw [numB, lowB, gb_tab _ hi]
 simp only [e _ 7 (by omega), e _ 6 (by omega), byV, BitVec.toNat_ofNat] at h7 h6
 simp at h7 h6
 rw [Nat.shiftRight_eq_div_pow, Nat.shiftRight_eq_div_pow] at h6
 omega
def sumN (k : Nat) : List B8 := List.replicate 24 1#8 ++ numB k
theorem sumN_inj {a b : Nat} (ha : a < 65536) (hb : b < 65536) (h : sumN a = sumN b) : a = b := numB_inj ha hb (List.append_cancel_left h)
theorem fidx_add {α : Type} [DecidableEq α] {a b : α} {T : List α} {i : Nat} (h : fidx a T = some i) : fidx a (addN b T) = some i := by
 unfold addN; split
 ·exact h
 ·exact fidx_append h
theorem fidx_addself {α : Type} [DecidableEq α] (a : α) (T : List α) : fidx a (addN a T) = some (posN a T - 1) := by
 unfold addN posN
 by_cases h : a ∈ T
 ·rw [if_pos h]
  cases hf : fidx a T with
  | none => exact absurd h (fidx_none.mp hf)
  | some i => simp
 ·rw [if_neg h, fidx_new h, fidx_none.mpr h]; simp
theorem addN_len {α : Type} [DecidableEq α] (a : α) (T : List α) : (addN a T).length ≤ T.length + 1 := by
 unfold addN; split <;> simp
theorem posN_le {α : Type} [DecidableEq α] (a : α) (T : List α) : 1 ≤ posN a T ∧ posN a T ≤ T.length + 1 := by
 unfold posN
 cases hf : fidx a T with
 | none => simp
 | some i => have := fidx_lt hf; simp; omega
theorem addN_in {α : Type} [DecidableEq α] {a : α} {T : List α} {n : Nat} (h : fidx a T = some n) : addN a T = T ∧ posN a T = n + 1 :=
 ⟨if_pos (List.mem_of_getElem? (fidx_some h)), by simp [posN, h]⟩
end Go.Proofs.YtehnkcnjmfbjpaaGreat
end
section
namespace Go.Proofs.YtehnkcnjmfbjpaaGreat
open Go Go.Adm
set_option linter.unusedSimpArgs false
set_option linter.unusedVariables false
set_option maxRecDepth 100000
def sealS2 (S : List Sd) (s : Sd) : List Sd := if mayP s then addN s S else S
def sealR (S : List Sd) (s : Sd) : List B8 := if mayP s then nsealB S s else []
theorem sealS2_len (S : List Sd) (s : Sd) : (sealS2 S s).length ≤ S.length + 1 := by
 unfold sealS2; split
 ·exact addN_len s S
 ·omega
theorem sealR_len (S : List Sd) (s : Sd) : (sealR S s).length ≤ s.2.2.2.length + 32 := by
 unfold sealR; split
 ·rw [nsealB_len]; omega
 ·simp
def Ap (B W : List Nat) : Prop := ∀ b ∈ B, b ∉ W
theorem ans_nseal2 {m : Mem} {x : Nat} {W : List Nat} {S : List Sd} {T : List (List B8)} {hx bx : AV} {s : Sd} (hN : Nm m x W S T) (hh : RdB m hx s.2.2.1) (hb : RdB m bx s.2.2.2)
  (hd : Ap (blkOf bx) W) (hS : S.length ≤ 1000) (hl : s.2.2.1.length ≤ 100000 ∧ s.2.2.2.length ≤ 100000) :
  Ans Tryz.prog 142 [.ptr x 0, .int .i64 s.1, .int .i64 s.2.1, hx, bx] m fun r m' => ∃ W', Kept W m m' ∧ Nm m' x W' (sealS2 S s) T ∧ (∀ b ∈ W', b ∈ W ∨ m.length ≤ b) ∧ GrB m.length m' r (sealR S s) ∧ Ap (blkOf r) W' ∧ ∀ b ∈ blkOf r, m.length ≤ b ∧ b < m'.length := by
 obtain ⟨e, n, head, plain⟩ := s
 refine (ans_nseal hN hh hb hd hS hl).mono fun r m' ⟨h1, h2⟩ => ?_
 by_cases hp : mayP (e, n, head, plain)
 ·obtain ⟨W', k, hN', hW, g, d⟩ := h1 hp
  refine ⟨W', k, by rw [sealS2, if_pos hp]; exact hN', hW, by rw [sealR, if_pos hp]; exact g, d, fun b hb => ⟨?_, g.lt b hb⟩⟩
  exact GrA.blk g (by intro h0; have := congrArg List.length h0; rw [List.length_map, nsealB_len] at this; simp at this) b hb
 ·obtain ⟨rfl, k⟩ := h2 hp
  exact ⟨W, k.more (by simp), by rw [sealS2, if_neg hp]; exact hN.kept0 k, fun b hb => .inl hb, by rw [sealR, if_neg hp]; exact .nils .., by simp [Ap, blkOf], by simp [blkOf]⟩
end Go.Proofs.YtehnkcnjmfbjpaaGreat
end
section
namespace Go.Proofs.YtehnkcnjmfbjpaaGreat
open Go Go.Adm
set_option linter.unusedSimpArgs false
set_option linter.unusedVariables false
set_option maxRecDepth 100000
theorem fidx_seal {S : List Sd} {s t : Sd} {i : Nat} (h : fidx t S = some i) : fidx t (sealS2 S s) = some i := by
 unfold sealS2; split
 ·exact fidx_add h
 ·exact h
end Go.Proofs.YtehnkcnjmfbjpaaGreat
end
section
namespace Go.Proofs.YtehnkcnjmfbjpaaGreat
open Go Go.Adm
set_option linter.unusedSimpArgs false
set_option linter.unusedVariables false
def beN (l : List B8) : Nat := l.foldl (fun a b => a * 256 + b.toNat) 0
theorem beN_snoc (l : List B8) (b : B8) : beN (l ++ [b]) = beN l * 256 + b.toNat := by simp [beN]
theorem snoc_of {l : List B8} {n : Nat} (h : l.length = n + 1) : ∃ l' b, l = l' ++ [b] ∧ l'.length = n := by
 have h0 : l ≠ [] := by rintro rfl; simp at h
 exact ⟨l.dropLast, l.getLast h0, (List.dropLast_concat_getLast h0).symm, by rw [List.length_dropLast]; omega⟩
theorem beN_lt : ∀ (n : Nat) (l : List B8), l.length = n → beN l < 256 ^ n := by
 intro n
 induction n with
 | zero => intro l h; rw [List.length_eq_zero_iff.mp h]; simp [beN]
 | succ n ih =>
  intro l h
  obtain ⟨l, b, rfl, h'⟩ := snoc_of h
  rw [beN_snoc]
  have := ih l h'
  have hb := b.isLt
  rw [Nat.pow_succ]
  omega
theorem byV_next (v k : Nat) : byV v (k + 1) = byV (v >>> 8) k := by
 unfold byV
 rw [← Nat.shiftRight_add]
 congr 2
 omega
theorem byV_zero (v : Nat) : (byV v 0).toNat = v % 256 := by simp [byV]
theorem lowB_succ (v n : Nat) : lowB v (n + 1) = lowB (v >>> 8) n ++ [byV v 0] := by
 rw [lowB, tab_succ]
 congr 1
 ·refine tab_ext fun i hi => ?_
  rw [show n + 1 - 1 - i = (n - 1 - i) + 1 by omega, byV_next]
 ·rw [show n + 1 - 1 - n = 0 by omega]
theorem beN_lowB : ∀ (n v : Nat), beN (lowB v n) = v % 256 ^ n := by
 intro n
 induction n with
 | zero => intro v; simp [lowB, tab, beN, Nat.mod_one]
 | succ n ih =>
  intro v
  have e : v >>> 8 = v / 256 := Nat.shiftRight_eq_div_pow v 8
  rw [lowB_succ, beN_snoc, ih, byV_zero, e, Nat.pow_succ, Nat.mul_comm (256 ^ n), Nat.mod_mul]
  omega
theorem beN_numB {v : Nat} (h : v < 18446744073709551616) : beN (numB v) = v := by
 rw [numB, beN_lowB]
 exact Nat.mod_eq_of_lt h
def intB (l : List B8) : Int := IntKind.i64.wrap (beN l : Int)
end Go.Proofs.YtehnkcnjmfbjpaaGreat
end
section
namespace Go.Proofs.YtehnkcnjmfbjpaaGreat
open Go Go.Adm
set_option linter.unusedSimpArgs false
set_option linter.unusedVariables false
set_option maxRecDepth 100000
def OwB (m0 : Nat) (m : Mem) (x : AV) (l : List B8) : Prop := ∃ p, x = .sl p 0 l.length l.length 0 ∧ own m p = some (bys l) ∧ m0 ≤ p
theorem OwB.rd {m0 : Nat} {m : Mem} {x : AV} {l : List B8} (h : OwB m0 m x l) : RdB m x l := by
 obtain ⟨p, rfl, ho, _⟩ := h
 exact RdB.row l.length 0 (rowOf_own ho) (Nat.le_refl _)
theorem OwB.kept {m0 : Nat} {m m' : Mem} {x : AV} {l : List B8} {X : List Nat} (h : OwB m0 m x l) (hk : Kept X m m') (hX : ∀ b ∈ blkOf x, b ∉ X) : OwB m0 m' x l := by
 obtain ⟨p, rfl, ho, h3⟩ := h
 exact ⟨p, rfl, hk.own ho (hX p (by simp [blkOf])), h3⟩
theorem OwB.kept0 {m0 : Nat} {m m' : Mem} {x : AV} {l : List B8} (h : OwB m0 m x l) (hk : Kept [] m m') : OwB m0 m' x l := h.kept hk (by simp)
theorem OwB.low {m0 : Nat} {m : Mem} {x : AV} {l : List B8} (h : OwB m0 m x l) : ∀ b ∈ blkOf x, m0 ≤ b := by
 obtain ⟨p, rfl, _, h⟩ := h
 simpa [blkOf] using h
def SPb (m0 : Nat) (m : Mem) (x : AV) (l : List B8) : Prop := (x = .nils ∧ l = []) ∨ ∃ b cap s, x = .sl b 0 l.length cap s ∧ own m b = some (bys l) ∧ m0 ≤ b ∧ l.length ≤ cap ∧ (s = 0 ∨ s = 1)
theorem SPb.rd {m0 : Nat} {m : Mem} {x : AV} {l : List B8} (h : SPb m0 m x l) : RdB m x l := by
 rcases h with ⟨rfl, rfl⟩ | ⟨b, cap, s, rfl, ho, _, hc, hs⟩
 ·exact .nils _
 ·exact .row cap s (rowOf_own ho) hc hs
theorem SPb.kept {m0 : Nat} {m m' : Mem} {x : AV} {l : List B8} {X : List Nat} (h : SPb m0 m x l) (hk : Kept X m m') (hX : ∀ b ∈ blkOf x, b ∉ X) : SPb m0 m' x l := by
 rcases h with h | ⟨b, cap, s, rfl, ho, h3, h4⟩
 ·exact .inl h
 ·exact .inr ⟨b, cap, s, rfl, hk.own ho (hX b (by simp [blkOf])), h3, h4⟩
theorem SPb.kept0 {m0 : Nat} {m m' : Mem} {x : AV} {l : List B8} (h : SPb m0 m x l) (hk : Kept [] m m') : SPb m0 m' x l := h.kept hk (by simp)
theorem SPb.low {m0 : Nat} {m : Mem} {x : AV} {l : List B8} (h : SPb m0 m x l) : ∀ b ∈ blkOf x, m0 ≤ b := by
 rcases h with ⟨rfl, _⟩ | ⟨b, cap, s, rfl, ho, h3, h4⟩
 ·simp [blkOf]
 ·simp only [blkOf, List.mem_singleton]; rintro b rfl; exact h3
theorem SPb.weak {m0 m1 : Nat} {m : Mem} {x : AV} {l : List B8} (h : SPb m0 m x l) (hm : m1 ≤ m0) : SPb m1 m x l := by
 rcases h with h | ⟨b, cap, s, h1, h2, h3, h4⟩
 ·exact .inl h
 ·exact .inr ⟨b, cap, s, h1, h2, Nat.le_trans hm h3, h4⟩
theorem SPb.gr {m0 m1 : Nat} {m : Mem} {x : AV} {l : List B8} (g : GrB m0 m x l) (h : ∀ q ∈ blkOf x, m1 ≤ q) : SPb m1 m x l := by
 rcases g with ⟨h0, rfl | ⟨b, rfl, ho⟩⟩ | ⟨b, n, h1, h2, rfl, ho, h3⟩
 ·exact .inl ⟨rfl, by simpa [bys] using h0⟩
 ·obtain rfl : l = [] := by simpa [bys] using h0
  exact .inr ⟨b, 0, 0, rfl, ho, h b (by simp [blkOf]), Nat.le_refl _, .inl rfl⟩
 ·have hn : l.length = n := by simpa [bys] using h2
  subst hn
  exact .inr ⟨b, _, 1, rfl, ho, h b (by simp [blkOf]), Nat.le_refl _, .inr rfl⟩
theorem OwB.sp {m0 : Nat} {m : Mem} {x : AV} {l : List B8} (h : OwB m0 m x l) : SPb m0 m x l := by
 obtain ⟨p, rfl, ho, hp⟩ := h
 exact .inr ⟨p, _, 0, rfl, ho, hp, Nat.le_refl _, .inl rfl⟩
theorem OwB.app {m0 : Nat} {m : Mem} {x y : AV} {l l2 : List B8} (h : OwB m0 m x l) (hy : RdB m y l2) (hb : l.length + l2.length ≤ 1000000000) :
  ∃ x' m', aAppend 1 1 x y m = some (x', m') ∧ Kept [] m m' ∧ RdB m' x' (l ++ l2) ∧ (∀ b ∈ blkOf x', b ∈ blkOf x ∨ m.length ≤ b) ∧ cellsV x' = [x'] ∧ x'.solid = true ∧ SPb m0 m' x' (l ++ l2) := by
 have hr := h.rd
 have hsp := h.sp
 obtain ⟨p, rfl, ho, hp⟩ := h
 by_cases h2 : l2.length = 0
 ·obtain rfl : l2 = [] := List.length_eq_zero_iff.mp h2
  exact ⟨_, m, app_none (by rw [hy.lenA]; rfl) rfl, .refl _ _, by rw [List.append_nil]; exact hr, fun b hb => .inl hb, rfl, rfl, by rw [List.append_nil]; exact hsp⟩
 ·refine ⟨.sl m.length 0 (l.length + l2.length) (l.length + l2.length) 1, m ++ [.row (bys (l ++ l2)) false], ?_, .app _ _ _, ?_, by simp [blkOf], rfl, rfl, .inr ⟨m.length, _, 1, by rw [List.length_append], by rw [own_app_at0]; rfl, by have := own_lt ho; omega, by rw [List.length_append]; exact Nat.le_refl _, .inr rfl⟩⟩
  ·unfold aAppend
   simp only [hy.lenA, Option.bind_some, if_neg h2, hy.elems, if_neg (show ¬ l.length + l2.length ≤ l.length by omega), if_pos (show (l.length + l2.length) * 1 ≤ 1099511627776 ∧ l.length + l2.length ≤ 1099511627776 by omega), hr.elems]
   simp [bys]
  ·have := RdB.row (m := m ++ [.row (bys (l ++ l2)) false]) (l := l ++ l2) (b := m.length) (l ++ l2).length 1 (by rw [rowOf_app_at0]; rfl) (Nat.le_refl _)
   rwa [List.length_append] at this
def Rm0 (m0 : Nat) (m : Mem) (x : AV) (l : List B8) (n : Nat) : Prop := ∃ p, x = .sl p 0 l.length n 0 ∧ own m p = some (bys (l ++ List.replicate (n - l.length) 0#8)) ∧ m0 ≤ p ∧ l.length ≤ n
theorem Rm0.push {m0 n : Nat} {m : Mem} {x y : AV} {l l2 : List B8} (h : Rm0 m0 m x l n) (hy : RdB m y l2) (hb : l.length + l2.length ≤ n) :
  ∃ x' m', aAppend 1 1 x y m = some (x', m') ∧ Rm0 m0 m' x' (l ++ l2) n ∧ Kept (blkOf x) m m' := by
 by_cases h2 : l2.length = 0
 ·obtain rfl : l2 = [] := List.length_eq_zero_iff.mp h2
  refine ⟨x, m, app_none (by rw [hy.lenA]; rfl) ?_, by rwa [List.append_nil], .refl _ _⟩
  obtain ⟨p, rfl, _⟩ := h; rfl
 ·obtain ⟨p, rfl, ho, hp, hl⟩ := h
  refine ⟨.sl p 0 (l.length + l2.length) n 0, m.set p (.row (bys (l ++ l2 ++ List.replicate (n - (l.length + l2.length)) 0#8)) false), ?_, ⟨p, by simp, ?_, hp, by simpa using hb⟩, .set1 _ _ _⟩
  ·unfold aAppend
   simp only [hy.lenA, Option.bind_some, if_neg h2, hy.elems, if_pos hb, ho, Nat.mul_one, Nat.zero_add]
   rw [if_pos ⟨by simp; omega, by simp⟩]
   congr 3
   congr 1
   rw [splice]
   show List.take l.length ((l ++ List.replicate (n - l.length) 0#8).map b8) ++ l2.map b8 ++ List.drop (l.length + (l2.map b8).length) ((l ++ List.replicate (n - l.length) 0#8).map b8) = _
   rw [← List.map_take, ← List.map_drop, ← List.map_append, ← List.map_append, List.take_left' rfl, List.length_map, List.drop_append, List.drop_replicate, List.drop_of_length_le (by omega), List.nil_append, show n - l.length - (l.length + l2.length - l.length) = n - (l.length + l2.length) by omega]
  ·rw [own_set (own_lt ho)]; simp
theorem Rm0.all {m0 n : Nat} {m : Mem} {x : AV} {l : List B8} (h : Rm0 m0 m x l n) (hl : l.length = n) : OwB m0 m x l := by
 obtain ⟨p, rfl, ho, hp, _⟩ := h
 subst hl
 rw [Nat.sub_self] at ho
 simp only [List.replicate_zero, List.append_nil] at ho
 exact ⟨p, rfl, ho, hp⟩
theorem Rm0.low {m0 n : Nat} {m : Mem} {x : AV} {l : List B8} (h : Rm0 m0 m x l n) : ∀ b ∈ blkOf x, m0 ≤ b := by
 obtain ⟨p, rfl, _, hp, _⟩ := h
 simpa [blkOf] using hp
theorem rm0_new (m : Mem) (n : Nat) : Rm0 m.length (m ++ [.row (rep n [.int .u8 0]) false]) (.sl m.length 0 0 n 0) [] n := by
 refine ⟨m.length, rfl, ?_, Nat.le_refl _, Nat.zero_le _⟩
 rw [own_app_at0]
 have hr : rep n [AV.int .u8 0] = bys (List.replicate n 0#8) := by rw [← bys_rep]; simp [rep]
 simp [own_c0, hr]
def lq3 := And.intro @lenB (And.intro @lowB_len (And.intro @numB_len (@nsumB_len)))
theorem ans_pbehind {m : Mem} {x y : AV} {l l2 : List B8} (hx : RdB m x l) (hy : RdB m y l2) (hb : l.length + l2.length ≤ 1000000000) :
  Ans Tryz.prog 74 [x, y] m fun r m' => Kept [] m m' ∧ OwB m.length m' r (l ++ l2) := by
 refine ans_ret mixed ok74 ?_
 simp -implicitDefEqProofs (disch := (first | omega | (simp only [lq3] <;> omega) | fail)) only [admQ, lq3, aFill, AK.cls, implies_true, if_true, if_false, seval, -List.reduceReplicate, c74, r74, hx.len, hy.len]
 have k0 := Kept.app [] m [Blk.row (rep (l.length + l2.length) [.int .u8 0]) false]
 have g0 := rm0_new m (l.length + l2.length)
 generalize m ++ [Blk.row (rep (l.length + l2.length) [.int .u8 0]) false] = A at *
 obtain ⟨x1, m1, e1, g1, k1⟩ := g0.push (hx.kept0 k0) (by simp)
 refine someW_eq e1 ?_
 have K1 : Kept [] m m1 := k0.upon k1 g0.low
 obtain ⟨x2, m2, e2, g2, k2⟩ := g1.push (hy.kept0 K1) (by simp)
 simp -implicitDefEqProofs (disch := (first | omega | (simp only [lq3] <;> omega) | fail)) only [admQ, lq3, aFill, AK.cls, implies_true, if_true, if_false, seval, -List.reduceReplicate]
 refine someW_eq e2 ?_
 simp -implicitDefEqProofs (disch := (first | omega | (simp only [lq3] <;> omega) | fail)) only [admQ, lq3, aFill, AK.cls, implies_true, if_true, if_false, seval, -List.reduceReplicate]
 exact ⟨K1.upon k2 g1.low, g2.all (by simp)⟩
theorem ans_peight (v : Nat) (hv : v < 4611686018427387904) (m : Mem) : Ans Tryz.prog 75 [.int .i64 v] m fun r m' => Kept [] m m' ∧ OwB m.length m' r (numB v) := by
 refine ans_ret mixed ok75 ?_
 have hw : ∀ k : Nat, IntKind.u8.wrap ((v >>> (8 * k) : Nat) : Int) = ((byV v k).toNat : Int) := fun k => wrap_u8 _
 have h7 : IntKind.u8.wrap ((v >>> 56 : Nat) : Int) = ((byV v 7).toNat : Int) := hw 7
 have h6 : IntKind.u8.wrap ((v >>> 48 : Nat) : Int) = ((byV v 6).toNat : Int) := hw 6
 have h5 : IntKind.u8.wrap ((v >>> 40 : Nat) : Int) = ((byV v 5).toNat : Int) := hw 5
 have h4 : IntKind.u8.wrap ((v >>> 32 : Nat) : Int) = ((byV v 4).toNat : Int) := hw 4
 have h3 : IntKind.u8.wrap ((v >>> 24 : Nat) : Int) = ((byV v 3).toNat : Int) := hw 3
 have h2 : IntKind.u8.wrap ((v >>> 16 : Nat) : Int) = ((byV v 2).toNat : Int) := hw 2
 have h1 : IntKind.u8.wrap ((v >>> 8 : Nat) : Int) = ((byV v 1).toNat : Int) := hw 1
 have h0 : IntKind.u8.wrap (v : Int) = ((byV v 0).toNat : Int) := hw 0
 simp -implicitDefEqProofs (disch := (first | omega | (simp only [lq3] <;> omega) | fail)) only [admQ, lq3, aFill, AK.cls, implies_true, if_true, if_false, seval, -List.reduceReplicate, c75, r75, fdiv_nat, @nw64, h0, h1, h2, h3, h4, h5, h6, h7]
 exact ⟨.app _ _ _, m.length, by rw [numB_len], by rw [own_app_at0]; rfl, Nat.le_refl _⟩
theorem ans_pint {m : Mem} {x : AV} {l : List B8} (v : Nat) (hv : v < 4611686018427387904) (hx : RdB m x l) (hb : l.length ≤ 900000000) :
  Ans Tryz.prog 37 [x, .int .i64 v] m fun r m' => Kept [] m m' ∧ OwB m.length m' r (l ++ numB v) := by
 refine ans_ret mixed ok37 ?_
 simp -implicitDefEqProofs (disch := (first | omega | (simp only [lq3] <;> omega) | fail)) only [admQ, lq3, aFill, AK.cls, implies_true, if_true, if_false, seval, -List.reduceReplicate, c37, r37]
 refine (ans_peight v hv m).mono ?_
 rintro y m1 ⟨k1, g1⟩
 simp -implicitDefEqProofs (disch := (first | omega | (simp only [lq3] <;> omega) | fail)) only [admQ, lq3, aFill, AK.cls, implies_true, if_true, if_false, seval, -List.reduceReplicate]
 refine (ans_pbehind (hx.kept0 k1) g1.rd (by rw [numB_len]; omega)).mono ?_
 rintro r m2 ⟨k2, g2⟩
 simp -implicitDefEqProofs (disch := (first | omega | (simp only [lq3] <;> omega) | fail)) only [admQ, lq3, aFill, AK.cls, implies_true, if_true, if_false, seval, -List.reduceReplicate]
 obtain ⟨p, e, ho, hp⟩ := g2
 exact ⟨k1.trans k2, p, e, ho, Nat.le_trans k1.len hp⟩
theorem num_step {U : Nat} {b : B8} (h : U < 72057594037927936) :
  IntKind.u64.wrap ((BitVec.ofInt IntKind.u64.bits (IntKind.u64.wrap ((U : Int) * 2 ^ Nat.min 8 IntKind.u64.bits)) ||| BitVec.ofInt IntKind.u64.bits (IntKind.u64.wrap ((BitVec.toNat b : Nat) : Int))).toNat : Int) = ((U * 256 + b.toNat : Nat) : Int) := by
 have hb := b.isLt
 have e0 : (U : Int) * 2 ^ Nat.min 8 IntKind.u64.bits = ((U * 256 : Nat) : Int) := by
  rw [show (2 : Int) ^ Nat.min 8 IntKind.u64.bits = 256 from by decide]; omega
 rw [e0, nw64 (show U * 256 < 18446744073709551616 by omega), nw64 (show b.toNat < 18446744073709551616 by omega)]
 show IntKind.u64.wrap ((BitVec.ofInt 64 ((U * 256 : Nat) : Int) ||| BitVec.ofInt 64 ((b.toNat : Nat) : Int)).toNat : Int) = _
 rw [BitVec.ofInt_natCast, BitVec.ofInt_natCast, BitVec.toNat_or, BitVec.toNat_ofNat, BitVec.toNat_ofNat, Nat.mod_eq_of_lt (show U * 256 < 2 ^ 64 by omega), Nat.mod_eq_of_lt (show b.toNat < 2 ^ 64 by omega)]
 have e1 : U * 256 ||| b.toNat = U * 256 + b.toNat := by
  have := Nat.shiftLeft_add_eq_or_of_lt (i := 8) (b := b.toNat) hb U
  rw [Nat.shiftLeft_eq] at this
  exact this.symm
 rw [e1, nw64 (by omega)]
theorem ans_pnumber {m : Mem} {x : AV} {l : List B8} (hx : RdB m x l) (hl : l.length = 8) : Ans Tryz.prog 108 [x] m fun r m' => r = .int .i64 (intB l) ∧ m' = m := by
 refine ans_ret mixed ok108 ?_
 simp -implicitDefEqProofs (disch := (first | omega | (simp only [lq3] <;> omega) | fail)) only [admQ, lq3, aFill, AK.cls, implies_true, if_true, if_false, seval, -List.reduceReplicate, c108, r108, hx.len]
 refine LoopW.on (fun i : Nat => [(3, .int .u64 (beN (l.take i) : Nat)), (6, x), (7, .int .i64 l.length), (8, .int .i64 i)]) (fun i => l.length - i) (fun i M => i ≤ l.length ∧ M = m) ?_ 0 _ _ rfl ⟨by omega, rfl⟩
 rintro i M X ⟨hi, rfl⟩ hX
 by_cases hlt : i < l.length
 ·obtain ⟨b, o, cap, sl, c, rfl, hrow, hat, _⟩ := hx.cons hlt
  have e := hat i hlt
  simp -implicitDefEqProofs (disch := (first | omega | (simp only [lq3] <;> omega) | fail)) only [admQ, lq3, aFill, AK.cls, implies_true, if_true, if_false, seval, -List.reduceReplicate, hrow, e]
  refine hX (i + 1) _ _ ?_ (by omega) ⟨by omega, rfl⟩
  have hlt256 := beN_lt i (l.take i) (by rw [List.length_take]; omega)
  have hp : 256 ^ i ≤ 256 ^ 7 := Nat.pow_le_pow_right (by omega) (by omega)
  rw [num_step (by omega), ← beN_snoc, ← take_gb hlt]
  rfl
 ·obtain rfl : i = l.length := by omega
  rw [List.take_length]
  simp -implicitDefEqProofs (disch := (first | omega | (simp only [lq3] <;> omega) | fail)) only [admQ, lq3, aFill, AK.cls, implies_true, if_true, if_false, seval, -List.reduceReplicate]
  rfl
def Rdr (m : Mem) (r : Nat) (l : List B8) : Prop := ∃ p o cap sl B, own m r = some [.sl p o l.length cap sl, .bool false] ∧ own m p = some B ∧ RdB m (.sl p o l.length cap sl) l ∧ p ≠ r
theorem ans_pread {m : Mem} {x : AV} {l : List B8} (hx : RdB m x l) (hb : l.length ≤ 900000000) : Ans Tryz.prog 80 [x] m fun r m' => Kept [] m m' ∧ ∃ p, r = .ptr p 0 ∧ m.length ≤ p ∧ Rdr m' p l := by
 refine ans_ret mixed ok80 ?_
 simp -implicitDefEqProofs (disch := (first | omega | (simp only [lq3] <;> omega) | fail)) only [admQ, lq3, aFill, AK.cls, implies_true, if_true, if_false, seval, -List.reduceReplicate, c80, r80]
 refine (ans_pbehind hx (.nils m) (by simp; omega)).mono ?_
 rintro y m1 ⟨k1, g1⟩
 rw [List.append_nil] at g1
 have hr := g1.rd
 obtain ⟨p, rfl, ho, hp⟩ := g1
 simp -implicitDefEqProofs (disch := (first | omega | (simp only [lq3] <;> omega) | fail)) only [admQ, lq3, aFill, AK.cls, implies_true, if_true, if_false, seval, -List.reduceReplicate]
 have hl := own_lt ho
 have hkl := k1.len
 exact ⟨k1.more_app _, m1.length, rfl, hkl, p, 0, l.length, 0, bys l, by rw [own_app_at0]; rfl, own_app ho _, hr.app _, by omega⟩
theorem ans_print {m : Mem} {r : Nat} {l : List B8} (h : Rdr m r l) (hl : 8 ≤ l.length) : Ans Tryz.prog 81 [.ptr r 0] m fun v m' => v = .int .i64 (intB (l.take 8)) ∧ Kept [r] m m' ∧ Rdr m' r (l.drop 8) := by
 refine ans_ret mixed ok81 ?_
 obtain ⟨p, o, cap, sl, B, h1, h2, h3, h4⟩ := h
 have htk : Ans Tryz.prog 107 [.ptr r 0, .int .i64 8, .fn (.func 108) [] []] m fun v m' => v = .int .i64 (intB (l.take 8)) ∧ Kept [r] m m' ∧ Rdr m' r (l.drop 8) := by
  refine ans_ret mixed ok107 ?_
  obtain ⟨_, _, _, _, cc, e, hrow, hat, hlen, hcap, hsl, htk⟩ := h3.cons (i := 0) (by omega)
  cases e
  have hr := own_lt h1
  have h1' := own_set hr [AV.sl p (o + 8) (l.length - 8) (cap - 8) sl, .bool false]
  simp -implicitDefEqProofs (disch := (first | omega | (simp only [lq3] <;> omega) | fail)) only [admQ, lq3, aFill, AK.cls, implies_true, if_true, if_false, seval, -List.reduceReplicate, c107, r107, rowOf_own h1, h1, rowOf_own h1']
  have kX := Kept.set1 m r (.row [AV.sl p (o + 8) (l.length - 8) (cap - 8) sl, .bool false] false)
  have h38 := h3.kept kX (fun b o n cap s e => by cases e; simpa using h4)
  refine (ans_pnumber (h38.take (k := 8) hl) (by simp; omega)).mono ?_
  rintro _ M ⟨rfl, hM⟩
  subst hM
  simp -implicitDefEqProofs (disch := (first | omega | (simp only [lq3] <;> omega) | fail)) only [admQ, lq3, aFill, AK.cls, implies_true, if_true, if_false, seval, -List.reduceReplicate]
  have hdr := h38.drop (k := 8) hl
  have hld : (l.drop 8).length = l.length - 8 := by simp
  refine ⟨kX, p, o + 8, cap - 8, sl, B, ?_, kX.own h2 (by simpa using h4), ?_, h4⟩
  ·rw [hld]; exact h1'
  ·rw [hld]; exact hdr
 simp -implicitDefEqProofs (disch := (first | omega | (simp only [lq3] <;> omega) | fail)) only [admQ, lq3, aFill, AK.cls, implies_true, if_true, if_false, seval, -List.reduceReplicate, c81, r81]
 refine htk.mono ?_
 rintro v m' ⟨rfl, h5, h6⟩
 simp -implicitDefEqProofs (disch := (first | omega | (simp only [lq3] <;> omega) | fail)) only [admQ, lq3, aFill, AK.cls, implies_true, if_true, if_false, seval, -List.reduceReplicate]
 exact ⟨h5, h6⟩
end Go.Proofs.YtehnkcnjmfbjpaaGreat
end
section
namespace Go.Proofs.YtehnkcnjmfbjpaaGreat
open Go Go.Adm
set_option linter.unusedSimpArgs false
set_option linter.unusedVariables false
set_option maxRecDepth 100000
inductive CyS where
 | nm (S : List Sd) (T : List (List B8))
def cyT : CyS → TypeId
 | .nm _ _ => 83
def cySf : CyS → FuncId
 | .nm _ _ => 142
def cyOf : CyS → FuncId
 | .nm _ _ => 141
theorem cym_seal (s : CyS) : methodD Tryz.prog (cyT s) "Seal" = some (cySf s) := by
 cases s with
 | nm S T =>
  show methodD Tryz.prog 83 "Seal" = some 142
  kernel_rfl
theorem cym_open (s : CyS) : methodD Tryz.prog (cyT s) "Open" = some (cyOf s) := by
 cases s with
 | nm S T =>
  show methodD Tryz.prog 83 "Open" = some 141
  kernel_rfl
theorem cyn_seal (s : CyS) (b o : Nat) : pNil [.fn (.method "Seal") [.iface (cyT s) (.ptr b o)] []] = some (.fn (.method "Seal") [.iface (cyT s) (.ptr b o)] []) := by
 cases s <;> rfl
theorem cyn_open (s : CyS) (b o : Nat) : pNil [.fn (.method "Open") [.iface (cyT s) (.ptr b o)] []] = some (.fn (.method "Open") [.iface (cyT s) (.ptr b o)] []) := by
 cases s <;> rfl
def Cy (m : Mem) (x : Nat) (W R : List Nat) : CyS → Prop
 | .nm S T => Nm m x W S T ∧ R = W
def cyOk : CyS → Nat → Prop
 | .nm S _, k => S.length ≤ k
def cyNx (s : CyS) (d : Sd) : CyS := match s with
 | .nm S T => .nm (sealS2 S d) T
def cySl (s : CyS) (d : Sd) : List B8 := match s with
 | .nm S T => sealR S d
open Classical in
noncomputable def cyOp (s : CyS) (e n : Int) (head b : List B8) : Option (List B8) := match s with
 | .nm S T => if nopenP S e n head b then some (b.take (b.length - 32)) else none
theorem Cy.sub {m : Mem} {x : Nat} {W R : List Nat} {s : CyS} (h : Cy m x W R s) : ∀ b ∈ W, b ∈ R := by
 cases s with
 | nm S T => obtain ⟨_, rfl⟩ := h; exact fun _ h => h
theorem Cy.lt {m : Mem} {x : Nat} {W R : List Nat} {s : CyS} (h : Cy m x W R s) : ∀ b ∈ R, b < m.length := by
 cases s with
 | nm S T => obtain ⟨h, rfl⟩ := h; exact h.lt
theorem Cy.kept {m m' : Mem} {x : Nat} {W R X : List Nat} {s : CyS} (h : Cy m x W R s) (hk : Kept X m m') (hX : ∀ b ∈ R, b ∉ X) : Cy m' x W R s := by
 cases s with
 | nm S T => obtain ⟨h, rfl⟩ := h; exact ⟨h.kept hk hX, rfl⟩
theorem Cy.kept0 {m m' : Mem} {x : Nat} {W R : List Nat} {s : CyS} (h : Cy m x W R s) (hk : Kept [] m m') : Cy m' x W R s := h.kept hk (by simp)
theorem cyT_nx (s : CyS) (d : Sd) : cyT (cyNx s d) = cyT s := by cases s <;> rfl
theorem cySl_len (s : CyS) (d : Sd) : (cySl s d).length ≤ d.2.2.2.length + 32 := by
 cases s with
 | nm S T => exact sealR_len S d
theorem ans_cyseal {m : Mem} {x : Nat} {W R : List Nat} {s : CyS} {d : Sd} {hx bx : AV} (hC : Cy m x W R s) (hh : RdB m hx d.2.2.1) (hb : RdB m bx d.2.2.2) (hd : ∀ b ∈ blkOf bx, b ∉ W) (hk : cyOk s 1000) (hl : d.2.2.1.length ≤ 100000 ∧ d.2.2.2.length ≤ 100000) :
  Ans Tryz.prog (cySf s) [.ptr x 0, .int .i64 d.1, .int .i64 d.2.1, hx, bx] m fun r m' => ∃ W' R', Kept W m m' ∧ Cy m' x W' R' (cyNx s d) ∧ (∀ b ∈ R', b ∈ R ∨ m.length ≤ b) ∧ GrB m.length m' r (cySl s d) ∧ ∀ b ∈ blkOf r, m.length ≤ b ∧ b ∉ R' := by
 cases s with
 | nm S T =>
  obtain ⟨hN, rfl⟩ := hC
  refine (ans_nseal2 hN hh hb hd hk hl).mono ?_
  rintro r m' ⟨W', k1, hN', hW, g, ap, lo⟩
  exact ⟨W', W', k1, ⟨hN', rfl⟩, hW, g, fun b hb => ⟨(lo b hb).1, ap b hb⟩⟩
theorem ans_cyopenS {m : Mem} {x : Nat} {W R : List Nat} {s : CyS} {e n : Int} {head b : List B8} {hx bx : AV} (hC : Cy m x W R s) (hh : RdB m hx head) (hb : RdB m bx b) (hk : cyOk s 1000) (hl : head.length ≤ 100000 ∧ b.length ≤ 100000) :
  Ans Tryz.prog (cyOf s) [.ptr x 0, .int .i64 e, .int .i64 n, hx, bx] m fun r m' => Kept [] m m' ∧ ∃ v, r = .tup [v, .bool (cyOp s e n head b).isSome] ∧ SPb m.length m' v ((cyOp s e n head b).getD []) := by
 cases s with
 | nm S T =>
  obtain ⟨hN, rfl⟩ := hC
  refine (ans_nopen (e := e) (n := n) hN hh hb hk hl).mono ?_
  rintro r m' ⟨k1, h1, h2⟩
  refine ⟨k1, ?_⟩
  simp only [cyOp]
  by_cases hp : nopenP S e n head b
  ·obtain ⟨v, rfl, g, hv⟩ := h1 hp
   rw [if_pos hp]
   exact ⟨v, rfl, .gr g hv⟩
  ·rw [if_neg hp]
   exact ⟨.nils, h2 hp, .inl ⟨rfl, rfl⟩⟩
end Go.Proofs.YtehnkcnjmfbjpaaGreat
end
section
namespace Go.Proofs.YtehnkcnjmfbjpaaGreat
open Go Go.Adm
set_option linter.unusedSimpArgs false
set_option linter.unusedVariables false
set_option maxRecDepth 100000
structure Sec where
 k : Int
 e : Int
 n : Int
 a : Int
 p : List B8
deriving DecidableEq
def secV (s : Sec) (v : AV) : AV := .agg [.int .i64 s.k, .int .i64 s.e, .int .i64 s.n, .int .i64 s.a, v]
def rightP (e n a : Int) : Prop := (0 ≤ e ∧ 0 ≤ n ∧ 0 ≤ a) ∧ (e ≤ 1099511627776 ∧ n ≤ 1099511627776) ∧ a < 4096
instance (e n a : Int) : Decidable (rightP e n a) := by unfold rightP; infer_instance
theorem ans_scright (e n a : Int) (m : Mem) : Ans Tryz.prog 82 [.int .i64 e, .int .i64 n, .int .i64 a] m fun r m' => r = .bool (decide (rightP e n a)) ∧ m' = m := by
 refine ans_ret mixed ok82 ?_
 by_cases h1 : min (min e n) a ≥ 0
 ·have hmx : (if n > e then n else e) = max e n := by omega
  by_cases h2 : max e n ≤ 1099511627776
  ·by_cases h3 : a < 4096
   ·simp -implicitDefEqProofs (disch := (first | omega | (simp only [lq3] <;> omega) | fail)) only [admQ, lq3, aFill, AK.cls, implies_true, if_true, if_false, seval, -List.reduceReplicate, c82, r82, dec_t h1, hmx, dec_t h2, dec_t h3, dec_t (show rightP e n a from ⟨by omega, by omega, h3⟩)]
   ·simp -implicitDefEqProofs (disch := (first | omega | (simp only [lq3] <;> omega) | fail)) only [admQ, lq3, aFill, AK.cls, implies_true, if_true, if_false, seval, -List.reduceReplicate, c82, r82, dec_t h1, hmx, dec_t h2, dec_f h3, dec_f (show ¬ rightP e n a from fun h => h3 h.2.2)]
  ·simp -implicitDefEqProofs (disch := (first | omega | (simp only [lq3] <;> omega) | fail)) only [admQ, lq3, aFill, AK.cls, implies_true, if_true, if_false, seval, -List.reduceReplicate, c82, r82, dec_t h1, hmx, dec_f h2, dec_f (show ¬ rightP e n a from fun h => h2 (by have := h.2.1; omega))]
 ·simp -implicitDefEqProofs (disch := (first | omega | (simp only [lq3] <;> omega) | fail)) only [admQ, lq3, aFill, AK.cls, implies_true, if_true, if_false, seval, -List.reduceReplicate, c82, r82, dec_f h1, dec_f (show ¬ rightP e n a from fun h => h1 (by have := h.1; omega))]
def kB (k : Int) : B8 := BitVec.ofInt 8 k
def headB (k : Int) (a : Nat) : List B8 := kB k :: numB a
theorem headB_len (k : Int) (a : Nat) : (headB k a).length = 9 := by simp [headB, numB_len]
theorem ans_schead (k : Int) (a : Nat) (ha : a < 4611686018427387904) (m : Mem) : Ans Tryz.prog 83 [.int .i64 k, .int .i64 a] m fun r m' => Kept [] m m' ∧ OwB m.length m' r (headB k a) := by
 refine ans_ret mixed ok83 ?_
 have hw : IntKind.u8.wrap k = ((kB k).toNat : Int) := wr_u8 k
 simp -implicitDefEqProofs (disch := (first | omega | (simp only [lq3] <;> omega) | fail)) only [admQ, lq3, aFill, AK.cls, implies_true, if_true, if_false, seval, -List.reduceReplicate, c83, r83, hw]
 have hr := RdB.row (m := m ++ [Blk.row [b8 (kB k)] false]) (l := [kB k]) 1 0 (rowOf_app_at0 m _) (by simp)
 refine (ans_pint a ha hr (by simp)).mono ?_
 rintro r m' ⟨h1, p, h2, h3, h4⟩
 simp -implicitDefEqProofs (disch := (first | omega | (simp only [lq3] <;> omega) | fail)) only [admQ, lq3, aFill, AK.cls, implies_true, if_true, if_false, seval, -List.reduceReplicate]
 rw [List.length_append] at h4
 exact ⟨(Kept.app [] m _).trans h1, p, h2, h3, by omega⟩
def kindB (b : List B8) : Int := if b.length < 17 ∨ (gb b 0).toNat < 1 ∨ 5 < (gb b 0).toNat then 0 else (gb b 0).toNat
theorem ans_sckind {m : Mem} {x : AV} {b : List B8} (hb : RdB m x b) : Ans Tryz.prog 44 [x] m fun r m' => r = .int .i64 (kindB b) ∧ m' = m := by
 refine ans_ret mixed ok44 ?_
 have hbl := (gb b 0).isLt
 unfold kindB
 by_cases h1 : b.length < 17
 ·rw [if_pos (.inl h1)]
  simp -implicitDefEqProofs (disch := (first | omega | (simp only [lq3] <;> omega) | fail)) only [admQ, lq3, aFill, AK.cls, implies_true, if_true, if_false, seval, -List.reduceReplicate, c44, r44, hb.len, dec_t (show (b.length : Int) < 17 by omega)]
 ·obtain ⟨q, o, cap, sl, cc, rfl, hrow, hat, _⟩ := hb.cons (i := 0) (by omega)
  have e0 := hat 0 (by omega)
  simp only [Nat.add_zero] at e0
  by_cases h2 : (gb b 0).toNat < 1
  ·rw [if_pos (.inr (.inl h2))]
   simp -implicitDefEqProofs (disch := (first | omega | (simp only [lq3] <;> omega) | fail)) only [admQ, lq3, aFill, AK.cls, implies_true, if_true, if_false, seval, -List.reduceReplicate, c44, r44, hrow, e0, dec_f (show ¬ (b.length : Int) < 17 by omega), dec_t (show ((gb b 0).toNat : Int) < 1 by omega)]
  ·by_cases h3 : 5 < (gb b 0).toNat
   ·rw [if_pos (.inr (.inr h3))]
    simp -implicitDefEqProofs (disch := (first | omega | (simp only [lq3] <;> omega) | fail)) only [admQ, lq3, aFill, AK.cls, implies_true, if_true, if_false, seval, -List.reduceReplicate, c44, r44, hrow, e0, dec_f (show ¬ (b.length : Int) < 17 by omega), dec_f (show ¬ ((gb b 0).toNat : Int) < 1 by omega), dec_t (show ((gb b 0).toNat : Int) > 5 by omega)]
   ·rw [if_neg (by omega)]
    simp -implicitDefEqProofs (disch := (first | omega | (simp only [lq3] <;> omega) | fail)) only [admQ, lq3, aFill, AK.cls, implies_true, if_true, if_false, seval, -List.reduceReplicate, c44, r44, hrow, e0, dec_f (show ¬ (b.length : Int) < 17 by omega), dec_f (show ¬ ((gb b 0).toNat : Int) < 1 by omega), dec_f (show ¬ ((gb b 0).toNat : Int) > 5 by omega), wrap_i64 (show (-9223372036854775808 : Int) ≤ ((gb b 0).toNat : Int) by omega) (show ((gb b 0).toNat : Int) < 9223372036854775808 by omega)]
end Go.Proofs.YtehnkcnjmfbjpaaGreat
end
section
namespace Go.Proofs.YtehnkcnjmfbjpaaGreat
open Go Go.Adm
set_option linter.unusedSimpArgs false
set_option linter.unusedVariables false
set_option maxRecDepth 100000
def okP (s : Sec) : Prop := (1 ≤ s.k ∧ s.k ≤ 5) ∧ rightP s.e s.n s.a ∧ s.p.length ≤ 975
instance (s : Sec) : Decidable (okP s) := by unfold okP; infer_instance
def errP (s : Sec) : Int := if s.k < 1 ∨ s.k > 5 then 5 else if ¬ rightP s.e s.n s.a then 7 else if s.p.length > 975 then 3 else 0
theorem errP_ok (s : Sec) : errP s = 0 ↔ okP s := by
 unfold errP okP
 constructor
 ·intro h
  split at h
  ·cases h
  ·split at h
   ·cases h
   ·split at h
    ·cases h
    ·rename_i h1 h2 h3
     exact ⟨by omega, Decidable.not_not.mp h2, by omega⟩
 ·rintro ⟨h1, h2, h3⟩
  rw [if_neg (by omega), if_neg (by simpa using h2), if_neg (by omega)]
def secD (s : Sec) : Sd := (s.e, s.n, headB s.k s.a.toNat, s.p)
def putB (c : CyS) (s : Sec) : List B8 := (kB s.k :: numB s.e.toNat) ++ numB s.n.toNat ++ cySl c (secD s)
def putL (c : CyS) (s : Sec) : List B8 := if okP s then putB c s else []
def putC (c : CyS) (s : Sec) : CyS := if okP s then cyNx c (secD s) else c
theorem ans_scputS {m : Mem} {x : Nat} {W R : List Nat} {c : CyS} {s : Sec} {v : AV} (hC : Cy m x W R c) (hv : RdB m v s.p) (hd : ∀ b ∈ blkOf v, b ∉ W) (hk : cyOk c 1000) (hl : s.p.length ≤ 100000) :
  Ans Tryz.prog 103 [.iface (cyT c) (.ptr x 0), secV s v] m fun r m' => ∃ W' R' w, Kept W m m' ∧ Cy m' x W' R' (putC c s) ∧ (∀ b ∈ R', b ∈ R ∨ m.length ≤ b) ∧ r = .tup [w, .int .i64 (errP s)] ∧ SPb m.length m' w (putL c s) ∧ ∀ b ∈ blkOf w, m.length ≤ b ∧ b ∉ R' := by
 refine ans_ret mixed ok103 ?_
 unfold secV
 have hno : ∀ (m' : Mem) (er : Int), ¬ okP s → errP s = er → Kept [] m m' → ∃ W' R' w, Kept W m m' ∧ Cy m' x W' R' (putC c s) ∧ (∀ b ∈ R', b ∈ R ∨ m.length ≤ b) ∧ AV.tup [.nils, .int .i64 er] = .tup [w, .int .i64 (errP s)] ∧ SPb m.length m' w (putL c s) ∧ ∀ b ∈ blkOf w, m.length ≤ b ∧ b ∉ R'   := fun m' er hn he hk =>
  ⟨W, R, .nils, hk.more (by simp), by rw [putC, if_neg hn]; exact hC.kept0 hk, fun b hb => .inl hb, by rw [he], by rw [putL, if_neg hn]; exact .inl ⟨rfl, rfl⟩, by simp [blkOf]⟩
 by_cases h1 : s.k < 1
 ·have he : errP s = 5 := by rw [errP, if_pos (.inl h1)]
  have hn : ¬ okP s := fun h => by have := h.1; omega
  simp -implicitDefEqProofs (disch := (first | omega | (simp only [lq3] <;> omega) | fail)) only [admQ, lq3, aFill, AK.cls, implies_true, if_true, if_false, seval, -List.reduceReplicate, c103, r103, dec_t h1, (rd_one hv).1, (rd_one hv).2]
  exact hno _ _ hn he (.app _ _ _)
 by_cases h2 : s.k > 5
 ·have he : errP s = 5 := by rw [errP, if_pos (.inr h2)]
  have hn : ¬ okP s := fun h => by have := h.1; omega
  simp -implicitDefEqProofs (disch := (first | omega | (simp only [lq3] <;> omega) | fail)) only [admQ, lq3, aFill, AK.cls, implies_true, if_true, if_false, seval, -List.reduceReplicate, c103, r103, dec_f h1, dec_t h2, (rd_one hv).1, (rd_one hv).2]
  exact hno _ _ hn he (.app _ _ _)
 simp -implicitDefEqProofs (disch := (first | omega | (simp only [lq3] <;> omega) | fail)) only [admQ, lq3, aFill, AK.cls, implies_true, if_true, if_false, seval, -List.reduceReplicate, c103, r103, dec_f h1, dec_f h2, (rd_one hv).1, (rd_one hv).2]
 have k0 := Kept.app [] m [Blk.row [.int .i64 s.k, .int .i64 s.e, .int .i64 s.n, .int .i64 s.a, v] false]
 have o0 : own (m ++ [Blk.row [.int .i64 s.k, .int .i64 s.e, .int .i64 s.n, .int .i64 s.a, v] false]) m.length = some [.int .i64 s.k, .int .i64 s.e, .int .i64 s.n, .int .i64 s.a, v] := by rw [own_app_at0]; rfl
 generalize m ++ [Blk.row [.int .i64 s.k, .int .i64 s.e, .int .i64 s.n, .int .i64 s.a, v] false] = A at k0 o0
 refine (ans_scright s.e s.n s.a A).mono ?_
 rintro _ M ⟨rfl, hM⟩
 subst hM
 by_cases h3 : rightP s.e s.n s.a
 ·by_cases h4 : (s.p.length : Int) > 975
  ·have he : errP s = 3 := by rw [errP, if_neg (by omega), if_neg (by simpa using h3), if_pos (by omega)]
   have hn : ¬ okP s := fun h => by have := h.2.2; omega
   simp -implicitDefEqProofs (disch := (first | omega | (simp only [lq3] <;> omega) | fail)) only [admQ, lq3, aFill, AK.cls, implies_true, if_true, if_false, seval, -List.reduceReplicate, dec_t h3, Bool.not_true, rowOf_own o0, (hv.kept0 k0).len, dec_t h4]
   exact hno _ _ hn he k0
  ·have hok : okP s := ⟨by omega, h3, by omega⟩
   have he := (errP_ok s).mpr hok
   clear hno
   obtain ⟨k, e, n, a, p⟩ := s
   simp only at *
   obtain ⟨⟨r1, r2, r3⟩, ⟨r4, r5⟩, r6⟩ := id h3
   obtain ⟨e, rfl⟩ : ∃ e' : Nat, e = e' := ⟨e.toNat, by omega⟩
   obtain ⟨n, rfl⟩ : ∃ n' : Nat, n = n' := ⟨n.toNat, by omega⟩
   obtain ⟨a, rfl⟩ : ∃ a' : Nat, a = a' := ⟨a.toNat, by omega⟩
   have hw : IntKind.u8.wrap k = ((kB k).toNat : Int) := wr_u8 k
   simp -implicitDefEqProofs (disch := (first | omega | (simp only [lq3] <;> omega) | fail)) only [admQ, lq3, aFill, AK.cls, implies_true, if_true, if_false, seval, -List.reduceReplicate, dec_t h3, Bool.not_true, rowOf_own o0, (hv.kept0 k0).len, dec_f h4, hw]
   have k1 := Kept.app [] M [Blk.row [b8 (kB k)] false]
   have r1 := RdB.row (m := M ++ [Blk.row [b8 (kB k)] false]) (l := [kB k]) 1 0 (rowOf_app_at0 M _) (by simp)
   have e1 : (M ++ [Blk.row [b8 (kB k)] false])[M.length]? = some (.row [b8 (kB k)] false) := by simp
   generalize M ++ [Blk.row [b8 (kB k)] false] = B at *
   have o1 := k1.own o0 (by simp)
   simp -implicitDefEqProofs (disch := (first | omega | (simp only [lq3] <;> omega) | fail)) only [admQ, lq3, aFill, AK.cls, implies_true, if_true, if_false, seval, -List.reduceReplicate, rowOf_own o1]
   refine (ans_pint e (by omega) r1 (by simp)).mono ?_
   rintro y1 m1 ⟨k2, g2⟩
   have o2 := k2.own o1 (by simp)
   have e2 : m1[M.length]? = some (.row [b8 (kB k)] false) := by rw [k2.eq _ (lt_of_get e1) (by simp)]; exact e1
   simp -implicitDefEqProofs (disch := (first | omega | (simp only [lq3] <;> omega) | fail)) only [admQ, lq3, aFill, AK.cls, implies_true, if_true, if_false, seval, -List.reduceReplicate, rowOf_own o2, rowOf_own o1, e2]
   refine (ans_pint n (by omega) g2.rd (by simp [numB_len])).mono ?_
   rintro y2 m2 ⟨k3, g3⟩
   have o3 := k3.own o2 (by simp)
   have e3 : m2[M.length]? = some (.row [b8 (kB k)] false) := by rw [k3.eq _ (lt_of_get e2) (by simp)]; exact e2
   simp -implicitDefEqProofs (disch := (first | omega | (simp only [lq3] <;> omega) | fail)) only [admQ, lq3, aFill, AK.cls, implies_true, if_true, if_false, seval, -List.reduceReplicate, rowOf_own o3, rowOf_own o2, rowOf_own o1, e3]
   refine (ans_schead k a (by omega) m2).mono ?_
   rintro y3 m3 ⟨k4, g4⟩
   have o4 := k4.own o3 (by simp)
   have K4 := ((k0.trans k1).trans k2).trans (k3.trans k4)
   simp -implicitDefEqProofs (disch := (first | omega | (simp only [lq3] <;> omega) | fail)) only [admQ, lq3, aFill, AK.cls, implies_true, if_true, if_false, seval, -List.reduceReplicate, rowOf_own o4, rowOf_own o3, rowOf_own o2, cyn_seal c, opW_invoke _ (cym_seal c), opDW_invoke _ (cym_seal c)]
   refine (ans_cyseal (d := ((e : Int), (n : Int), headB k a, p)) (hC.kept0 K4) g4.rd (hv.kept0 K4) hd hk ⟨by rw [headB_len]; omega, hl⟩).mono ?_
   rintro z m4 ⟨W', R', kS, hC', hR', gz, hz⟩
   have hsd : secD ⟨k, e, n, a, p⟩ = ((e : Int), (n : Int), headB k a, p) := by simp [secD]
   have hRm : ∀ b ∈ R, b < m.length := hC.lt
   have hWR := hC.sub
   have nW : ∀ b, m.length ≤ b → b ∉ W := fun b h1 h2 => by have := hRm b (hWR b h2); omega
   have o5 := kS.own o4 (nW _ (Nat.le_refl _))
   have hm2 := ((k0.trans k1).trans k2).len
   have hm3 := K4.len
   have g3' := (g3.kept0 k4).kept kS fun b hb => nW b (by have := g3.low b hb; omega)
   have hsl := cySl_len c ((e : Int), (n : Int), headB k a, p)
   obtain ⟨w, m5, e5, k5, rw5, bw5, c5⟩ := OwB.app g3' gz.rd (by simp [numB_len]; simp at hsl; omega)
   simp -implicitDefEqProofs (disch := (first | omega | (simp only [lq3] <;> omega) | fail)) only [admQ, lq3, aFill, AK.cls, implies_true, if_true, if_false, seval, -List.reduceReplicate, rowOf_own o5, rowOf_own o4, rowOf_own o3, rowOf_own o2]
   refine someW_eq e5 ?_
   have o6 := k5.own o5 (by simp)
   simp -implicitDefEqProofs (disch := (first | omega | (simp only [lq3] <;> omega) | fail)) only [admQ, lq3, aFill, AK.cls, implies_true, if_true, if_false, seval, -List.reduceReplicate, rowOf_own o6, rowOf_own o5, rowOf_own o4, rowOf_own o3, rowOf_own o2]
   have hm1 := (k0.trans k1).len
   have hk2 := k2.len
   have hk3 := k3.len
   have hk4 := k4.len
   have hkS := kS.len
   have hY := g3.low
   have hRlt := hC'.lt
   have g3lt := g3.rd.blk_lt
   refine ⟨W', R', w, (K4.more (by simp)).trans (kS.trans (k5.more (by simp))), ?_, fun b hb => (hR' b hb).imp id fun h => by omega, ?_, ?_, fun b hb => ?_⟩
   ·rw [putC, if_pos hok, hsd]; exact hC'.kept0 k5
   ·rw [he]
   ·rw [putL, if_pos hok, putB, hsd]
    refine SPb.weak (m0 := m1.length) (by simpa using c5.2.2) (by omega)
   ·rcases bw5 b hb with h | h
    ·have h1 := hY b h
     have h2 := g3lt b h
     refine ⟨by omega, fun h3 => ?_⟩
     rcases hR' b h3 with h4 | h4
     ·have := hRm b h4; omega
     ·omega
    ·refine ⟨by omega, fun h3 => ?_⟩
     have := hRlt b h3; omega
 ·have he : errP s = 7 := by rw [errP, if_neg (by omega), if_pos h3]
  have hn : ¬ okP s := fun h => h3 h.2.1
  simp -implicitDefEqProofs (disch := (first | omega | (simp only [lq3] <;> omega) | fail)) only [admQ, lq3, aFill, AK.cls, implies_true, if_true, if_false, seval, -List.reduceReplicate, dec_f h3, Bool.not_false]
  exact hno _ _ hn he k0
end Go.Proofs.YtehnkcnjmfbjpaaGreat
end
