/- AES: the blocks' cipher as plain lists of bytes. -/
import Derived.Test.YthdkclkiegkabaaCode
import Derived.Test.YthdkclkiegkabaaAdmd
namespace Go.Proofs.Ythdkclkiegkabaa
open Go Go.Adm
set_option linter.unusedSimpArgs false
set_option maxRecDepth 100000

def sboxN : List Nat := [99, 124, 119, 123, 242, 107, 111, 197, 48, 1, 103, 43, 254, 215, 171, 118, 202, 130, 201, 125, 250, 89, 71, 240, 173, 212, 162, 175, 156, 164, 114, 192, 183, 253, 147, 38, 54, 63, 247, 204, 52, 165, 229, 241, 113, 216, 49, 21, 4, 199, 35, 195, 24, 150, 5, 154, 7, 18, 128, 226, 235, 39, 178, 117, 9, 131, 44, 26, 27, 110, 90, 160, 82, 59, 214, 179, 41, 227, 47, 132, 83, 209, 0, 237, 32, 252, 177, 91, 106, 203, 190, 57, 74, 76, 88, 207, 208, 239, 170, 251, 67, 77, 51, 133, 69, 249, 2, 127, 80, 60, 159, 168, 81, 163, 64, 143, 146, 157, 56, 245, 188, 182, 218, 33, 16, 255, 243, 210, 205, 12, 19, 236, 95, 151, 68, 23, 196, 167, 126, 61, 100, 93, 25, 115, 96, 129, 79, 220, 34, 42, 144, 136, 70, 238, 184, 20, 222, 94, 11, 219, 224, 50, 58, 10, 73, 6, 36, 92, 194, 211, 172, 98, 145, 149, 228, 121, 231, 200, 55, 109, 141, 213, 78, 169, 108, 86, 244, 234, 101, 122, 174, 8, 186, 120, 37, 46, 28, 166, 180, 198, 232, 221, 116, 31, 75, 189, 139, 138, 112, 62, 181, 102, 72, 3, 246, 14, 97, 53, 87, 185, 134, 193, 29, 158, 225, 248, 152, 17, 105, 217, 142, 148, 155, 30, 135, 233, 206, 85, 40, 223, 140, 161, 137, 13, 191, 230, 66, 104, 65, 153, 45, 15, 176, 84, 187, 22]
def sboxL : List B8 := sboxN.map (BitVec.ofNat 8)
def sb (b : B8) : B8 := BitVec.ofNat 8 (sboxN.getD b.toNat 0)
theorem sboxL_len : sboxL.length = 256 := rfl
theorem sboxL_get (b : B8) : sboxL[b.toNat]? = some (sb b) := by
  have h : b.toNat < sboxN.length := b.isLt
  rw [sboxL, List.getElem?_map, sb, List.getD_eq_getElem?_getD, List.getElem?_eq_getElem h]; rfl
theorem sbox_cell (b : B8) : (bys sboxL)[b.toNat]? = some (b8 (sb b)) := map_get (sboxL_get b)

theorem sb_at (v : AV) (b : B8) : (v :: bys sboxL)[1 + b.toNat]? = some (b8 (sb b)) := by rw [Nat.add_comm]; exact sbox_cell b
/-- A byte doubled. -/
def tw (b : B8) : B8 := if b &&& 128#8 = 0#8 then b <<< 1 else (b <<< 1) ^^^ 27#8
def q1 (q : B8) : B8 := q ^^^ q <<< 1
def q2 (q : B8) : B8 := q1 q ^^^ q1 q <<< 2
def q4 (q : B8) : B8 := q2 q ^^^ q2 q <<< 4
def q9 (q : B8) : B8 := if q4 q &&& 128#8 = 0#8 then q4 q else q4 q ^^^ 9#8
def aff (q : B8) : B8 := q ^^^ (q <<< 1 ||| q >>> 7) ^^^ (q <<< 2 ||| q >>> 6) ^^^ (q <<< 3 ||| q >>> 5) ^^^ (q <<< 4 ||| q >>> 4) ^^^ 99#8
def tabRun : Nat → B8 → B8 → List B8 → Option (List B8)
  | 0, _, _, _ => none
  | k + 1, p, q, s =>
    if p ^^^ tw p = 1#8 then some ((s.set (p ^^^ tw p).toNat (aff (q9 q))).set 0 99#8) else tabRun k (p ^^^ tw p) (q9 q) (s.set (p ^^^ tw p).toNat (aff (q9 q)))
theorem tabRun_all : tabRun 255 1#8 1#8 (List.replicate 256 0#8) = some sboxL := by decide +kernel
end Go.Proofs.Ythdkclkiegkabaa
