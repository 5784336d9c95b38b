/- AES: the document's table. -/
import Derived.Test.YthdkclkiegkabaaAeI
import Derived.Test.YthdkclkiegkabaaKb
namespace Go.Proofs.Ythdkclkiegkabaa
open Go Go.Adm
set_option linter.unusedSimpArgs false
set_option maxRecDepth 100000
def timesTo (a b : B8) : Nat → B8 × B8
  | 0 => (0#8, b)
  | i + 1 => (if (a >>> i).toNat % 2 = 1 then (timesTo a b i).1 ^^^ (timesTo a b i).2 else (timesTo a b i).1, tw (timesTo a b i).2)
def times (a b : B8) : B8 := (timesTo a b 8).1
def invF (b : B8) : Nat → Nat → B8
  | 0, _ => 0#8
  | k + 1, x => if times (BitVec.ofNat 8 x) b = 1#8 then BitVec.ofNat 8 x else invF b k (x + 1)
def inv (b : B8) : B8 := invF b 255 1
def rSo (x : B8) : Nat → B8
  | 0 => x ^^^ 99#8
  | n + 1 => rSo x n ^^^ (x <<< (n + 1) ||| x >>> (8 - (n + 1)))
def rS (b : B8) : B8 := rSo (inv b) 4
/-! The same in natural numbers, for the kernel. -/
def xtG (b : Nat) : Nat := cond (Nat.blt b 128) (2 * b) (Nat.xor (2 * b - 256) 27)
def timesG : Nat → Nat → Nat → Nat → Nat
  | 0, _, _, o => o
  | k + 1, a, b, o => timesG k (a / 2) (xtG b) (cond (Nat.beq (a % 2) 1) (Nat.xor o b) o)
def invG (b : Nat) : Nat → Nat → Nat
  | 0, _ => 0
  | k + 1, x => cond (Nat.beq (timesG 8 x b 0) 1) x (invG b k (x + 1))
def invT : List Nat := [0, 1, 141, 246, 203, 82, 123, 209, 232, 79, 41, 192, 176, 225, 229, 199, 116, 180, 170, 75, 153, 43, 96, 95, 88, 63, 253, 204, 255, 64, 238, 178, 58, 110, 90, 241, 85, 77, 168, 201, 193, 10, 152, 21, 48, 68, 162, 194, 44, 69, 146, 108, 243, 57, 102, 66, 242, 53, 32, 111, 119, 187, 89, 25, 29, 254, 55, 103, 45, 49, 245, 105, 167, 100, 171, 19, 84, 37, 233, 9, 237, 92, 5, 202, 76, 36, 135, 191, 24, 62, 34, 240, 81, 236, 97, 23, 22, 94, 175, 211, 73, 166, 54, 67, 244, 71, 145, 223, 51, 147, 33, 59, 121, 183, 151, 133, 16, 181, 186, 60, 182, 112, 208, 6, 161, 250, 129, 130, 131, 126, 127, 128, 150, 115, 190, 86, 155, 158, 149, 217, 247, 2, 185, 164, 222, 106, 50, 109, 216, 138, 132, 114, 42, 20, 159, 136, 249, 220, 137, 154, 251, 124, 46, 195, 143, 184, 101, 72, 38, 200, 18, 74, 206, 231, 210, 98, 12, 224, 31, 239, 17, 117, 120, 113, 165, 142, 118, 61, 189, 188, 134, 87, 11, 40, 47, 163, 218, 212, 228, 15, 169, 39, 83, 4, 27, 252, 172, 230, 122, 7, 174, 99, 197, 219, 226, 234, 148, 139, 196, 213, 157, 248, 144, 107, 177, 13, 214, 235, 198, 14, 207, 173, 8, 78, 215, 227, 93, 80, 30, 179, 91, 35, 56, 52, 104, 70, 3, 140, 221, 156, 125, 160, 205, 26, 65, 28]
theorem invG_all : ∀ n, n < 256 → invG n 255 1 = invT.getD n 0 := by decide +kernel
theorem tw_toNat (b : B8) : (tw b).toNat = xtG b.toNat := all256 (P := fun b => (tw b).toNat = xtG b.toNat) (by decide +kernel) b
theorem timesG_eq (a b : B8) (k i : Nat) : timesG k (a.toNat / 2 ^ i) (timesTo a b i).2.toNat (timesTo a b i).1.toNat = (timesTo a b (i + k)).1.toNat := by
  induction k generalizing i with
  | zero => rfl
  | succ k ih =>
    have e := ih (i + 1)
    rw [show i + 1 + k = i + (k + 1) by omega] at e
    rw [← e, timesG, Nat.div_div_eq_div_mul, ← Nat.pow_succ]
    have e1 : (timesTo a b (i + 1)).2.toNat = xtG (timesTo a b i).2.toNat := by rw [timesTo, tw_toNat]
    have e2 : (timesTo a b (i + 1)).1.toNat = cond (Nat.beq (a.toNat / 2 ^ i % 2) 1) (Nat.xor (timesTo a b i).1.toNat (timesTo a b i).2.toNat) (timesTo a b i).1.toNat := by
      have es : (a >>> i).toNat = a.toNat / 2 ^ i := by rw [BitVec.toNat_ushiftRight, Nat.shiftRight_eq_div_pow]
      rw [timesTo]
      dsimp only
      rw [es]
      by_cases h : a.toNat / 2 ^ i % 2 = 1
      · rw [if_pos h, h]; rfl
      · rw [if_neg h, show Nat.beq (a.toNat / 2 ^ i % 2) 1 = false by rw [show a.toNat / 2 ^ i % 2 = 0 by omega]; rfl]; rfl
    rw [e1, e2]
theorem times_eq (a b : B8) : (times a b).toNat = timesG 8 a.toNat b.toNat 0 := by
  have := timesG_eq a b 8 0
  rw [Nat.pow_zero, Nat.div_one] at this
  exact this.symm
theorem nbeq {a b : Nat} (h : ¬ a = b) : Nat.beq a b = false := by
  cases e : Nat.beq a b
  · rfl
  · exact absurd (Nat.eq_of_beq_eq_true e) h
theorem invF_eq (b : B8) (k x : Nat) (h : x + k ≤ 256) : invF b k x = BitVec.ofNat 8 (invG b.toNat k x) := by
  induction k generalizing x with
  | zero => rfl
  | succ k ih =>
    rw [invF, invG, ih (x + 1) (by omega)]
    have e := times_eq (BitVec.ofNat 8 x) b
    rw [BitVec.toNat_ofNat, Nat.mod_eq_of_lt (by omega)] at e
    by_cases h1 : times (BitVec.ofNat 8 x) b = 1#8
    · rw [if_pos h1, show timesG 8 x b.toNat 0 = 1 by rw [← e, h1]; rfl]; rfl
    · have h2 : ¬ timesG 8 x b.toNat 0 = 1 := fun h => h1 (BitVec.eq_of_toNat_eq (by rw [e, h]; rfl))
      rw [if_neg h1, nbeq h2]; rfl
theorem rS_tab : ∀ n, n < 256 → rSo (BitVec.ofNat 8 (invT.getD n 0)) 4 = sb (BitVec.ofNat 8 n) := by decide +kernel
theorem rS_sb (b : B8) : rS b = sb b :=
  all256 (P := fun b => rS b = sb b) (fun n hn => by
    rw [rS, inv, invF_eq _ _ _ (by omega), BitVec.toNat_ofNat, Nat.mod_eq_of_lt hn, invG_all n hn, rS_tab n hn]) b
end Go.Proofs.Ythdkclkiegkabaa
