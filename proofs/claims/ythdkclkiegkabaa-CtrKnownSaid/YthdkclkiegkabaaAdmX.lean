/- Bytes and words as bit vectors: what the operations on them come to. -/
import Derived.Test.YthdkclkiegkabaaAdmW
namespace Go.Adm

theorem wrapU {k : IntKind} (h : k.signed = false) (x : Int) : k.wrap x = ((BitVec.ofInt k.bits x).toNat : Int) := by
  unfold IntKind.wrap
  have hp : (0 : Int) < 2 ^ k.bits := Int.pow_pos (by decide)
  simp only [h, Bool.false_and, Bool.false_eq_true, if_false, BitVec.toNat_ofInt]
  rw [Int.toNat_of_nonneg]
  · simp
  · exact Int.emod_nonneg _ (by have := Nat.two_pow_pos k.bits; omega)
theorem ofInt_toNat {n : Nat} (a : BitVec n) : BitVec.ofInt n (a.toNat : Int) = a := by
  rw [BitVec.ofInt_natCast]; simp
theorem ofInt_lit {n : Nat} (k : Nat) : BitVec.ofInt n (k : Int) = BitVec.ofNat n k := BitVec.ofInt_natCast ..
theorem lit_cast (k : Nat) : (no_index (OfNat.ofNat k) : Int) = ((k : Nat) : Int) := rfl
theorem ofInt_add {n : Nat} (x y : Int) : BitVec.ofInt n (x + y) = BitVec.ofInt n x + BitVec.ofInt n y := BitVec.ofInt_add ..
theorem ofInt_mul {n : Nat} (x y : Int) : BitVec.ofInt n (x * y) = BitVec.ofInt n x * BitVec.ofInt n y := BitVec.ofInt_mul ..
theorem ofInt_sub {n : Nat} (x y : Int) : BitVec.ofInt n (x - y) = BitVec.ofInt n x - BitVec.ofInt n y := by
  rw [Int.sub_eq_add_neg, BitVec.ofInt_add, BitVec.ofInt_neg, BitVec.sub_eq_add_neg]
theorem ofInt_mul_two {n : Nat} (a : BitVec n) (k : Nat) : BitVec.ofInt n ((a.toNat : Int) * 2 ^ Nat.min k n) = a <<< k := by
  apply BitVec.eq_of_toNat_eq
  have e : (a.toNat : Int) * 2 ^ Nat.min k n = ((a.toNat * 2 ^ Nat.min k n : Nat) : Int) := by simp
  rw [e, BitVec.ofInt_natCast, BitVec.toNat_ofNat, BitVec.toNat_shiftLeft, Nat.shiftLeft_eq]
  by_cases h : k ≤ n
  · rw [show Nat.min k n = k from Nat.min_eq_left h]
  · have h1 : Nat.min k n = n := Nat.min_eq_right (by omega)
    have h2 : k = n + (k - n) := by omega
    rw [h1, Nat.mul_mod_left]
    rw [h2, Nat.pow_add, ← Nat.mul_assoc, Nat.mul_comm (a.toNat * 2 ^ n), ← Nat.mul_assoc, Nat.mul_mod_left]
theorem fdiv_two {n : Nat} (a : BitVec n) (k : Nat) : (a.toNat : Int).fdiv (2 ^ Nat.min k n) = ((a >>> k).toNat : Int) := by
  have e : (2 : Int) ^ Nat.min k n = ((2 ^ Nat.min k n : Nat) : Int) := by simp
  rw [e, Int.fdiv_eq_ediv_of_nonneg _ (Int.natCast_nonneg _)]
  rw [BitVec.toNat_ushiftRight, Nat.shiftRight_eq_div_pow, ← Int.natCast_ediv]
  by_cases h : k ≤ n
  · rw [show Nat.min k n = k from Nat.min_eq_left h]
  · have h1 : Nat.min k n = n := Nat.min_eq_right (by omega)
    have h3 : 2 ^ n ≤ 2 ^ k := Nat.pow_le_pow_right (by decide) (by omega)
    rw [h1, Nat.div_eq_of_lt a.isLt, Nat.div_eq_of_lt (Nat.lt_of_lt_of_le a.isLt h3)]
theorem bv_beq {n : Nat} (a b : BitVec n) : ((a.toNat : Int) == (b.toNat : Int)) = (a == b) := by
  rw [Bool.eq_iff_iff, beq_iff_eq, beq_iff_eq]
  constructor
  · intro h; exact BitVec.eq_of_toNat_eq (by omega)
  · rintro rfl; rfl

/-! ### u8 -/
theorem wr_u8 (x : Int) : IntKind.u8.wrap x = ((BitVec.ofInt 8 x).toNat : Int) := wrapU rfl x
abbrev b8 (b : BitVec 8) : AV := .int .u8 (b.toNat : Int)
theorem xor_vv_u8 {a b : BitVec 8} : IntKind.u8.wrap (((BitVec.ofInt IntKind.u8.bits (a.toNat : Int)) ^^^ (BitVec.ofInt IntKind.u8.bits (b.toNat : Int))).toNat : Int) = ((a ^^^ b).toNat : Int) := by
  rw [wr_u8]; exact congrArg (fun z : BitVec 8 => (z.toNat : Int)) (Eq.trans (ofInt_toNat (n := 8) _) (by
    show (BitVec.ofInt 8 _ ^^^ BitVec.ofInt 8 _ : BitVec 8) = _
    simp only [BitVec.ofInt_natCast, BitVec.ofNat_toNat, BitVec.setWidth_eq, lit_cast]))
theorem xor_vl_u8 {a : BitVec 8} {k : Nat} : IntKind.u8.wrap (((BitVec.ofInt IntKind.u8.bits (a.toNat : Int)) ^^^ (BitVec.ofInt IntKind.u8.bits (no_index (OfNat.ofNat k) : Int))).toNat : Int) = ((a ^^^ (BitVec.ofNat 8 k)).toNat : Int) := by
  rw [wr_u8]; exact congrArg (fun z : BitVec 8 => (z.toNat : Int)) (Eq.trans (ofInt_toNat (n := 8) _) (by
    show (BitVec.ofInt 8 _ ^^^ BitVec.ofInt 8 _ : BitVec 8) = _
    simp only [BitVec.ofInt_natCast, BitVec.ofNat_toNat, BitVec.setWidth_eq, lit_cast]))
theorem xor_lv_u8 {a : BitVec 8} {k : Nat} : IntKind.u8.wrap (((BitVec.ofInt IntKind.u8.bits (no_index (OfNat.ofNat k) : Int)) ^^^ (BitVec.ofInt IntKind.u8.bits (a.toNat : Int))).toNat : Int) = (((BitVec.ofNat 8 k) ^^^ a).toNat : Int) := by
  rw [wr_u8]; exact congrArg (fun z : BitVec 8 => (z.toNat : Int)) (Eq.trans (ofInt_toNat (n := 8) _) (by
    show (BitVec.ofInt 8 _ ^^^ BitVec.ofInt 8 _ : BitVec 8) = _
    simp only [BitVec.ofInt_natCast, BitVec.ofNat_toNat, BitVec.setWidth_eq, lit_cast]))
theorem and_vv_u8 {a b : BitVec 8} : IntKind.u8.wrap (((BitVec.ofInt IntKind.u8.bits (a.toNat : Int)) &&& (BitVec.ofInt IntKind.u8.bits (b.toNat : Int))).toNat : Int) = ((a &&& b).toNat : Int) := by
  rw [wr_u8]; exact congrArg (fun z : BitVec 8 => (z.toNat : Int)) (Eq.trans (ofInt_toNat (n := 8) _) (by
    show (BitVec.ofInt 8 _ &&& BitVec.ofInt 8 _ : BitVec 8) = _
    simp only [BitVec.ofInt_natCast, BitVec.ofNat_toNat, BitVec.setWidth_eq, lit_cast]))
theorem and_vl_u8 {a : BitVec 8} {k : Nat} : IntKind.u8.wrap (((BitVec.ofInt IntKind.u8.bits (a.toNat : Int)) &&& (BitVec.ofInt IntKind.u8.bits (no_index (OfNat.ofNat k) : Int))).toNat : Int) = ((a &&& (BitVec.ofNat 8 k)).toNat : Int) := by
  rw [wr_u8]; exact congrArg (fun z : BitVec 8 => (z.toNat : Int)) (Eq.trans (ofInt_toNat (n := 8) _) (by
    show (BitVec.ofInt 8 _ &&& BitVec.ofInt 8 _ : BitVec 8) = _
    simp only [BitVec.ofInt_natCast, BitVec.ofNat_toNat, BitVec.setWidth_eq, lit_cast]))
theorem and_lv_u8 {a : BitVec 8} {k : Nat} : IntKind.u8.wrap (((BitVec.ofInt IntKind.u8.bits (no_index (OfNat.ofNat k) : Int)) &&& (BitVec.ofInt IntKind.u8.bits (a.toNat : Int))).toNat : Int) = (((BitVec.ofNat 8 k) &&& a).toNat : Int) := by
  rw [wr_u8]; exact congrArg (fun z : BitVec 8 => (z.toNat : Int)) (Eq.trans (ofInt_toNat (n := 8) _) (by
    show (BitVec.ofInt 8 _ &&& BitVec.ofInt 8 _ : BitVec 8) = _
    simp only [BitVec.ofInt_natCast, BitVec.ofNat_toNat, BitVec.setWidth_eq, lit_cast]))
theorem or_vv_u8 {a b : BitVec 8} : IntKind.u8.wrap (((BitVec.ofInt IntKind.u8.bits (a.toNat : Int)) ||| (BitVec.ofInt IntKind.u8.bits (b.toNat : Int))).toNat : Int) = ((a ||| b).toNat : Int) := by
  rw [wr_u8]; exact congrArg (fun z : BitVec 8 => (z.toNat : Int)) (Eq.trans (ofInt_toNat (n := 8) _) (by
    show (BitVec.ofInt 8 _ ||| BitVec.ofInt 8 _ : BitVec 8) = _
    simp only [BitVec.ofInt_natCast, BitVec.ofNat_toNat, BitVec.setWidth_eq, lit_cast]))
theorem or_vl_u8 {a : BitVec 8} {k : Nat} : IntKind.u8.wrap (((BitVec.ofInt IntKind.u8.bits (a.toNat : Int)) ||| (BitVec.ofInt IntKind.u8.bits (no_index (OfNat.ofNat k) : Int))).toNat : Int) = ((a ||| (BitVec.ofNat 8 k)).toNat : Int) := by
  rw [wr_u8]; exact congrArg (fun z : BitVec 8 => (z.toNat : Int)) (Eq.trans (ofInt_toNat (n := 8) _) (by
    show (BitVec.ofInt 8 _ ||| BitVec.ofInt 8 _ : BitVec 8) = _
    simp only [BitVec.ofInt_natCast, BitVec.ofNat_toNat, BitVec.setWidth_eq, lit_cast]))
theorem or_lv_u8 {a : BitVec 8} {k : Nat} : IntKind.u8.wrap (((BitVec.ofInt IntKind.u8.bits (no_index (OfNat.ofNat k) : Int)) ||| (BitVec.ofInt IntKind.u8.bits (a.toNat : Int))).toNat : Int) = (((BitVec.ofNat 8 k) ||| a).toNat : Int) := by
  rw [wr_u8]; exact congrArg (fun z : BitVec 8 => (z.toNat : Int)) (Eq.trans (ofInt_toNat (n := 8) _) (by
    show (BitVec.ofInt 8 _ ||| BitVec.ofInt 8 _ : BitVec 8) = _
    simp only [BitVec.ofInt_natCast, BitVec.ofNat_toNat, BitVec.setWidth_eq, lit_cast]))
theorem add_vv_u8 {a b : BitVec 8} : IntKind.u8.wrap ((a.toNat : Int) + (b.toNat : Int)) = ((a + b).toNat : Int) := by
  rw [wr_u8, ofInt_add, ofInt_toNat, ofInt_toNat]
theorem add_vl_u8 {a : BitVec 8} {k : Nat} : IntKind.u8.wrap ((a.toNat : Int) + (no_index (OfNat.ofNat k) : Int)) = ((a + BitVec.ofNat 8 k).toNat : Int) := by
  rw [wr_u8, lit_cast, ofInt_add, ofInt_toNat, ofInt_lit]
theorem sub_vv_u8 {a b : BitVec 8} : IntKind.u8.wrap ((a.toNat : Int) - (b.toNat : Int)) = ((a - b).toNat : Int) := by
  rw [wr_u8, ofInt_sub, ofInt_toNat, ofInt_toNat]
theorem sub_vl_u8 {a : BitVec 8} {k : Nat} : IntKind.u8.wrap ((a.toNat : Int) - (no_index (OfNat.ofNat k) : Int)) = ((a - BitVec.ofNat 8 k).toNat : Int) := by
  rw [wr_u8, lit_cast, ofInt_sub, ofInt_toNat, ofInt_lit]
theorem mul_vv_u8 {a b : BitVec 8} : IntKind.u8.wrap ((a.toNat : Int) * (b.toNat : Int)) = ((a * b).toNat : Int) := by
  rw [wr_u8, ofInt_mul, ofInt_toNat, ofInt_toNat]
theorem mul_vl_u8 {a : BitVec 8} {k : Nat} : IntKind.u8.wrap ((a.toNat : Int) * (no_index (OfNat.ofNat k) : Int)) = ((a * BitVec.ofNat 8 k).toNat : Int) := by
  rw [wr_u8, lit_cast, ofInt_mul, ofInt_toNat, ofInt_lit]
theorem shl_u8 {a : BitVec 8} {k : Nat} : IntKind.u8.wrap ((a.toNat : Int) * 2 ^ Nat.min k IntKind.u8.bits) = ((a <<< k).toNat : Int) := by
  rw [wr_u8]; exact congrArg (fun z : BitVec 8 => (z.toNat : Int)) (ofInt_mul_two (n := 8) a k)
theorem shr_u8 {a : BitVec 8} {k : Nat} : (a.toNat : Int).fdiv (2 ^ Nat.min k IntKind.u8.bits) = ((a >>> k).toNat : Int) := fdiv_two (n := 8) a k
theorem conv_u8_8 {a : BitVec 8} : IntKind.u8.wrap (a.toNat : Int) = ((a.setWidth 8).toNat : Int) := by
  rw [wr_u8, BitVec.ofInt_natCast, BitVec.ofNat_toNat]
theorem conv_u8_32 {a : BitVec 32} : IntKind.u8.wrap (a.toNat : Int) = ((a.setWidth 8).toNat : Int) := by
  rw [wr_u8, BitVec.ofInt_natCast, BitVec.ofNat_toNat]
theorem conv_u8_64 {a : BitVec 64} : IntKind.u8.wrap (a.toNat : Int) = ((a.setWidth 8).toNat : Int) := by
  rw [wr_u8, BitVec.ofInt_natCast, BitVec.ofNat_toNat]
theorem beql_u8 {a : BitVec 8} {k : Nat} (h : k < 2 ^ 8) : ((a.toNat : Int) == (no_index (OfNat.ofNat k) : Int)) = (a == BitVec.ofNat 8 k) := by
  rw [← bv_beq, lit_cast, BitVec.toNat_ofNat, Nat.mod_eq_of_lt h]
theorem in_u8 (a : BitVec 8) : (0 : Int) ≤ (a.toNat : Int) ∧ (a.toNat : Int) < 256 := ⟨by omega, by have := a.isLt; omega⟩
/-! ### u32 -/
theorem wr_u32 (x : Int) : IntKind.u32.wrap x = ((BitVec.ofInt 32 x).toNat : Int) := wrapU rfl x
abbrev b32 (b : BitVec 32) : AV := .int .u32 (b.toNat : Int)
theorem xor_vv_u32 {a b : BitVec 32} : IntKind.u32.wrap (((BitVec.ofInt IntKind.u32.bits (a.toNat : Int)) ^^^ (BitVec.ofInt IntKind.u32.bits (b.toNat : Int))).toNat : Int) = ((a ^^^ b).toNat : Int) := by
  rw [wr_u32]; exact congrArg (fun z : BitVec 32 => (z.toNat : Int)) (Eq.trans (ofInt_toNat (n := 32) _) (by
    show (BitVec.ofInt 32 _ ^^^ BitVec.ofInt 32 _ : BitVec 32) = _
    simp only [BitVec.ofInt_natCast, BitVec.ofNat_toNat, BitVec.setWidth_eq, lit_cast]))
theorem xor_vl_u32 {a : BitVec 32} {k : Nat} : IntKind.u32.wrap (((BitVec.ofInt IntKind.u32.bits (a.toNat : Int)) ^^^ (BitVec.ofInt IntKind.u32.bits (no_index (OfNat.ofNat k) : Int))).toNat : Int) = ((a ^^^ (BitVec.ofNat 32 k)).toNat : Int) := by
  rw [wr_u32]; exact congrArg (fun z : BitVec 32 => (z.toNat : Int)) (Eq.trans (ofInt_toNat (n := 32) _) (by
    show (BitVec.ofInt 32 _ ^^^ BitVec.ofInt 32 _ : BitVec 32) = _
    simp only [BitVec.ofInt_natCast, BitVec.ofNat_toNat, BitVec.setWidth_eq, lit_cast]))
theorem xor_lv_u32 {a : BitVec 32} {k : Nat} : IntKind.u32.wrap (((BitVec.ofInt IntKind.u32.bits (no_index (OfNat.ofNat k) : Int)) ^^^ (BitVec.ofInt IntKind.u32.bits (a.toNat : Int))).toNat : Int) = (((BitVec.ofNat 32 k) ^^^ a).toNat : Int) := by
  rw [wr_u32]; exact congrArg (fun z : BitVec 32 => (z.toNat : Int)) (Eq.trans (ofInt_toNat (n := 32) _) (by
    show (BitVec.ofInt 32 _ ^^^ BitVec.ofInt 32 _ : BitVec 32) = _
    simp only [BitVec.ofInt_natCast, BitVec.ofNat_toNat, BitVec.setWidth_eq, lit_cast]))
theorem and_vv_u32 {a b : BitVec 32} : IntKind.u32.wrap (((BitVec.ofInt IntKind.u32.bits (a.toNat : Int)) &&& (BitVec.ofInt IntKind.u32.bits (b.toNat : Int))).toNat : Int) = ((a &&& b).toNat : Int) := by
  rw [wr_u32]; exact congrArg (fun z : BitVec 32 => (z.toNat : Int)) (Eq.trans (ofInt_toNat (n := 32) _) (by
    show (BitVec.ofInt 32 _ &&& BitVec.ofInt 32 _ : BitVec 32) = _
    simp only [BitVec.ofInt_natCast, BitVec.ofNat_toNat, BitVec.setWidth_eq, lit_cast]))
theorem and_vl_u32 {a : BitVec 32} {k : Nat} : IntKind.u32.wrap (((BitVec.ofInt IntKind.u32.bits (a.toNat : Int)) &&& (BitVec.ofInt IntKind.u32.bits (no_index (OfNat.ofNat k) : Int))).toNat : Int) = ((a &&& (BitVec.ofNat 32 k)).toNat : Int) := by
  rw [wr_u32]; exact congrArg (fun z : BitVec 32 => (z.toNat : Int)) (Eq.trans (ofInt_toNat (n := 32) _) (by
    show (BitVec.ofInt 32 _ &&& BitVec.ofInt 32 _ : BitVec 32) = _
    simp only [BitVec.ofInt_natCast, BitVec.ofNat_toNat, BitVec.setWidth_eq, lit_cast]))
theorem and_lv_u32 {a : BitVec 32} {k : Nat} : IntKind.u32.wrap (((BitVec.ofInt IntKind.u32.bits (no_index (OfNat.ofNat k) : Int)) &&& (BitVec.ofInt IntKind.u32.bits (a.toNat : Int))).toNat : Int) = (((BitVec.ofNat 32 k) &&& a).toNat : Int) := by
  rw [wr_u32]; exact congrArg (fun z : BitVec 32 => (z.toNat : Int)) (Eq.trans (ofInt_toNat (n := 32) _) (by
    show (BitVec.ofInt 32 _ &&& BitVec.ofInt 32 _ : BitVec 32) = _
    simp only [BitVec.ofInt_natCast, BitVec.ofNat_toNat, BitVec.setWidth_eq, lit_cast]))
theorem or_vv_u32 {a b : BitVec 32} : IntKind.u32.wrap (((BitVec.ofInt IntKind.u32.bits (a.toNat : Int)) ||| (BitVec.ofInt IntKind.u32.bits (b.toNat : Int))).toNat : Int) = ((a ||| b).toNat : Int) := by
  rw [wr_u32]; exact congrArg (fun z : BitVec 32 => (z.toNat : Int)) (Eq.trans (ofInt_toNat (n := 32) _) (by
    show (BitVec.ofInt 32 _ ||| BitVec.ofInt 32 _ : BitVec 32) = _
    simp only [BitVec.ofInt_natCast, BitVec.ofNat_toNat, BitVec.setWidth_eq, lit_cast]))
theorem or_vl_u32 {a : BitVec 32} {k : Nat} : IntKind.u32.wrap (((BitVec.ofInt IntKind.u32.bits (a.toNat : Int)) ||| (BitVec.ofInt IntKind.u32.bits (no_index (OfNat.ofNat k) : Int))).toNat : Int) = ((a ||| (BitVec.ofNat 32 k)).toNat : Int) := by
  rw [wr_u32]; exact congrArg (fun z : BitVec 32 => (z.toNat : Int)) (Eq.trans (ofInt_toNat (n := 32) _) (by
    show (BitVec.ofInt 32 _ ||| BitVec.ofInt 32 _ : BitVec 32) = _
    simp only [BitVec.ofInt_natCast, BitVec.ofNat_toNat, BitVec.setWidth_eq, lit_cast]))
theorem or_lv_u32 {a : BitVec 32} {k : Nat} : IntKind.u32.wrap (((BitVec.ofInt IntKind.u32.bits (no_index (OfNat.ofNat k) : Int)) ||| (BitVec.ofInt IntKind.u32.bits (a.toNat : Int))).toNat : Int) = (((BitVec.ofNat 32 k) ||| a).toNat : Int) := by
  rw [wr_u32]; exact congrArg (fun z : BitVec 32 => (z.toNat : Int)) (Eq.trans (ofInt_toNat (n := 32) _) (by
    show (BitVec.ofInt 32 _ ||| BitVec.ofInt 32 _ : BitVec 32) = _
    simp only [BitVec.ofInt_natCast, BitVec.ofNat_toNat, BitVec.setWidth_eq, lit_cast]))
theorem add_vv_u32 {a b : BitVec 32} : IntKind.u32.wrap ((a.toNat : Int) + (b.toNat : Int)) = ((a + b).toNat : Int) := by
  rw [wr_u32, ofInt_add, ofInt_toNat, ofInt_toNat]
theorem add_vl_u32 {a : BitVec 32} {k : Nat} : IntKind.u32.wrap ((a.toNat : Int) + (no_index (OfNat.ofNat k) : Int)) = ((a + BitVec.ofNat 32 k).toNat : Int) := by
  rw [wr_u32, lit_cast, ofInt_add, ofInt_toNat, ofInt_lit]
theorem sub_vv_u32 {a b : BitVec 32} : IntKind.u32.wrap ((a.toNat : Int) - (b.toNat : Int)) = ((a - b).toNat : Int) := by
  rw [wr_u32, ofInt_sub, ofInt_toNat, ofInt_toNat]
theorem sub_vl_u32 {a : BitVec 32} {k : Nat} : IntKind.u32.wrap ((a.toNat : Int) - (no_index (OfNat.ofNat k) : Int)) = ((a - BitVec.ofNat 32 k).toNat : Int) := by
  rw [wr_u32, lit_cast, ofInt_sub, ofInt_toNat, ofInt_lit]
theorem mul_vv_u32 {a b : BitVec 32} : IntKind.u32.wrap ((a.toNat : Int) * (b.toNat : Int)) = ((a * b).toNat : Int) := by
  rw [wr_u32, ofInt_mul, ofInt_toNat, ofInt_toNat]
theorem mul_vl_u32 {a : BitVec 32} {k : Nat} : IntKind.u32.wrap ((a.toNat : Int) * (no_index (OfNat.ofNat k) : Int)) = ((a * BitVec.ofNat 32 k).toNat : Int) := by
  rw [wr_u32, lit_cast, ofInt_mul, ofInt_toNat, ofInt_lit]
theorem shl_u32 {a : BitVec 32} {k : Nat} : IntKind.u32.wrap ((a.toNat : Int) * 2 ^ Nat.min k IntKind.u32.bits) = ((a <<< k).toNat : Int) := by
  rw [wr_u32]; exact congrArg (fun z : BitVec 32 => (z.toNat : Int)) (ofInt_mul_two (n := 32) a k)
theorem shr_u32 {a : BitVec 32} {k : Nat} : (a.toNat : Int).fdiv (2 ^ Nat.min k IntKind.u32.bits) = ((a >>> k).toNat : Int) := fdiv_two (n := 32) a k
theorem conv_u32_8 {a : BitVec 8} : IntKind.u32.wrap (a.toNat : Int) = ((a.setWidth 32).toNat : Int) := by
  rw [wr_u32, BitVec.ofInt_natCast, BitVec.ofNat_toNat]
theorem conv_u32_32 {a : BitVec 32} : IntKind.u32.wrap (a.toNat : Int) = ((a.setWidth 32).toNat : Int) := by
  rw [wr_u32, BitVec.ofInt_natCast, BitVec.ofNat_toNat]
theorem conv_u32_64 {a : BitVec 64} : IntKind.u32.wrap (a.toNat : Int) = ((a.setWidth 32).toNat : Int) := by
  rw [wr_u32, BitVec.ofInt_natCast, BitVec.ofNat_toNat]
theorem beql_u32 {a : BitVec 32} {k : Nat} (h : k < 2 ^ 32) : ((a.toNat : Int) == (no_index (OfNat.ofNat k) : Int)) = (a == BitVec.ofNat 32 k) := by
  rw [← bv_beq, lit_cast, BitVec.toNat_ofNat, Nat.mod_eq_of_lt h]
theorem in_u32 (a : BitVec 32) : (0 : Int) ≤ (a.toNat : Int) ∧ (a.toNat : Int) < 4294967296 := ⟨by omega, by have := a.isLt; omega⟩
/-! ### u64 -/
theorem wr_u64 (x : Int) : IntKind.u64.wrap x = ((BitVec.ofInt 64 x).toNat : Int) := wrapU rfl x
abbrev b64 (b : BitVec 64) : AV := .int .u64 (b.toNat : Int)
theorem xor_vv_u64 {a b : BitVec 64} : IntKind.u64.wrap (((BitVec.ofInt IntKind.u64.bits (a.toNat : Int)) ^^^ (BitVec.ofInt IntKind.u64.bits (b.toNat : Int))).toNat : Int) = ((a ^^^ b).toNat : Int) := by
  rw [wr_u64]; exact congrArg (fun z : BitVec 64 => (z.toNat : Int)) (Eq.trans (ofInt_toNat (n := 64) _) (by
    show (BitVec.ofInt 64 _ ^^^ BitVec.ofInt 64 _ : BitVec 64) = _
    simp only [BitVec.ofInt_natCast, BitVec.ofNat_toNat, BitVec.setWidth_eq, lit_cast]))
theorem xor_vl_u64 {a : BitVec 64} {k : Nat} : IntKind.u64.wrap (((BitVec.ofInt IntKind.u64.bits (a.toNat : Int)) ^^^ (BitVec.ofInt IntKind.u64.bits (no_index (OfNat.ofNat k) : Int))).toNat : Int) = ((a ^^^ (BitVec.ofNat 64 k)).toNat : Int) := by
  rw [wr_u64]; exact congrArg (fun z : BitVec 64 => (z.toNat : Int)) (Eq.trans (ofInt_toNat (n := 64) _) (by
    show (BitVec.ofInt 64 _ ^^^ BitVec.ofInt 64 _ : BitVec 64) = _
    simp only [BitVec.ofInt_natCast, BitVec.ofNat_toNat, BitVec.setWidth_eq, lit_cast]))
theorem xor_lv_u64 {a : BitVec 64} {k : Nat} : IntKind.u64.wrap (((BitVec.ofInt IntKind.u64.bits (no_index (OfNat.ofNat k) : Int)) ^^^ (BitVec.ofInt IntKind.u64.bits (a.toNat : Int))).toNat : Int) = (((BitVec.ofNat 64 k) ^^^ a).toNat : Int) := by
  rw [wr_u64]; exact congrArg (fun z : BitVec 64 => (z.toNat : Int)) (Eq.trans (ofInt_toNat (n := 64) _) (by
    show (BitVec.ofInt 64 _ ^^^ BitVec.ofInt 64 _ : BitVec 64) = _
    simp only [BitVec.ofInt_natCast, BitVec.ofNat_toNat, BitVec.setWidth_eq, lit_cast]))
theorem and_vv_u64 {a b : BitVec 64} : IntKind.u64.wrap (((BitVec.ofInt IntKind.u64.bits (a.toNat : Int)) &&& (BitVec.ofInt IntKind.u64.bits (b.toNat : Int))).toNat : Int) = ((a &&& b).toNat : Int) := by
  rw [wr_u64]; exact congrArg (fun z : BitVec 64 => (z.toNat : Int)) (Eq.trans (ofInt_toNat (n := 64) _) (by
    show (BitVec.ofInt 64 _ &&& BitVec.ofInt 64 _ : BitVec 64) = _
    simp only [BitVec.ofInt_natCast, BitVec.ofNat_toNat, BitVec.setWidth_eq, lit_cast]))
theorem and_vl_u64 {a : BitVec 64} {k : Nat} : IntKind.u64.wrap (((BitVec.ofInt IntKind.u64.bits (a.toNat : Int)) &&& (BitVec.ofInt IntKind.u64.bits (no_index (OfNat.ofNat k) : Int))).toNat : Int) = ((a &&& (BitVec.ofNat 64 k)).toNat : Int) := by
  rw [wr_u64]; exact congrArg (fun z : BitVec 64 => (z.toNat : Int)) (Eq.trans (ofInt_toNat (n := 64) _) (by
    show (BitVec.ofInt 64 _ &&& BitVec.ofInt 64 _ : BitVec 64) = _
    simp only [BitVec.ofInt_natCast, BitVec.ofNat_toNat, BitVec.setWidth_eq, lit_cast]))
theorem and_lv_u64 {a : BitVec 64} {k : Nat} : IntKind.u64.wrap (((BitVec.ofInt IntKind.u64.bits (no_index (OfNat.ofNat k) : Int)) &&& (BitVec.ofInt IntKind.u64.bits (a.toNat : Int))).toNat : Int) = (((BitVec.ofNat 64 k) &&& a).toNat : Int) := by
  rw [wr_u64]; exact congrArg (fun z : BitVec 64 => (z.toNat : Int)) (Eq.trans (ofInt_toNat (n := 64) _) (by
    show (BitVec.ofInt 64 _ &&& BitVec.ofInt 64 _ : BitVec 64) = _
    simp only [BitVec.ofInt_natCast, BitVec.ofNat_toNat, BitVec.setWidth_eq, lit_cast]))
theorem or_vv_u64 {a b : BitVec 64} : IntKind.u64.wrap (((BitVec.ofInt IntKind.u64.bits (a.toNat : Int)) ||| (BitVec.ofInt IntKind.u64.bits (b.toNat : Int))).toNat : Int) = ((a ||| b).toNat : Int) := by
  rw [wr_u64]; exact congrArg (fun z : BitVec 64 => (z.toNat : Int)) (Eq.trans (ofInt_toNat (n := 64) _) (by
    show (BitVec.ofInt 64 _ ||| BitVec.ofInt 64 _ : BitVec 64) = _
    simp only [BitVec.ofInt_natCast, BitVec.ofNat_toNat, BitVec.setWidth_eq, lit_cast]))
theorem or_vl_u64 {a : BitVec 64} {k : Nat} : IntKind.u64.wrap (((BitVec.ofInt IntKind.u64.bits (a.toNat : Int)) ||| (BitVec.ofInt IntKind.u64.bits (no_index (OfNat.ofNat k) : Int))).toNat : Int) = ((a ||| (BitVec.ofNat 64 k)).toNat : Int) := by
  rw [wr_u64]; exact congrArg (fun z : BitVec 64 => (z.toNat : Int)) (Eq.trans (ofInt_toNat (n := 64) _) (by
    show (BitVec.ofInt 64 _ ||| BitVec.ofInt 64 _ : BitVec 64) = _
    simp only [BitVec.ofInt_natCast, BitVec.ofNat_toNat, BitVec.setWidth_eq, lit_cast]))
theorem or_lv_u64 {a : BitVec 64} {k : Nat} : IntKind.u64.wrap (((BitVec.ofInt IntKind.u64.bits (no_index (OfNat.ofNat k) : Int)) ||| (BitVec.ofInt IntKind.u64.bits (a.toNat : Int))).toNat : Int) = (((BitVec.ofNat 64 k) ||| a).toNat : Int) := by
  rw [wr_u64]; exact congrArg (fun z : BitVec 64 => (z.toNat : Int)) (Eq.trans (ofInt_toNat (n := 64) _) (by
    show (BitVec.ofInt 64 _ ||| BitVec.ofInt 64 _ : BitVec 64) = _
    simp only [BitVec.ofInt_natCast, BitVec.ofNat_toNat, BitVec.setWidth_eq, lit_cast]))
theorem add_vv_u64 {a b : BitVec 64} : IntKind.u64.wrap ((a.toNat : Int) + (b.toNat : Int)) = ((a + b).toNat : Int) := by
  rw [wr_u64, ofInt_add, ofInt_toNat, ofInt_toNat]
theorem add_vl_u64 {a : BitVec 64} {k : Nat} : IntKind.u64.wrap ((a.toNat : Int) + (no_index (OfNat.ofNat k) : Int)) = ((a + BitVec.ofNat 64 k).toNat : Int) := by
  rw [wr_u64, lit_cast, ofInt_add, ofInt_toNat, ofInt_lit]
theorem sub_vv_u64 {a b : BitVec 64} : IntKind.u64.wrap ((a.toNat : Int) - (b.toNat : Int)) = ((a - b).toNat : Int) := by
  rw [wr_u64, ofInt_sub, ofInt_toNat, ofInt_toNat]
theorem sub_vl_u64 {a : BitVec 64} {k : Nat} : IntKind.u64.wrap ((a.toNat : Int) - (no_index (OfNat.ofNat k) : Int)) = ((a - BitVec.ofNat 64 k).toNat : Int) := by
  rw [wr_u64, lit_cast, ofInt_sub, ofInt_toNat, ofInt_lit]
theorem mul_vv_u64 {a b : BitVec 64} : IntKind.u64.wrap ((a.toNat : Int) * (b.toNat : Int)) = ((a * b).toNat : Int) := by
  rw [wr_u64, ofInt_mul, ofInt_toNat, ofInt_toNat]
theorem mul_vl_u64 {a : BitVec 64} {k : Nat} : IntKind.u64.wrap ((a.toNat : Int) * (no_index (OfNat.ofNat k) : Int)) = ((a * BitVec.ofNat 64 k).toNat : Int) := by
  rw [wr_u64, lit_cast, ofInt_mul, ofInt_toNat, ofInt_lit]
theorem shl_u64 {a : BitVec 64} {k : Nat} : IntKind.u64.wrap ((a.toNat : Int) * 2 ^ Nat.min k IntKind.u64.bits) = ((a <<< k).toNat : Int) := by
  rw [wr_u64]; exact congrArg (fun z : BitVec 64 => (z.toNat : Int)) (ofInt_mul_two (n := 64) a k)
theorem shr_u64 {a : BitVec 64} {k : Nat} : (a.toNat : Int).fdiv (2 ^ Nat.min k IntKind.u64.bits) = ((a >>> k).toNat : Int) := fdiv_two (n := 64) a k
theorem conv_u64_8 {a : BitVec 8} : IntKind.u64.wrap (a.toNat : Int) = ((a.setWidth 64).toNat : Int) := by
  rw [wr_u64, BitVec.ofInt_natCast, BitVec.ofNat_toNat]
theorem conv_u64_32 {a : BitVec 32} : IntKind.u64.wrap (a.toNat : Int) = ((a.setWidth 64).toNat : Int) := by
  rw [wr_u64, BitVec.ofInt_natCast, BitVec.ofNat_toNat]
theorem conv_u64_64 {a : BitVec 64} : IntKind.u64.wrap (a.toNat : Int) = ((a.setWidth 64).toNat : Int) := by
  rw [wr_u64, BitVec.ofInt_natCast, BitVec.ofNat_toNat]
theorem beql_u64 {a : BitVec 64} {k : Nat} (h : k < 2 ^ 64) : ((a.toNat : Int) == (no_index (OfNat.ofNat k) : Int)) = (a == BitVec.ofNat 64 k) := by
  rw [← bv_beq, lit_cast, BitVec.toNat_ofNat, Nat.mod_eq_of_lt h]
theorem in_u64 (a : BitVec 64) : (0 : Int) ≤ (a.toNat : Int) ∧ (a.toNat : Int) < 18446744073709551616 := ⟨by omega, by have := a.isLt; omega⟩
end Go.Adm
