/- Rules with conditions, for simp with omega: whole numbers as natural ones, indices, branches. -/
import Derived.Test.YthdkclkiegkabaaAdmY
namespace Go.Adm

theorem wrap_id {x : Int} (h1 : -9223372036854775808 ≤ x) (h2 : x < 9223372036854775808) : IntKind.i64.wrap x = x := wrap_i64 h1 h2
theorem nat_add (a b : Nat) : ((a : Int) + (b : Int)) = ((a + b : Nat) : Int) := by omega
theorem nat_addl (a b : Nat) : ((a : Int) + (no_index (OfNat.ofNat b) : Int)) = ((a + (no_index (OfNat.ofNat b)) : Nat) : Int) := rfl
theorem nat_ladd (a b : Nat) : ((no_index (OfNat.ofNat a) : Int) + (b : Int)) = (((no_index (OfNat.ofNat a)) + b : Nat) : Int) := by
  rw [lit_cast]; show (a : Int) + (b : Int) = ((a + b : Nat) : Int); omega
theorem nat_mull (a b : Nat) : ((a : Int) * (no_index (OfNat.ofNat b) : Int)) = ((a * (no_index (OfNat.ofNat b)) : Nat) : Int) := by
  rw [lit_cast]; exact (Int.natCast_mul a b).symm
theorem nat_lmul (a b : Nat) : ((no_index (OfNat.ofNat a) : Int) * (b : Int)) = (((no_index (OfNat.ofNat a)) * b : Nat) : Int) := by
  rw [lit_cast]; exact (Int.natCast_mul a b).symm
theorem nat_mul (a b : Nat) : ((a : Int) * (b : Int)) = ((a * b : Nat) : Int) := (Int.natCast_mul a b).symm
theorem nat_sub {a b : Nat} (h : b ≤ a) : ((a : Int) - (b : Int)) = ((a - b : Nat) : Int) := by omega
theorem nat_subl {a b : Nat} (h : b ≤ a) : ((a : Int) - (no_index (OfNat.ofNat b) : Int)) = ((a - (no_index (OfNat.ofNat b)) : Nat) : Int) := by
  rw [lit_cast]; show (a : Int) - (b : Int) = ((a - b : Nat) : Int); omega
theorem nat_lsub {a b : Nat} (h : b ≤ a) : ((no_index (OfNat.ofNat a) : Int) - (b : Int)) = (((no_index (OfNat.ofNat a)) - b : Nat) : Int) := by
  rw [lit_cast]; show (a : Int) - (b : Int) = ((a - b : Nat) : Int); omega
theorem tmod_nn (a b : Nat) : ((a : Nat) : Int).tmod (b : Int) = ((a % b : Nat) : Int) := rfl
theorem tdiv_nn (a b : Nat) : ((a : Nat) : Int).tdiv (b : Int) = ((a / b : Nat) : Int) := rfl

theorem someW_if {α : Type} {c : Prop} [Decidable c] (h : c) (a : α) (K : α → Prop) : someW (if c then some a else none) K = K a := by rw [if_pos h]; rfl
theorem ite_some {α : Type} {c : Prop} [Decidable c] (h : ¬ c) (a : α) : (if c then none else some a) = some a := if_neg h
theorem ite_none {α : Type} {c : Prop} [Decidable c] (h : c) (a : α) : (if c then some a else none) = some a := if_pos h
theorem condS_dt {P : Program} {p : Prop} [Decidable p] {a b : ACode} {t : AFr} {m : Mem} {Q : Exit → AFr → Mem → Prop} (h : p) : condS P (some (.bool (decide p))) a b t m Q = wpA P a t m Q := by rw [decide_eq_true h, condS_t]
theorem condS_df {P : Program} {p : Prop} [Decidable p] {a b : ACode} {t : AFr} {m : Mem} {Q : Exit → AFr → Mem → Prop} (h : ¬ p) : condS P (some (.bool (decide p))) a b t m Q = wpA P b t m Q := by rw [decide_eq_false h, condS_f]
theorem condS_et {P : Program} {x y : Int} {a b : ACode} {t : AFr} {m : Mem} {Q : Exit → AFr → Mem → Prop} (h : x = y) : condS P (some (.bool (x == y))) a b t m Q = wpA P a t m Q := by rw [beq_iff_eq.mpr h, condS_t]
theorem condS_ef {P : Program} {x y : Int} {a b : ACode} {t : AFr} {m : Mem} {Q : Exit → AFr → Mem → Prop} (h : ¬ x = y) : condS P (some (.bool (x == y))) a b t m Q = wpA P b t m Q := by rw [beq_eq_false_iff_ne.mpr h, condS_f]
theorem condS_nt {P : Program} {x y : Int} {a b : ACode} {t : AFr} {m : Mem} {Q : Exit → AFr → Mem → Prop} (h : ¬ x = y) : condS P (some (.bool !(x == y))) a b t m Q = wpA P a t m Q := by rw [beq_eq_false_iff_ne.mpr h]; exact condS_t ..
theorem condS_nf {P : Program} {x y : Int} {a b : ACode} {t : AFr} {m : Mem} {Q : Exit → AFr → Mem → Prop} (h : x = y) : condS P (some (.bool !(x == y))) a b t m Q = wpA P b t m Q := by rw [beq_iff_eq.mpr h]; exact condS_f ..
section
variable {P : Program} {d : Option Nat} {k : AK} {xs : List AX} {r : List AOper} {t : AFr} {m : Mem} {K : AFr → Mem → Prop} {lo hi : Nat} {past : List Mem} {pend : List (Nat × (Mem → Prop))}
theorem guardS_dt {p : Prop} [Decidable p] (h : p) : guardS P (some (decide p)) d k xs r t m K = guardS P (some true) d k xs r t m K := by rw [decide_eq_true h]
theorem guardS_df {p : Prop} [Decidable p] (h : ¬ p) : guardS P (some (decide p)) d k xs r t m K = guardS P (some false) d k xs r t m K := by rw [decide_eq_false h]
theorem guardS_et {x y : Int} (h : x = y) : guardS P (some (x == y)) d k xs r t m K = guardS P (some true) d k xs r t m K := by rw [beq_iff_eq.mpr h]
theorem guardS_ef {x y : Int} (h : ¬ x = y) : guardS P (some (x == y)) d k xs r t m K = guardS P (some false) d k xs r t m K := by rw [beq_eq_false_iff_ne.mpr h]
theorem guardS_nt {x y : Int} (h : ¬ x = y) : guardS P (some !(x == y)) d k xs r t m K = guardS P (some true) d k xs r t m K := by rw [beq_eq_false_iff_ne.mpr h]; rfl
theorem guardS_nf {x y : Int} (h : x = y) : guardS P (some !(x == y)) d k xs r t m K = guardS P (some false) d k xs r t m K := by rw [beq_iff_eq.mpr h]; rfl
theorem guardD_dt {p : Prop} [Decidable p] (h : p) : guardD P (some (decide p)) d k xs lo hi r t m past pend K = guardD P (some true) d k xs lo hi r t m past pend K := by rw [decide_eq_true h]
theorem guardD_df {p : Prop} [Decidable p] (h : ¬ p) : guardD P (some (decide p)) d k xs lo hi r t m past pend K = guardD P (some false) d k xs lo hi r t m past pend K := by rw [decide_eq_false h]
theorem guardD_et {x y : Int} (h : x = y) : guardD P (some (x == y)) d k xs lo hi r t m past pend K = guardD P (some true) d k xs lo hi r t m past pend K := by rw [beq_iff_eq.mpr h]
theorem guardD_ef {x y : Int} (h : ¬ x = y) : guardD P (some (x == y)) d k xs lo hi r t m past pend K = guardD P (some false) d k xs lo hi r t m past pend K := by rw [beq_eq_false_iff_ne.mpr h]
theorem guardD_nt {x y : Int} (h : ¬ x = y) : guardD P (some !(x == y)) d k xs lo hi r t m past pend K = guardD P (some true) d k xs lo hi r t m past pend K := by rw [beq_eq_false_iff_ne.mpr h]; rfl
theorem guardD_nf {x y : Int} (h : x = y) : guardD P (some !(x == y)) d k xs lo hi r t m past pend K = guardD P (some false) d k xs lo hi r t m past pend K := by rw [beq_iff_eq.mpr h]; rfl
end
theorem aCmp_lt_t {a b : Int} (h : a < b) : decide (a < b) = true := decide_eq_true h
theorem bys_at {l : List B8} {i : Nat} (h : i < l.length) : (bys l)[i]? = some (b8 (gb l i)) := bys_get rfl h
theorem take_len {l : List B8} {n : Nat} (h : l.length ≤ n) : (bys l).take n = bys l := List.take_of_length_le (by simpa using h)
theorem splice_whole {a b : List B8} (h : b.length = a.length) : splice (bys a) 0 (bys b) = bys b := splice_all (by simpa using h)
theorem splice_byte {l : List B8} {i : Nat} {x : B8} (h : i < l.length) : splice (bys l) i [b8 x] = bys (l.set i x) := splice_map h
theorem in_u8' (a : B8) : ((0 : Int) ≤ (a.toNat : Int) ∧ (a.toNat : Int) < 256) = True := eq_true (in_u8 a)
theorem gb_new {n i j : Nat} {f g : Nat → B8} (h : j < n) (hj : i ≤ j) : gb (upTo n f g i) j = g j := by simp [gb, upTo_get h hj]
theorem gb_old {n i j : Nat} {f g : Nat → B8} (h : j < n) (hj : j < i) : gb (upTo n f g i) j = f j := by simp [gb, upTo_old h hj]
theorem wadd_u8 {a b : B8} : IntKind.u8.wrap ((a.toNat + b.toNat : Nat) : Int) = ((a + b).toNat : Int) := by rw [← nat_add, add_vv_u8]
theorem wadd_u32 {a b : BitVec 32} : IntKind.u32.wrap ((a.toNat + b.toNat : Nat) : Int) = ((a + b).toNat : Int) := by rw [← nat_add, add_vv_u32]
theorem wadd_u64 {a b : BitVec 64} : IntKind.u64.wrap ((a.toNat + b.toNat : Nat) : Int) = ((a + b).toNat : Int) := by rw [← nat_add, add_vv_u64]
set_option linter.defProp false
/-- The rules with conditions, and all others, as one. -/
def admO := And.intro @wrap_id (And.intro nat_add (And.intro nat_addl (And.intro nat_ladd (And.intro nat_mull (And.intro nat_lmul (And.intro nat_mul (And.intro @nat_sub (And.intro @nat_subl (And.intro @nat_lsub (And.intro tmod_nn (And.intro tdiv_nn (And.intro tmod_nat (And.intro tdiv_nat
  (And.intro bys_rep (And.intro in_u8' (And.intro @someW_if (And.intro @ite_none (And.intro @ite_some (And.intro @condS_dt (And.intro @condS_df (And.intro @condS_et (And.intro @condS_ef (And.intro @condS_nt (And.intro @condS_nf (And.intro @guardS_dt (And.intro @guardS_df (And.intro @guardS_et (And.intro @guardS_ef (And.intro @guardS_nt (And.intro @guardS_nf
  (And.intro @guardD_dt (And.intro @guardD_df (And.intro @guardD_et (And.intro @guardD_ef (And.intro @guardD_nt (And.intro @guardD_nf (And.intro @bys_at (And.intro @take_len (And.intro @splice_whole (And.intro @wadd_u8 (And.intro @wadd_u32 (And.intro @wadd_u64 (And.intro @gb_new (And.intro @gb_old (And.intro @gb_tab admB)))))))))))))))))))))))))))))))))))))))))))))
end Go.Adm
