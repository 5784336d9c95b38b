/- AES: under one key unlike blocks are turned into unlike ones. -/
import Derived.Test.YthdkclkiegkabaaAeD
namespace Go.Proofs.Ythdkclkiegkabaa
open Go Go.Adm
set_option maxRecDepth 100000

theorem all256 {P : B8 → Prop} (h : ∀ n, n < 256 → P (BitVec.ofNat 8 n)) (b : B8) : P b := by
  have := h b.toNat b.isLt
  rwa [BitVec.ofNat_toNat, BitVec.setWidth_eq] at this
theorem sb_inj {a b : B8} (h : sb a = sb b) : a = b := by
  have key : ∀ n, n < 256 → (sboxL.findIdx? (· == sb (BitVec.ofNat 8 n))) = some n := by decide +kernel
  have ha := all256 (P := fun a => sboxL.findIdx? (· == sb a) = some a.toNat) (fun n hn => by
    rw [key n hn]; simp [Nat.mod_eq_of_lt hn]) a
  have hb := all256 (P := fun a => sboxL.findIdx? (· == sb a) = some a.toNat) (fun n hn => by
    rw [key n hn]; simp [Nat.mod_eq_of_lt hn]) b
  rw [h, hb] at ha
  exact BitVec.eq_of_toNat_eq (Option.some.inj ha).symm
theorem hi_bit (a : B8) : a &&& 128#8 = 0#8 ∨ a &&& 128#8 = 128#8 :=
  all256 (P := fun a => a &&& 128#8 = 0#8 ∨ a &&& 128#8 = 128#8) (by decide +kernel) a
theorem tw_xor (a b : B8) : tw (a ^^^ b) = tw a ^^^ tw b := by
  have e : (a ^^^ b) &&& 128#8 = (a &&& 128#8) ^^^ (b &&& 128#8) := by
    ext i; simp; cases a[i] <;> cases b[i] <;> cases (128#8)[i] <;> rfl
  have s : (a ^^^ b) <<< 1 = a <<< 1 ^^^ b <<< 1 := BitVec.shiftLeft_xor_distrib ..
  have x1 : ∀ u v w : B8, u ^^^ v ^^^ w = u ^^^ w ^^^ v := fun u v w => by rw [BitVec.xor_assoc, BitVec.xor_comm v, ← BitVec.xor_assoc]
  have x2 : ∀ u v w : B8, u ^^^ w ^^^ (v ^^^ w) = u ^^^ v := fun u v w => by
    rw [BitVec.xor_comm v, ← BitVec.xor_assoc, BitVec.xor_assoc u, BitVec.xor_self, BitVec.xor_zero]
  unfold tw
  rw [e, s]
  rcases hi_bit a with h1 | h1 <;> rcases hi_bit b with h2 | h2 <;> rw [h1, h2]
  · simp
  · simp [BitVec.xor_assoc]
  · simp [x1]
  · simp [x2]
theorem tw_zero : tw 0#8 = 0#8 := rfl

def col (x : B8 × B8 × B8 × B8) : B8 × B8 × B8 × B8 :=
  (x.1 ^^^ (x.1 ^^^ x.2.1 ^^^ x.2.2.1 ^^^ x.2.2.2) ^^^ tw (x.1 ^^^ x.2.1), x.2.1 ^^^ (x.1 ^^^ x.2.1 ^^^ x.2.2.1 ^^^ x.2.2.2) ^^^ tw (x.2.1 ^^^ x.2.2.1),
   x.2.2.1 ^^^ (x.1 ^^^ x.2.1 ^^^ x.2.2.1 ^^^ x.2.2.2) ^^^ tw (x.2.2.1 ^^^ x.2.2.2), x.2.2.2 ^^^ (x.1 ^^^ x.2.1 ^^^ x.2.2.1 ^^^ x.2.2.2) ^^^ tw (x.2.2.2 ^^^ x.1))
theorem xor_cancel (x y : B8) : x ^^^ (x ^^^ y) = y := by rw [← BitVec.xor_assoc, BitVec.xor_self, BitVec.zero_xor]
theorem xor_lc (x y z : B8) : x ^^^ (y ^^^ z) = y ^^^ (x ^^^ z) := by rw [← BitVec.xor_assoc, BitVec.xor_comm x, BitVec.xor_assoc]
theorem col_col (a b c d : B8) : col (col (a, b, c, d)) = (a ^^^ tw (tw (a ^^^ c)), b ^^^ tw (tw (b ^^^ d)), c ^^^ tw (tw (c ^^^ a)), d ^^^ tw (tw (d ^^^ b))) := by
  simp only [col, tw_xor, Prod.mk.injEq]
  refine ⟨?_, ?_, ?_, ?_⟩ <;>
    simp only [BitVec.xor_assoc, BitVec.xor_comm, xor_lc, xor_cancel, BitVec.xor_self, BitVec.xor_zero, BitVec.zero_xor]
theorem col4 (x : B8 × B8 × B8 × B8) : col (col (col (col x))) = x := by
  obtain ⟨a, b, c, d⟩ := x
  rw [col_col, col_col]
  simp only [tw_xor, Prod.mk.injEq]
  refine ⟨?_, ?_, ?_, ?_⟩ <;>
    simp only [BitVec.xor_assoc, BitVec.xor_comm, xor_lc, xor_cancel, BitVec.xor_self, BitVec.xor_zero, BitVec.zero_xor]
theorem col_inj {x y : B8 × B8 × B8 × B8} (h : col x = col y) : x = y := by rw [← col4 x, ← col4 y, h]
def colOf (s : List B8) (q : Nat) : B8 × B8 × B8 × B8 := (gb s (4 * q), gb s (4 * q + 1), gb s (4 * q + 2), gb s (4 * q + 3))
theorem mix_col {s : List B8} {q : Nat} (hq : q < 4) : colOf (mixB s) q = col (colOf s q) := by
  have e : ∀ i, i < 4 → gb (mixB s) (4 * q + i) = mixC s (4 * q + i) := fun i hi => gb_tab _ (by omega)
  have e0 := e 0 (by omega)
  rw [Nat.add_zero] at e0
  simp only [colOf, col, e0, e 1 (by omega), e 2 (by omega), e 3 (by omega), mixC]
  simp only [show 4 * q / 4 = q by omega, show (4 * q + 1) / 4 = q by omega, show (4 * q + 2) / 4 = q by omega, show (4 * q + 3) / 4 = q by omega,
    show (4 * q % 4 + 1) % 4 = 1 by omega, show ((4 * q + 1) % 4 + 1) % 4 = 2 by omega, show ((4 * q + 2) % 4 + 1) % 4 = 3 by omega, show ((4 * q + 3) % 4 + 1) % 4 = 0 by omega, Nat.add_zero]
theorem mix_inj {s t : List B8} (hs : s.length = 16) (ht : t.length = 16) (h : mixB s = mixB t) : s = t := by
  refine gb_ext (by omega) fun j hj => ?_
  have hc : colOf s (j / 4) = colOf t (j / 4) := col_inj (by rw [← mix_col (by omega), ← mix_col (by omega), h])
  simp only [colOf, Prod.mk.injEq] at hc
  obtain ⟨h0, h1, h2, h3⟩ := hc
  have : j = 4 * (j / 4) ∨ j = 4 * (j / 4) + 1 ∨ j = 4 * (j / 4) + 2 ∨ j = 4 * (j / 4) + 3 := by omega
  rcases this with e | e | e | e <;> rw [e] <;> assumption
theorem subs_inj {s t : List B8} (hs : s.length = 16) (ht : t.length = 16) (h : subs s = subs t) : s = t := by
  refine gb_ext (by omega) fun j hj => ?_
  have hi : (j + 12 * (j % 4)) % 16 < 16 := by omega
  have e := congrArg (gb · ((j + 12 * (j % 4)) % 16)) h
  simp only [subs, gb_tab _ hi] at e
  have := sb_inj e
  rwa [show ((j + 12 * (j % 4)) % 16 + 4 * ((j + 12 * (j % 4)) % 16 % 4)) % 16 = j by omega] at this
theorem ovr_inj {s t k : List B8} (hs : s.length = 16) (ht : t.length = 16) (h : ovr s k = ovr t k) : s = t := by
  refine gb_ext (by omega) fun j hj => ?_
  have e := congrArg (gb · j) h
  simp only [ovr, gb_tab _ (show j < 16 by omega)] at e
  have := congrArg (· ^^^ gb k j) e
  simpa [BitVec.xor_assoc] using this
theorem run_inj (ks : List B8) (n : Nat) {s t : List B8} (hs : s.length = 16) (ht : t.length = 16) (r : Nat) (h : runB ks n s r = runB ks n t r) : s = t := by
  induction r with
  | zero => exact ovr_inj hs ht h
  | succ r ih =>
    apply ih
    simp only [runB, roundB] at h
    by_cases c : r + 2 < n
    · rw [if_pos c, if_pos c] at h
      exact subs_inj (runB_len _ _ _ _) (runB_len _ _ _ _) (mix_inj (subs_len _) (subs_len _) (ovr_inj (mixB_len _) (mixB_len _) h))
    · rw [if_neg c, if_neg c] at h
      exact subs_inj (runB_len _ _ _ _) (runB_len _ _ _ _) (ovr_inj (subs_len _) (subs_len _) h)
theorem block_beq (ks : List B8) (n : Nat) {s t : List B8} (hs : s.length = 16) (ht : t.length = 16) : (blockB ks n s == blockB ks n t) = (s == t) := by
  rw [Bool.eq_iff_iff, beq_iff_eq, beq_iff_eq]
  exact ⟨run_inj ks n hs ht (n - 1), fun h => by rw [h]⟩
end Go.Proofs.Ythdkclkiegkabaa
