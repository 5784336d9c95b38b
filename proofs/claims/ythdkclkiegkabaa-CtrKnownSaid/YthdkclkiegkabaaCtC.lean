/- Bytes turned by a stream: what the statements share. -/
import Derived.Test.YthdkclkiegkabaaCtA
namespace Go.Proofs.Ythdkclkiegkabaa
open Go Go.Adm
set_option linter.unusedSimpArgs false
set_option maxRecDepth 100000
set_option maxHeartbeats 1000000
def blkL (a b c : B8) : List B8 := [0#8, 0#8, 0#8, 0#8, 0#8, a, 0#8, 0#8, 0#8, 0#8, 0#8, b, 0#8, 0#8, 0#8, c]
theorem blkL_len (a b c : B8) : (blkL a b c).length = 16 := rfl
def rowB (n : Nat) : List B8 := tab n fun i => BitVec.ofNat 8 (i * 7 + 1)
theorem rowB_len (n : Nat) : (rowB n).length = n := tab_len _ _
theorem ans_row (n : Nat) (hn : n ≤ 1000000) (m : Mem) : Ans Try.prog 18 [.int .i64 n] m fun r m' => ∃ p, r = .sl p 0 n n 0 ∧ Kept [] m m' ∧ m.length ≤ p ∧ own m' p = some (bys (rowB n)) := by
  refine ans_ret mixed ok18 ?_
  have hmk : (0 : Int) ≤ (n : Int) ∧ (n : Int) ≤ (n : Int) ∧ (n : Int) * 1 ≤ 1099511627776 ∧ (n : Int) ≤ 1099511627776 := by omega
  have hmx : (if (n : Int) > 0 then (n : Int) else 0) = (n : Int) := by split <;> omega
  have hr : rep n [AV.int .u8 0] = bys (List.replicate n 0#8) := by rw [← bys_rep]; simp [rep]
  simp -implicitDefEqProofs (disch := (first | omega | (simp only [lenB, lowB_len, putUp_len, ctrIn_len, ksB_len, blkB_len, xorB_len, rowB_len, blkL_len] <;> omega) | fail)) only [admQ, lenB, lowB_len, putUp_len, ctrIn_len, ksB_len, blkB_len, xorB_len, rowB_len, blkL_len, aFill, ↓reduceIte, reduceCtorEq, if_true, if_false, Nat.reduceAdd, Nat.reduceEqDiff, Nat.reduceMod, Nat.reduceLT, Nat.reduceLeDiff, Nat.reduceSub, Nat.reduceMul, Nat.reduceBEq, Int.reduceAdd, Int.reduceSub, Int.reduceMul, Int.reduceNeg, Int.reduceLT, Int.reduceLE, Int.reduceToNat, Int.reduceEq, Int.reduceBEq, c18, r18, hmx, hr]
  let f : Nat → B8 := fun i => BitVec.ofNat 8 (i * 7 + 1)
  refine LoopW.on (fun i : Nat => [(3, .sl m.length 0 n n 0), (4, .int .i64 i)]) (fun i => n - i) (fun i m' => i ≤ n ∧ m' = m ++ [.row (bys (upTo n f (fun _ => 0#8) i)) false]) ?_ 0 _ _ rfl ⟨by omega, by rw [upTo_zero, tab_const]⟩
  rintro i m' X ⟨hi, rfl⟩ hX
  by_cases hlt : i < n
  · have hu : (upTo n f (fun _ => 0#8) i).set i (BitVec.ofNat 8 (i * 7 + 1)) = _ := upTo_set (f := f)
    clear_value f
    simp -implicitDefEqProofs (disch := (first | omega | (simp only [lenB, lowB_len, putUp_len, ctrIn_len, ksB_len, blkB_len, xorB_len, rowB_len, blkL_len] <;> omega) | fail)) only [admQ, lenB, lowB_len, putUp_len, ctrIn_len, ksB_len, blkB_len, xorB_len, rowB_len, blkL_len, aFill, ↓reduceIte, reduceCtorEq, if_true, if_false, Nat.reduceAdd, Nat.reduceEqDiff, Nat.reduceMod, Nat.reduceLT, Nat.reduceLeDiff, Nat.reduceSub, Nat.reduceMul, Nat.reduceBEq, Int.reduceAdd, Int.reduceSub, Int.reduceMul, Int.reduceNeg, Int.reduceLT, Int.reduceLE, Int.reduceToNat, Int.reduceEq, Int.reduceBEq, wrap_u8, splice_byte, hu]
    exact hX (i + 1) _ _ rfl (by omega) ⟨by omega, rfl⟩
  · obtain rfl : i = n := by omega
    have hu : upTo i f (fun _ => 0#8) i = rowB i := upTo_all _ _ _
    simp -implicitDefEqProofs (disch := (first | omega | (simp only [lenB, lowB_len, putUp_len, ctrIn_len, ksB_len, blkB_len, xorB_len, rowB_len, blkL_len] <;> omega) | fail)) only [admQ, lenB, lowB_len, putUp_len, ctrIn_len, ksB_len, blkB_len, xorB_len, rowB_len, blkL_len, aFill, ↓reduceIte, reduceCtorEq, if_true, if_false, Nat.reduceAdd, Nat.reduceEqDiff, Nat.reduceMod, Nat.reduceLT, Nat.reduceLeDiff, Nat.reduceSub, Nat.reduceMul, Nat.reduceBEq, Int.reduceAdd, Int.reduceSub, Int.reduceMul, Int.reduceNeg, Int.reduceLT, Int.reduceLE, Int.reduceToNat, Int.reduceEq, Int.reduceBEq, hu]
    exact ⟨m.length, rfl, .app _ _ _, by omega, by simp -implicitDefEqProofs (disch := (first | omega | (simp only [lenB, lowB_len, putUp_len, ctrIn_len, ksB_len, blkB_len, xorB_len, rowB_len, blkL_len] <;> omega) | fail)) only [admQ, lenB, lowB_len, putUp_len, ctrIn_len, ksB_len, blkB_len, xorB_len, rowB_len, blkL_len, aFill, ↓reduceIte, reduceCtorEq, if_true, if_false, Nat.reduceAdd, Nat.reduceEqDiff, Nat.reduceMod, Nat.reduceLT, Nat.reduceLeDiff, Nat.reduceSub, Nat.reduceMul, Nat.reduceBEq, Int.reduceAdd, Int.reduceSub, Int.reduceMul, Int.reduceNeg, Int.reduceLT, Int.reduceLE, Int.reduceToNat, Int.reduceEq, Int.reduceBEq]⟩
def pk (k : Int) (n : Nat) : Nat := (k % (n : Int)).toNat
theorem pk_lt (k : Int) {n : Nat} (h : 0 < n) : pk k n < n := by
  have := Int.emod_lt_of_pos k (show (0 : Int) < n by omega)
  have := Int.emod_nonneg k (show (n : Int) ≠ 0 by omega)
  unfold pk; omega
theorem ans_pick (k : Int) (n : Nat) (hn : 0 < n) (hn2 : n < 1000000000) (m : Mem) : Ans Try.prog 17 [.int .i64 k, .int .i64 n] m fun r m' => r = .int .i64 (pk k n) ∧ m' = m := by
  refine ans_ret mixed ok17 ?_
  have h1 := Int.emod_lt_of_pos k (show (0 : Int) < n by omega)
  have h2 := Int.emod_nonneg k (show (n : Int) ≠ 0 by omega)
  have h3 : k.tmod n = if 0 ≤ k ∨ k % n = 0 then k % n else k % n - n := by
    rw [Int.tmod_eq_emod]
    have hd : (n : Int) ∣ k ↔ k % n = 0 := Int.dvd_iff_emod_eq_zero
    simp only [hd]
    split
    · simp_all
    · simp
  have hz : ¬ (n : Int) = 0 := by omega
  have hpk : ((pk k n : Nat) : Int) = k % n := by unfold pk; omega
  rw [hpk]
  generalize k % (n : Int) = r at *
  by_cases hc : 0 ≤ k ∨ r = 0
  · rw [if_pos hc] at h3
    simp -implicitDefEqProofs (disch := (first | omega | (simp only [lenB, lowB_len, putUp_len, ctrIn_len, ksB_len, blkB_len, xorB_len, rowB_len, blkL_len] <;> omega) | fail)) only [admQ, lenB, lowB_len, putUp_len, ctrIn_len, ksB_len, blkB_len, xorB_len, rowB_len, blkL_len, aFill, ↓reduceIte, reduceCtorEq, if_true, if_false, Nat.reduceAdd, Nat.reduceEqDiff, Nat.reduceMod, Nat.reduceLT, Nat.reduceLeDiff, Nat.reduceSub, Nat.reduceMul, Nat.reduceBEq, Int.reduceAdd, Int.reduceSub, Int.reduceMul, Int.reduceNeg, Int.reduceLT, Int.reduceLE, Int.reduceToNat, Int.reduceEq, Int.reduceBEq, c17, r17, h3, hz]
  · rw [if_neg hc] at h3
    simp -implicitDefEqProofs (disch := (first | omega | (simp only [lenB, lowB_len, putUp_len, ctrIn_len, ksB_len, blkB_len, xorB_len, rowB_len, blkL_len] <;> omega) | fail)) only [admQ, lenB, lowB_len, putUp_len, ctrIn_len, ksB_len, blkB_len, xorB_len, rowB_len, blkL_len, aFill, ↓reduceIte, reduceCtorEq, if_true, if_false, Nat.reduceAdd, Nat.reduceEqDiff, Nat.reduceMod, Nat.reduceLT, Nat.reduceLeDiff, Nat.reduceSub, Nat.reduceMul, Nat.reduceBEq, Int.reduceAdd, Int.reduceSub, Int.reduceMul, Int.reduceNeg, Int.reduceLT, Int.reduceLE, Int.reduceToNat, Int.reduceEq, Int.reduceBEq, c17, r17, h3, hz]
    rw [Int.sub_add_cancel]
theorem ans_ctrsome (m : Mem) : Ans Try.prog 23 [] m fun r m' => ∃ c kb, r = .ptr c 0 ∧ Kept [] m m' ∧ m.length ≤ c ∧ m.length ≤ kb ∧ Ciph m' c kb 11 (expand (rowB 16)) := by
  refine ans_ret mixed ok23 ?_
  simp -implicitDefEqProofs (disch := (first | omega | (simp only [lenB, lowB_len, putUp_len, ctrIn_len, ksB_len, blkB_len, xorB_len, rowB_len, blkL_len] <;> omega) | fail)) only [admQ, lenB, lowB_len, putUp_len, ctrIn_len, ksB_len, blkB_len, xorB_len, rowB_len, blkL_len, aFill, ↓reduceIte, reduceCtorEq, if_true, if_false, Nat.reduceAdd, Nat.reduceEqDiff, Nat.reduceMod, Nat.reduceLT, Nat.reduceLeDiff, Nat.reduceSub, Nat.reduceMul, Nat.reduceBEq, Int.reduceAdd, Int.reduceSub, Int.reduceMul, Int.reduceNeg, Int.reduceLT, Int.reduceLE, Int.reduceToNat, Int.reduceEq, Int.reduceBEq, c23, r23]
  refine (ans_row 16 (by omega) _).mono ?_
  rintro _ m1 ⟨p, rfl, hk1, hp, ho⟩
  simp -implicitDefEqProofs (disch := (first | omega | (simp only [lenB, lowB_len, putUp_len, ctrIn_len, ksB_len, blkB_len, xorB_len, rowB_len, blkL_len] <;> omega) | fail)) only [admQ, lenB, lowB_len, putUp_len, ctrIn_len, ksB_len, blkB_len, xorB_len, rowB_len, blkL_len, aFill, ↓reduceIte, reduceCtorEq, if_true, if_false, Nat.reduceAdd, Nat.reduceEqDiff, Nat.reduceMod, Nat.reduceLT, Nat.reduceLeDiff, Nat.reduceSub, Nat.reduceMul, Nat.reduceBEq, Int.reduceAdd, Int.reduceSub, Int.reduceMul, Int.reduceNeg, Int.reduceLT, Int.reduceLE, Int.reduceToNat, Int.reduceEq, Int.reduceBEq]
  refine (ans_new (RdB.row (l := rowB 16) 16 0 (rowOf_own ho) (by simp [rowB_len])) (.inl (rowB_len _))).mono ?_
  rintro _ m2 ⟨c, kb, rfl, hk2, hc, hkb, hci⟩
  simp -implicitDefEqProofs (disch := (first | omega | (simp only [lenB, lowB_len, putUp_len, ctrIn_len, ksB_len, blkB_len, xorB_len, rowB_len, blkL_len] <;> omega) | fail)) only [admQ, lenB, lowB_len, putUp_len, ctrIn_len, ksB_len, blkB_len, xorB_len, rowB_len, blkL_len, aFill, ↓reduceIte, reduceCtorEq, if_true, if_false, Nat.reduceAdd, Nat.reduceEqDiff, Nat.reduceMod, Nat.reduceLT, Nat.reduceLeDiff, Nat.reduceSub, Nat.reduceMul, Nat.reduceBEq, Int.reduceAdd, Int.reduceSub, Int.reduceMul, Int.reduceNeg, Int.reduceLT, Int.reduceLE, Int.reduceToNat, Int.reduceEq, Int.reduceBEq]
  exact ⟨c, kb, rfl, hk1.trans hk2, by have := hk1.len; omega, by have := hk1.len; omega, by rw [rowB_len] at hci; exact hci⟩
theorem ans_ctrblk (a b c : B8) (m : Mem) : Ans Try.prog 25 [b8 a, b8 b, b8 c] m fun r m' => r = .agg (bys (blkL a b c)) ∧ Kept [] m m' := by
  refine ans_ret mixed ok25 ?_
  simp -implicitDefEqProofs (disch := (first | omega | (simp only [lenB, lowB_len, putUp_len, ctrIn_len, ksB_len, blkB_len, xorB_len, rowB_len, blkL_len] <;> omega) | fail)) only [admQ, lenB, lowB_len, putUp_len, ctrIn_len, ksB_len, blkB_len, xorB_len, rowB_len, blkL_len, ↓reduceIte, reduceCtorEq, if_true, if_false, Nat.reduceAdd, Nat.reduceEqDiff, Nat.reduceMod, Nat.reduceLT, Nat.reduceLeDiff, Nat.reduceSub, Nat.reduceMul, Nat.reduceBEq, Int.reduceAdd, Int.reduceSub, Int.reduceMul, Int.reduceNeg, Int.reduceLT, Int.reduceLE, Int.reduceToNat, Int.reduceEq, Int.reduceBEq, c25, r25]
  rw [aFill_all]
  rotate_left
  · simp
  · rfl
  · rfl
  have hb : [.int .u8 0, .int .u8 0, .int .u8 0, .int .u8 0, .int .u8 0, b8 a, .int .u8 0, .int .u8 0, .int .u8 0, .int .u8 0, .int .u8 0, b8 b, .int .u8 0, .int .u8 0, .int .u8 0, b8 c] = bys (blkL a b c) := rfl
  rw [hb]
  have hl := blkL_len a b c
  generalize blkL a b c = z at *
  simp -implicitDefEqProofs (disch := (first | omega | (simp only [lenB, lowB_len, putUp_len, ctrIn_len, ksB_len, blkB_len, xorB_len, rowB_len, blkL_len] <;> omega) | fail)) only [admQ, lenB, lowB_len, putUp_len, ctrIn_len, ksB_len, blkB_len, xorB_len, rowB_len, blkL_len, aFill, ↓reduceIte, reduceCtorEq, if_true, if_false, Nat.reduceAdd, Nat.reduceEqDiff, Nat.reduceMod, Nat.reduceLT, Nat.reduceLeDiff, Nat.reduceSub, Nat.reduceMul, Nat.reduceBEq, Int.reduceAdd, Int.reduceSub, Int.reduceMul, Int.reduceNeg, Int.reduceLT, Int.reduceLE, Int.reduceToNat, Int.reduceEq, Int.reduceBEq]
  exact .app _ _ _

theorem works_pure : xorB (expand (rowB 16)) 11 1 2 (List.replicate 20 0#8) = blockB (expand (rowB 16)) 11 (blkL 1#8 2#8 0#8) ++ (blockB (expand (rowB 16)) 11 (blkL 1#8 2#8 1#8)).take 4 := by
  have e0 : blkL 1#8 2#8 0#8 = ctrIn 1 2 0 := by decide +kernel
  have e1 : blkL 1#8 2#8 1#8 = ctrIn 1 2 1 := by decide +kernel
  rw [e0, e1]
  have h0 := blkB_len (expand (rowB 16)) 11 (ctrIn 1 2 0)
  have h1 := blkB_len (expand (rowB 16)) 11 (ctrIn 1 2 1)
  have k0 : ∀ i, i < 16 → ksAt (expand (rowB 16)) 11 1 2 i = gb (blockB (expand (rowB 16)) 11 (ctrIn 1 2 0)) i := fun i hi => by
    rw [ksAt, show i / 16 = 0 by omega, show i % 16 = i by omega]; rfl
  have k1 : ∀ i, 16 ≤ i → i < 32 → ksAt (expand (rowB 16)) 11 1 2 i = gb (blockB (expand (rowB 16)) 11 (ctrIn 1 2 1)) (i - 16) := fun i hi hi2 => by
    rw [ksAt, show i / 16 = 1 by omega, show i % 16 = i - 16 by omega]; rfl
  generalize blockB (expand (rowB 16)) 11 (ctrIn 1 2 0) = A at *
  generalize blockB (expand (rowB 16)) 11 (ctrIn 1 2 1) = B at *
  apply gb_ext
  · simp [xorB_len, h0, h1]
  · intro i hi
    rw [xorB_len, List.length_replicate] at hi
    rw [xorB, gb_tab _ (by simpa using hi), show gb (List.replicate 20 0#8) i = 0#8 by rw [← tab_const, gb_tab _ (by simpa using hi)], BitVec.zero_xor]
    by_cases h : i < 16
    · rw [gb_app_l (by omega), k0 i h]
    · rw [gb_app_r (by omega), k1 i (by omega) (by omega), h0]
      simp only [gb, List.getD_eq_getElem?_getD, List.getElem?_take_of_lt (show i - 16 < 4 by omega)]
theorem ans_ctrworks (m : Mem) : Ans Try.prog 10 [] m fun r m' => r = .bool true ∧ Kept [] m m' := by
  refine ans_ret mixed ok10 ?_
  simp -implicitDefEqProofs (disch := (first | omega | (simp only [lenB, lowB_len, putUp_len, ctrIn_len, ksB_len, blkB_len, xorB_len, rowB_len, blkL_len] <;> omega) | fail)) only [admQ, lenB, lowB_len, putUp_len, ctrIn_len, ksB_len, blkB_len, xorB_len, rowB_len, blkL_len, aFill, ↓reduceIte, reduceCtorEq, if_true, if_false, Nat.reduceAdd, Nat.reduceEqDiff, Nat.reduceMod, Nat.reduceLT, Nat.reduceLeDiff, Nat.reduceSub, Nat.reduceMul, Nat.reduceBEq, Int.reduceAdd, Int.reduceSub, Int.reduceMul, Int.reduceNeg, Int.reduceLT, Int.reduceLE, Int.reduceToNat, Int.reduceEq, Int.reduceBEq, c10, r10]
  refine (ans_ctrsome _).mono ?_
  rintro _ m1 ⟨c, kb, rfl, hk1, hc, hkb, hci⟩
  have hr : rep 20 [AV.int .u8 0] = bys (List.replicate 20 0#8) := by rw [← bys_rep]; rfl
  simp -implicitDefEqProofs (disch := (first | omega | (simp only [lenB, lowB_len, putUp_len, ctrIn_len, ksB_len, blkB_len, xorB_len, rowB_len, blkL_len] <;> omega) | fail)) only [admQ, lenB, lowB_len, putUp_len, ctrIn_len, ksB_len, blkB_len, xorB_len, rowB_len, blkL_len, aFill, ↓reduceIte, reduceCtorEq, if_true, if_false, Nat.reduceAdd, Nat.reduceEqDiff, Nat.reduceMod, Nat.reduceLT, Nat.reduceLeDiff, Nat.reduceSub, Nat.reduceMul, Nat.reduceBEq, Int.reduceAdd, Int.reduceSub, Int.reduceMul, Int.reduceNeg, Int.reduceLT, Int.reduceLE, Int.reduceToNat, Int.reduceEq, Int.reduceBEq, hr]
  have hz : RdB (m1 ++ [.row (bys (List.replicate 20 0#8)) false]) (.sl m1.length 0 20 20 0) (List.replicate 20 0#8) := RdB.row (l := List.replicate 20 0#8) 20 0 (by simp -implicitDefEqProofs (disch := (first | omega | (simp only [lenB, lowB_len, putUp_len, ctrIn_len, ksB_len, blkB_len, xorB_len, rowB_len, blkL_len] <;> omega) | fail)) only [admQ, lenB, lowB_len, putUp_len, ctrIn_len, ksB_len, blkB_len, xorB_len, rowB_len, blkL_len, aFill, ↓reduceIte, reduceCtorEq, if_true, if_false, Nat.reduceAdd, Nat.reduceEqDiff, Nat.reduceMod, Nat.reduceLT, Nat.reduceLeDiff, Nat.reduceSub, Nat.reduceMul, Nat.reduceBEq, Int.reduceAdd, Int.reduceSub, Int.reduceMul, Int.reduceNeg, Int.reduceLT, Int.reduceLE, Int.reduceToNat, Int.reduceEq, Int.reduceBEq]) (by simp)
  refine (ans_ctrxor (hci.app _) 1 2 hz (by simp)).mono ?_
  rintro _ m2 ⟨p, rfl, hk2, hp, ho⟩
  have e1 : e64 1 = 1 := rfl
  have e2 : e64 2 = 2 := rfl
  rw [e1, e2, works_pure] at ho
  have hc2 := (hci.app [.row (bys (List.replicate 20 0#8)) false]).kept hk2 (by simp) (by simp)
  have hk := (hk1.more_app [.row (bys (List.replicate 20 0#8)) false]).trans hk2
  clear hz hci hk1 hk2
  generalize expand (rowB 16) = E at *
  simp -implicitDefEqProofs (disch := (first | omega | (simp only [lenB, lowB_len, putUp_len, ctrIn_len, ksB_len, blkB_len, xorB_len, rowB_len, blkL_len] <;> omega) | fail)) only [admQ, lenB, lowB_len, putUp_len, ctrIn_len, ksB_len, blkB_len, xorB_len, rowB_len, blkL_len, aFill, ↓reduceIte, reduceCtorEq, if_true, if_false, Nat.reduceAdd, Nat.reduceEqDiff, Nat.reduceMod, Nat.reduceLT, Nat.reduceLeDiff, Nat.reduceSub, Nat.reduceMul, Nat.reduceBEq, Int.reduceAdd, Int.reduceSub, Int.reduceMul, Int.reduceNeg, Int.reduceLT, Int.reduceLE, Int.reduceToNat, Int.reduceEq, Int.reduceBEq]
  refine (ans_ctrblk 1#8 2#8 0#8 _).mono ?_
  rintro _ m3 ⟨rfl, hk3⟩
  simp -implicitDefEqProofs (disch := (first | omega | (simp only [lenB, lowB_len, putUp_len, ctrIn_len, ksB_len, blkB_len, xorB_len, rowB_len, blkL_len] <;> omega) | fail)) only [admQ, lenB, lowB_len, putUp_len, ctrIn_len, ksB_len, blkB_len, xorB_len, rowB_len, blkL_len, aFill, ↓reduceIte, reduceCtorEq, if_true, if_false, Nat.reduceAdd, Nat.reduceEqDiff, Nat.reduceMod, Nat.reduceLT, Nat.reduceLeDiff, Nat.reduceSub, Nat.reduceMul, Nat.reduceBEq, Int.reduceAdd, Int.reduceSub, Int.reduceMul, Int.reduceNeg, Int.reduceLT, Int.reduceLE, Int.reduceToNat, Int.reduceEq, Int.reduceBEq]
  refine (ans_block (hc2.kept hk3 (by simp) (by simp)) _ (blkL_len _ _ _)).mono ?_
  rintro _ m4 ⟨rfl, hk4⟩
  rw [show blkL 1#8 2#8 0#8 = blkL 1#8 2#8 0#8 from rfl]
  have hA := blkB_len E 11 (blkL 1#8 2#8 0#8)
  generalize blockB E 11 (blkL 1#8 2#8 0#8) = A at *
  simp -implicitDefEqProofs (disch := (first | omega | (simp only [lenB, lowB_len, putUp_len, ctrIn_len, ksB_len, blkB_len, xorB_len, rowB_len, blkL_len] <;> omega) | fail)) only [admQ, lenB, lowB_len, putUp_len, ctrIn_len, ksB_len, blkB_len, xorB_len, rowB_len, blkL_len, aFill, ↓reduceIte, reduceCtorEq, if_true, if_false, Nat.reduceAdd, Nat.reduceEqDiff, Nat.reduceMod, Nat.reduceLT, Nat.reduceLeDiff, Nat.reduceSub, Nat.reduceMul, Nat.reduceBEq, Int.reduceAdd, Int.reduceSub, Int.reduceMul, Int.reduceNeg, Int.reduceLT, Int.reduceLE, Int.reduceToNat, Int.reduceEq, Int.reduceBEq]
  have hA4 : own (m4 ++ [.row (bys A) false]) m4.length = some (bys A) := by simp -implicitDefEqProofs (disch := (first | omega | (simp only [lenB, lowB_len, putUp_len, ctrIn_len, ksB_len, blkB_len, xorB_len, rowB_len, blkL_len] <;> omega) | fail)) only [admQ, lenB, lowB_len, putUp_len, ctrIn_len, ksB_len, blkB_len, xorB_len, rowB_len, blkL_len, aFill, ↓reduceIte, reduceCtorEq, if_true, if_false, Nat.reduceAdd, Nat.reduceEqDiff, Nat.reduceMod, Nat.reduceLT, Nat.reduceLeDiff, Nat.reduceSub, Nat.reduceMul, Nat.reduceBEq, Int.reduceAdd, Int.reduceSub, Int.reduceMul, Int.reduceNeg, Int.reduceLT, Int.reduceLE, Int.reduceToNat, Int.reduceEq, Int.reduceBEq]
  have ho4 := own_app ((hk3.trans hk4).own0 ho) [.row (bys A) false]
  have hkk := ((hk.trans hk3).trans hk4).more_app [.row (bys A) false]
  have hc4 := ((hc2.kept hk3 (by simp) (by simp)).kept hk4 (by simp) (by simp)).app [.row (bys A) false]
  generalize m4 ++ [Blk.row (bys A) false] = M at *
  refine (ans_ctrblk 1#8 2#8 1#8 _).mono ?_
  rintro _ m5 ⟨rfl, hk5⟩
  simp -implicitDefEqProofs (disch := (first | omega | (simp only [lenB, lowB_len, putUp_len, ctrIn_len, ksB_len, blkB_len, xorB_len, rowB_len, blkL_len] <;> omega) | fail)) only [admQ, lenB, lowB_len, putUp_len, ctrIn_len, ksB_len, blkB_len, xorB_len, rowB_len, blkL_len, aFill, ↓reduceIte, reduceCtorEq, if_true, if_false, Nat.reduceAdd, Nat.reduceEqDiff, Nat.reduceMod, Nat.reduceLT, Nat.reduceLeDiff, Nat.reduceSub, Nat.reduceMul, Nat.reduceBEq, Int.reduceAdd, Int.reduceSub, Int.reduceMul, Int.reduceNeg, Int.reduceLT, Int.reduceLE, Int.reduceToNat, Int.reduceEq, Int.reduceBEq]
  refine (ans_block (hc4.kept hk5 (by simp) (by simp)) _ (blkL_len _ _ _)).mono ?_
  rintro _ m6 ⟨rfl, hk6⟩
  have hB := blkB_len E 11 (blkL 1#8 2#8 1#8)
  generalize blockB E 11 (blkL 1#8 2#8 1#8) = B at *
  have hA6 := (hk5.trans hk6).own0 hA4
  have ho6 := (hk5.trans hk6).own0 ho4
  have rA : RdB (m6 ++ [.row (bys B) false]) (.sl m4.length 0 16 16 0) A := by
    have := RdB.row (m := m6 ++ [.row (bys B) false]) (l := A) 16 0 (rowOf_app (rowOf_own hA6) _) (by omega)
    rwa [hA] at this
  have rB : RdB (m6 ++ [.row (bys B) false]) (.sl m6.length 0 4 16 0) (B.take 4) := by
    have := (RdB.row (m := m6 ++ [.row (bys B) false]) (b := m6.length) (l := B) 16 0 (by simp -implicitDefEqProofs (disch := (first | omega | (simp only [lenB, lowB_len, putUp_len, ctrIn_len, ksB_len, blkB_len, xorB_len, rowB_len, blkL_len] <;> omega) | fail)) only [admQ, lenB, lowB_len, putUp_len, ctrIn_len, ksB_len, blkB_len, xorB_len, rowB_len, blkL_len, aFill, ↓reduceIte, reduceCtorEq, if_true, if_false, Nat.reduceAdd, Nat.reduceEqDiff, Nat.reduceMod, Nat.reduceLT, Nat.reduceLeDiff, Nat.reduceSub, Nat.reduceMul, Nat.reduceBEq, Int.reduceAdd, Int.reduceSub, Int.reduceMul, Int.reduceNeg, Int.reduceLT, Int.reduceLE, Int.reduceToNat, Int.reduceEq, Int.reduceBEq]) (by omega))
    rw [hB] at this
    exact this.take (by omega)
  have ha := app_full0 rA rB (by simp; omega) (by simp; omega)
  have hB4 : (B.take 4).length = 4 := by simp; omega
  rw [hB4] at ha
  simp -implicitDefEqProofs (disch := (first | omega | (simp only [lenB, lowB_len, putUp_len, ctrIn_len, ksB_len, blkB_len, xorB_len, rowB_len, blkL_len] <;> omega) | fail)) only [admQ, lenB, lowB_len, putUp_len, ctrIn_len, ksB_len, blkB_len, xorB_len, rowB_len, blkL_len, aFill, ↓reduceIte, reduceCtorEq, if_true, if_false, Nat.reduceAdd, Nat.reduceEqDiff, Nat.reduceMod, Nat.reduceLT, Nat.reduceLeDiff, Nat.reduceSub, Nat.reduceMul, Nat.reduceBEq, Int.reduceAdd, Int.reduceSub, Int.reduceMul, Int.reduceNeg, Int.reduceLT, Int.reduceLE, Int.reduceToNat, Int.reduceEq, Int.reduceBEq, ha]
  have r1 : RdB (m6 ++ [.row (bys B) false, .row (bys (A ++ B.take 4)) false]) (.sl p 0 20 20 0) (A ++ B.take 4) := by
    have := RdB.row (m := m6 ++ [.row (bys B) false, .row (bys (A ++ B.take 4)) false]) (l := A ++ B.take 4) 20 0 (rowOf_app (rowOf_own ho6) _) (by simp; omega)
    rwa [show (A ++ B.take 4).length = 20 by simp; omega] at this
  have r2 : RdB (m6 ++ [.row (bys B) false, .row (bys (A ++ B.take 4)) false]) (.sl (m6.length + 1) 0 20 20 1) (A ++ B.take 4) := by
    have := RdB.row (m := m6 ++ [.row (bys B) false, .row (bys (A ++ B.take 4)) false]) (b := m6.length + 1) (l := A ++ B.take 4) 20 1 (by simp -implicitDefEqProofs (disch := (first | omega | (simp only [lenB, lowB_len, putUp_len, ctrIn_len, ksB_len, blkB_len, xorB_len, rowB_len, blkL_len] <;> omega) | fail)) only [admQ, lenB, lowB_len, putUp_len, ctrIn_len, ksB_len, blkB_len, xorB_len, rowB_len, blkL_len, aFill, ↓reduceIte, reduceCtorEq, if_true, if_false, Nat.reduceAdd, Nat.reduceEqDiff, Nat.reduceMod, Nat.reduceLT, Nat.reduceLeDiff, Nat.reduceSub, Nat.reduceMul, Nat.reduceBEq, Int.reduceAdd, Int.reduceSub, Int.reduceMul, Int.reduceNeg, Int.reduceLT, Int.reduceLE, Int.reduceToNat, Int.reduceEq, Int.reduceBEq]) (by simp; omega)
    rwa [show (A ++ B.take 4).length = 20 by simp; omega] at this
  refine (ans_samebytes r1 r2 (by simp; omega)).mono ?_
  rintro _ m7 ⟨rfl, rfl⟩
  rw [beq_self_eq_true]
  simp -implicitDefEqProofs (disch := (first | omega | (simp only [lenB, lowB_len, putUp_len, ctrIn_len, ksB_len, blkB_len, xorB_len, rowB_len, blkL_len] <;> omega) | fail)) only [admQ, lenB, lowB_len, putUp_len, ctrIn_len, ksB_len, blkB_len, xorB_len, rowB_len, blkL_len, aFill, ↓reduceIte, reduceCtorEq, if_true, if_false, Nat.reduceAdd, Nat.reduceEqDiff, Nat.reduceMod, Nat.reduceLT, Nat.reduceLeDiff, Nat.reduceSub, Nat.reduceMul, Nat.reduceBEq, Int.reduceAdd, Int.reduceSub, Int.reduceMul, Int.reduceNeg, Int.reduceLT, Int.reduceLE, Int.reduceToNat, Int.reduceEq, Int.reduceBEq]
  exact ((hkk.trans hk5).trans hk6).more_app _
end Go.Proofs.Ythdkclkiegkabaa
