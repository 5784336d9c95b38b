/- Bytes turned by a stream: the document's answer. -/
import Derived.Test.YthdkclkiegkabaaCtA
import Derived.Test.YthdkclkiegkabaaAeN
namespace Go.Proofs.Ythdkclkiegkabaa
open Go Go.Adm
set_option linter.unusedSimpArgs false
set_option maxRecDepth 100000
set_option maxHeartbeats 1000000
theorem ans_rlow (v : Int) (n : Nat) (hn : n ≤ 8) (m : Mem) : Ans Try.prog 33 [.int .i64 v, .int .i64 n] m fun r m' => Kept [] m m' ∧ GrB m.length m' r (lowB (e64 v) n) := by
  refine ans_ret mixed ok33 ?_
  have he := e64_lt v
  by_cases hn0 : n = 0
  · subst hn0
    simp -implicitDefEqProofs (disch := (first | omega | (simp only [lenB, lowB_len, putUp_len, ctrIn_len, ksB_len, blkB_len, xorB_len] <;> omega) | fail)) only [admQ, lenB, lowB_len, putUp_len, ctrIn_len, ksB_len, blkB_len, xorB_len, aFill, ↓reduceIte, reduceCtorEq, if_true, if_false, Nat.reduceAdd, Nat.reduceEqDiff, Nat.reduceMod, Nat.reduceLT, Nat.reduceLeDiff, Nat.reduceSub, Nat.reduceMul, Nat.reduceBEq, Int.reduceAdd, Int.reduceSub, Int.reduceMul, Int.reduceNeg, Int.reduceLT, Int.reduceLE, Int.reduceToNat, Int.reduceEq, Int.reduceBEq, c33, r33]
    refine LoopW.on (fun _ : Unit => [(0, .int .i64 v), (5, .nils), (6, .int .i64 (-1))]) (fun _ => 0) (fun _ m' => m' = m) ?_ () _ _ rfl rfl
    rintro _ _ X rfl _
    simp -implicitDefEqProofs (disch := (first | omega | (simp only [lenB, lowB_len, putUp_len, ctrIn_len, ksB_len, blkB_len, xorB_len] <;> omega) | fail)) only [admQ, lenB, lowB_len, putUp_len, ctrIn_len, ksB_len, blkB_len, xorB_len, aFill, ↓reduceIte, reduceCtorEq, if_true, if_false, Nat.reduceAdd, Nat.reduceEqDiff, Nat.reduceMod, Nat.reduceLT, Nat.reduceLeDiff, Nat.reduceSub, Nat.reduceMul, Nat.reduceBEq, Int.reduceAdd, Int.reduceSub, Int.reduceMul, Int.reduceNeg, Int.reduceLT, Int.reduceLE, Int.reduceToNat, Int.reduceEq, Int.reduceBEq]
    exact ⟨.refl _ _, GrA.nils _ _ _⟩
  · simp -implicitDefEqProofs (disch := (first | omega | (simp only [lenB, lowB_len, putUp_len, ctrIn_len, ksB_len, blkB_len, xorB_len] <;> omega) | fail)) only [admQ, lenB, lowB_len, putUp_len, ctrIn_len, ksB_len, blkB_len, xorB_len, aFill, ↓reduceIte, reduceCtorEq, if_true, if_false, Nat.reduceAdd, Nat.reduceEqDiff, Nat.reduceMod, Nat.reduceLT, Nat.reduceLeDiff, Nat.reduceSub, Nat.reduceMul, Nat.reduceBEq, Int.reduceAdd, Int.reduceSub, Int.reduceMul, Int.reduceNeg, Int.reduceLT, Int.reduceLE, Int.reduceToNat, Int.reduceEq, Int.reduceBEq, c33, r33]
    rw [show ((n - 1 : Nat) : Int) = ((n - 0 : Nat) : Int) - 1 by omega]
    refine LoopW.on (fun s : Nat × AV => [(0, .int .i64 v), (5, s.2), (6, .int .i64 (((n - s.1 : Nat) : Int) - 1))]) (fun s => n - s.1) (fun s m' => s.1 ≤ n ∧ Kept [] m m' ∧ GrB m.length m' s.2 ((lowB (e64 v) n).take s.1)) ?_ (0, .nils) _ _ rfl ⟨by omega, .refl _ _, GrA.nils _ _ _⟩
    rintro ⟨j, x⟩ m' X ⟨hj, hk, hg⟩ hX
    dsimp only at hj hg hX ⊢
    by_cases hlt : j < n
    · have hw : IntKind.u8.wrap ((e64 v >>> (8 * (n - j - 1)) : Nat) : Int) = ((gb (lowB (e64 v) n) j).toNat : Int) := by
        rw [wrap_u8, lowB, gb_tab _ hlt, byV, show n - j - 1 = n - 1 - j by omega]
      obtain ⟨x', m2, ha, hg2, hk2, hf2⟩ := hg.push (gb (lowB (e64 v) n) j) (by simp [lowB_len]; omega) hk.len
      have hwv := e64_wrap v
      generalize hE : gb (lowB (e64 v) n) j = w at *
      simp -implicitDefEqProofs (disch := (first | omega | (simp only [lenB, lowB_len, putUp_len, ctrIn_len, ksB_len, blkB_len, xorB_len] <;> omega) | fail)) only [admQ, lenB, lowB_len, putUp_len, ctrIn_len, ksB_len, blkB_len, xorB_len, aFill, ↓reduceIte, reduceCtorEq, if_true, if_false, Nat.reduceAdd, Nat.reduceEqDiff, Nat.reduceMod, Nat.reduceLT, Nat.reduceLeDiff, Nat.reduceSub, Nat.reduceMul, Nat.reduceBEq, Int.reduceAdd, Int.reduceSub, Int.reduceMul, Int.reduceNeg, Int.reduceLT, Int.reduceLE, Int.reduceToNat, Int.reduceEq, Int.reduceBEq, hwv, fdiv_nat, hw, ha, wrap_u64]
      rw [show n - j - 1 = n - (j + 1) by omega]
      exact hX (j + 1, x') _ _ rfl (by simp; omega) ⟨by simp; omega, hf2 _ _ hk (Nat.le_refl _), by rw [take_gb (by rw [lowB_len]; omega), hE]; exact hg2⟩
    · obtain rfl : j = n := by omega
      simp -implicitDefEqProofs (disch := (first | omega | (simp only [lenB, lowB_len, putUp_len, ctrIn_len, ksB_len, blkB_len, xorB_len] <;> omega) | fail)) only [admQ, lenB, lowB_len, putUp_len, ctrIn_len, ksB_len, blkB_len, xorB_len, aFill, ↓reduceIte, reduceCtorEq, if_true, if_false, Nat.reduceAdd, Nat.reduceEqDiff, Nat.reduceMod, Nat.reduceLT, Nat.reduceLeDiff, Nat.reduceSub, Nat.reduceMul, Nat.reduceBEq, Int.reduceAdd, Int.reduceSub, Int.reduceMul, Int.reduceNeg, Int.reduceLT, Int.reduceLE, Int.reduceToNat, Int.reduceEq, Int.reduceBEq]
      exact ⟨hk, by rwa [List.take_of_length_le (by rw [lowB_len]; omega)] at hg⟩

theorem ans_rctrblock {m : Mem} {c N : Nat} {E : List B8} (hc : RCiph m c N E) (e n : Int) (i : Nat) (hi : i < 100000) : Ans Try.prog 27 [.ptr c 0, .int .i64 e, .int .i64 n, .int .i64 i] m fun r m' => r = .agg (bys (ksB E N (e64 e) (e64 n) i)) ∧ Kept [] m m' := by
  refine ans_ret mixed ok27 ?_
  simp -implicitDefEqProofs (disch := (first | omega | (simp only [lenB, lowB_len, putUp_len, ctrIn_len, ksB_len, blkB_len, xorB_len] <;> omega) | fail)) only [admQ, lenB, lowB_len, putUp_len, ctrIn_len, ksB_len, blkB_len, xorB_len, aFill, ↓reduceIte, reduceCtorEq, if_true, if_false, Nat.reduceAdd, Nat.reduceEqDiff, Nat.reduceMod, Nat.reduceLT, Nat.reduceLeDiff, Nat.reduceSub, Nat.reduceMul, Nat.reduceBEq, Int.reduceAdd, Int.reduceSub, Int.reduceMul, Int.reduceNeg, Int.reduceLT, Int.reduceLE, Int.reduceToNat, Int.reduceEq, Int.reduceBEq, c27, r27]
  have o8 : own (m ++ [.row (bys (List.replicate 16 0#8)) false, .row (bys (List.replicate 16 0#8)) false]) m.length = some (bys (List.replicate 16 0#8)) := by simp -implicitDefEqProofs (disch := (first | omega | (simp only [lenB, lowB_len, putUp_len, ctrIn_len, ksB_len, blkB_len, xorB_len] <;> omega) | fail)) only [admQ, lenB, lowB_len, putUp_len, ctrIn_len, ksB_len, blkB_len, xorB_len, aFill, ↓reduceIte, reduceCtorEq, if_true, if_false, Nat.reduceAdd, Nat.reduceEqDiff, Nat.reduceMod, Nat.reduceLT, Nat.reduceLeDiff, Nat.reduceSub, Nat.reduceMul, Nat.reduceBEq, Int.reduceAdd, Int.reduceSub, Int.reduceMul, Int.reduceNeg, Int.reduceLT, Int.reduceLE, Int.reduceToNat, Int.reduceEq, Int.reduceBEq]
  have o9 : own (m ++ [.row (bys (List.replicate 16 0#8)) false, .row (bys (List.replicate 16 0#8)) false]) (m.length + 1) = some (bys (List.replicate 16 0#8)) := by simp -implicitDefEqProofs (disch := (first | omega | (simp only [lenB, lowB_len, putUp_len, ctrIn_len, ksB_len, blkB_len, xorB_len] <;> omega) | fail)) only [admQ, lenB, lowB_len, putUp_len, ctrIn_len, ksB_len, blkB_len, xorB_len, aFill, ↓reduceIte, reduceCtorEq, if_true, if_false, Nat.reduceAdd, Nat.reduceEqDiff, Nat.reduceMod, Nat.reduceLT, Nat.reduceLeDiff, Nat.reduceSub, Nat.reduceMul, Nat.reduceBEq, Int.reduceAdd, Int.reduceSub, Int.reduceMul, Int.reduceNeg, Int.reduceLT, Int.reduceLE, Int.reduceToNat, Int.reduceEq, Int.reduceBEq]
  have hk0 : Kept [] m (m ++ [.row (bys (List.replicate 16 0#8)) false, .row (bys (List.replicate 16 0#8)) false]) := .app _ _ _
  generalize m ++ [Blk.row (bys (List.replicate 16 0#8)) false, Blk.row (bys (List.replicate 16 0#8)) false] = M at *
  refine (ans_rlow e 6 (by omega) _).mono ?_
  rintro x1 M1 ⟨hk1, hg1⟩
  simp -implicitDefEqProofs (disch := (first | omega | (simp only [lenB, lowB_len, putUp_len, ctrIn_len, ksB_len, blkB_len, xorB_len] <;> omega) | fail)) only [admQ, lenB, lowB_len, putUp_len, ctrIn_len, ksB_len, blkB_len, xorB_len, aFill, ↓reduceIte, reduceCtorEq, if_true, if_false, Nat.reduceAdd, Nat.reduceEqDiff, Nat.reduceMod, Nat.reduceLT, Nat.reduceLeDiff, Nat.reduceSub, Nat.reduceMul, Nat.reduceBEq, Int.reduceAdd, Int.reduceSub, Int.reduceMul, Int.reduceNeg, Int.reduceLT, Int.reduceLE, Int.reduceToNat, Int.reduceEq, Int.reduceBEq]
  refine (ans_rlow n 6 (by omega) _).mono ?_
  rintro x2 M2 ⟨hk2, hg2⟩
  simp -implicitDefEqProofs (disch := (first | omega | (simp only [lenB, lowB_len, putUp_len, ctrIn_len, ksB_len, blkB_len, xorB_len] <;> omega) | fail)) only [admQ, lenB, lowB_len, putUp_len, ctrIn_len, ksB_len, blkB_len, xorB_len, aFill, ↓reduceIte, reduceCtorEq, if_true, if_false, Nat.reduceAdd, Nat.reduceEqDiff, Nat.reduceMod, Nat.reduceLT, Nat.reduceLeDiff, Nat.reduceSub, Nat.reduceMul, Nat.reduceBEq, Int.reduceAdd, Int.reduceSub, Int.reduceMul, Int.reduceNeg, Int.reduceLT, Int.reduceLE, Int.reduceToNat, Int.reduceEq, Int.reduceBEq]
  refine (ans_rlow i 4 (by omega) _).mono ?_
  rintro x3 M3 ⟨hk3, hg3⟩
  rw [e64_nat (by omega)] at hg3
  have r1 := (hg1.rd.kept0 hk2).kept0 hk3
  have r2 := hg2.rd.kept0 hk3
  have r3 := hg3.rd
  have hkk := (hk1.trans hk2).trans hk3
  have o8' := hkk.own0 o8
  have o9' := hkk.own0 o9
  have hkM := hk0.trans hkk
  have hl9 := own_lt o9'
  have hl8 := own_lt o8'
  have hnil : ∀ (v k : Nat), bys (lowB v (k + 1)) ≠ [] := fun v k h => by have := congrArg List.length h; simp [lowB_len] at this
  have b1 := hg1.blk (hnil _ 5)
  have b2 := hg2.blk (hnil _ 5)
  have b3 := hg3.blk (hnil _ 3)
  have hMl := own_lt o9
  have l1 := hk1.len
  have l2 := hk2.len
  clear hg1 hg2 hg3 hk1 hk2 hk3 o8 o9 hkk hk0
  generalize hC : ctrIn (e64 e) (e64 n) i = C
  have hCl : C.length = 16 := by rw [← hC]; exact ctrIn_len _ _ _
  have v1 : ∀ j, j < 6 → gb (lowB (e64 e) 6) j = gb C j := fun j hj => by
    rw [← hC, ctrIn, List.append_assoc, gb_app_l (by rw [lowB_len]; exact hj)]
  have v2 : ∀ j, j < 6 → gb (lowB (e64 n) 6) j = gb C (6 + j) := fun j hj => by
    rw [← hC, ctrIn, List.append_assoc, gb_app_r (by rw [lowB_len]; omega), gb_app_l (by rw [lowB_len]; simp [lowB_len]; omega)]
    simp [lowB_len]
  have v3 : ∀ j, j < 4 → gb (lowB i 4) j = gb C (12 + j) := fun j hj => by
    rw [← hC, ctrIn, gb_app_r (by simp [lowB_len])]
    simp [lowB_len]
  have hks : ksB E N (e64 e) (e64 n) i = blockB E N C := by rw [← hC]; rfl
  rw [hks]
  let F : Nat → Nat → B8 := fun j t => if t < j ∨ (6 ≤ t ∧ t < 6 + j) then gb C t else 0#8
  let G : Nat → Nat → B8 := fun j t => if t < 12 + j then gb C t else 0#8
  have hF0 : tab 16 (F 0) = List.replicate 16 0#8 := by rw [← tab_const]; exact tab_ext fun t _ => if_neg (by omega)
  have hFG : tab 16 (F 6) = tab 16 (G 0) := tab_ext fun t ht => by
    by_cases h : t < 12
    · rw [show F 6 t = gb C t from if_pos (by omega), show G 0 t = gb C t from if_pos (by omega)]
    · rw [show F 6 t = 0#8 from if_neg (by omega), show G 0 t = 0#8 from if_neg (by omega)]
  have hG4 : tab 16 (G 4) = C := by exact (tab_ext fun t ht => if_pos (by omega)).trans (tab_gb hCl)
  have hFs : ∀ j, j < 6 → ((tab 16 (F j)).set j (gb C j)).set (6 + j) (gb C (6 + j)) = tab 16 (F (j + 1)) := fun j hj => by
    rw [set_tab, set_tab]
    refine tab_ext fun t ht => ?_
    by_cases h1 : t = 6 + j
    · rw [if_pos h1, h1]; exact (if_pos (by omega)).symm
    · rw [if_neg h1]
      by_cases h2 : t = j
      · rw [if_pos h2, h2]; exact (if_pos (by omega)).symm
      · rw [if_neg h2]
        by_cases h3 : t < j ∨ (6 ≤ t ∧ t < 6 + j)
        · rw [show F j t = gb C t from if_pos h3]; exact (if_pos (by omega)).symm
        · rw [show F j t = 0#8 from if_neg h3]; exact (if_neg (by omega)).symm
  have hGs : ∀ j, j < 4 → (tab 16 (G j)).set (12 + j) (gb C (12 + j)) = tab 16 (G (j + 1)) := fun j hj => by
    rw [set_tab]
    refine tab_ext fun t ht => ?_
    by_cases h1 : t = 12 + j
    · rw [if_pos h1, h1]; exact (if_pos (by omega)).symm
    · rw [if_neg h1]
      by_cases h3 : t < 12 + j
      · rw [show G j t = gb C t from if_pos h3]; exact (if_pos (by omega)).symm
      · rw [show G j t = 0#8 from if_neg h3]; exact (if_neg (by omega)).symm
  clear_value F G
  simp -implicitDefEqProofs (disch := (first | omega | (simp only [lenB, lowB_len, putUp_len, ctrIn_len, ksB_len, blkB_len, xorB_len] <;> omega) | fail)) only [admQ, lenB, lowB_len, putUp_len, ctrIn_len, ksB_len, blkB_len, xorB_len, aFill, ↓reduceIte, reduceCtorEq, if_true, if_false, Nat.reduceAdd, Nat.reduceEqDiff, Nat.reduceMod, Nat.reduceLT, Nat.reduceLeDiff, Nat.reduceSub, Nat.reduceMul, Nat.reduceBEq, Int.reduceAdd, Int.reduceSub, Int.reduceMul, Int.reduceNeg, Int.reduceLT, Int.reduceLE, Int.reduceToNat, Int.reduceEq, Int.reduceBEq]
  refine LoopW.on (fun j : Nat => [(0, .ptr c 0), (8, .ptr m.length 0), (9, .ptr (m.length + 1) 0), (10, x1), (11, x2), (12, x3), (13, .int .i64 j)]) (fun j => 6 - j) (fun j m' => j ≤ 6 ∧ m' = M3.set (m.length + 1) (.row (bys (tab 16 (F j))) false)) ?_ 0 _ _ rfl ⟨by omega, by rw [hF0, set_same o9']⟩
  rintro j m' X ⟨hj, rfl⟩ hX
  have o9j := own_set hl9 (bys (tab 16 (F j)))
  have hkj : Kept [m.length + 1] M3 (M3.set (m.length + 1) (.row (bys (tab 16 (F j))) false)) := .set1 _ _ _
  have rj : ∀ {x : AV} {l : List B8}, RdB M3 x l → (∀ b ∈ blkOf x, m.length + 1 < b) → RdB (M3.set (m.length + 1) (.row (bys (tab 16 (F j))) false)) x l := fun h hb =>
    h.kept hkj fun b o n cap s e => by have := hb b (by rw [e]; simp [blkOf]); simp; omega
  by_cases hlt : j < 6
  · have q1 := hFs j hlt
    obtain ⟨p1, o1, cap1, s1, d1, rfl, hr1, hg1, hl1, hc1, hs1, ht1⟩ := (rj r1 (fun b hb => by have := b1 b hb; omega)).cons (show j < (lowB (e64 e) 6).length by rw [lowB_len]; exact hlt)
    obtain ⟨p2, o2, cap2, s2, d2, rfl, hr2, hg2, hl2, hc2, hs2, ht2⟩ := (rj r2 (fun b hb => by have := b2 b hb; omega)).cons (show j < (lowB (e64 n) 6).length by rw [lowB_len]; exact hlt)
    have e1 := hg1 j (by rw [lowB_len]; exact hlt)
    have e2 := hg2 j (by rw [lowB_len]; exact hlt)
    rw [v1 j hlt] at e1
    rw [v2 j hlt] at e2
    have hb1 := b1 p1 (by simp [blkOf])
    have hb2 := b2 p2 (by simp [blkOf])
    have hr2' : ∀ B : Blk, rowOf (M3.set (m.length + 1) B) p2 = some d2 := fun B => by
      rw [rowOf_set_ne (by omega)] at hr2 ⊢; exact hr2
    have o9s : ∀ x : List AV, own (M3.set (m.length + 1) (.row x false)) (m.length + 1) = some x := fun x => own_set hl9 x
    simp -implicitDefEqProofs (disch := (first | omega | (simp only [lenB, lowB_len, putUp_len, ctrIn_len, ksB_len, blkB_len, xorB_len] <;> omega) | fail)) only [admQ, lenB, lowB_len, putUp_len, ctrIn_len, ksB_len, blkB_len, xorB_len, aFill, ↓reduceIte, reduceCtorEq, if_true, if_false, Nat.reduceAdd, Nat.reduceEqDiff, Nat.reduceMod, Nat.reduceLT, Nat.reduceLeDiff, Nat.reduceSub, Nat.reduceMul, Nat.reduceBEq, Int.reduceAdd, Int.reduceSub, Int.reduceMul, Int.reduceNeg, Int.reduceLT, Int.reduceLE, Int.reduceToNat, Int.reduceEq, Int.reduceBEq, hr1, e1, hr2', e2, o9s, splice_byte, List.set_set, q1]
    exact hX (j + 1) _ _ rfl (by omega) ⟨by omega, rfl⟩
  · obtain rfl : j = 6 := by omega
    rw [hFG] at hkj rj o9j ⊢
    simp -implicitDefEqProofs (disch := (first | omega | (simp only [lenB, lowB_len, putUp_len, ctrIn_len, ksB_len, blkB_len, xorB_len] <;> omega) | fail)) only [admQ, lenB, lowB_len, putUp_len, ctrIn_len, ksB_len, blkB_len, xorB_len, aFill, ↓reduceIte, reduceCtorEq, if_true, if_false, Nat.reduceAdd, Nat.reduceEqDiff, Nat.reduceMod, Nat.reduceLT, Nat.reduceLeDiff, Nat.reduceSub, Nat.reduceMul, Nat.reduceBEq, Int.reduceAdd, Int.reduceSub, Int.reduceMul, Int.reduceNeg, Int.reduceLT, Int.reduceLE, Int.reduceToNat, Int.reduceEq, Int.reduceBEq]
    clear hX
    refine LoopW.on (fun j : Nat => [(0, .ptr c 0), (8, .ptr m.length 0), (9, .ptr (m.length + 1) 0), (12, x3), (14, .int .i64 j)]) (fun j => 4 - j) (fun j m' => j ≤ 4 ∧ m' = M3.set (m.length + 1) (.row (bys (tab 16 (G j))) false)) ?_ 0 _ _ rfl ⟨by omega, rfl⟩
    clear hkj rj o9j
    rintro j m' X ⟨hj, rfl⟩ hX
    have hkj : Kept [m.length + 1] M3 (M3.set (m.length + 1) (.row (bys (tab 16 (G j))) false)) := .set1 _ _ _
    have o9s : ∀ x : List AV, own (M3.set (m.length + 1) (.row x false)) (m.length + 1) = some x := fun x => own_set hl9 x
    by_cases hlt : j < 4
    · have q1 := hGs j hlt
      have r3' : RdB (M3.set (m.length + 1) (.row (bys (tab 16 (G j))) false)) x3 (lowB i 4) := r3.kept hkj fun b o n cap s e => by have := b3 b (by rw [e]; simp [blkOf]); simp; omega
      obtain ⟨p1, o1, cap1, s1, d1, rfl, hr1, hg1, hl1, hc1, hs1, ht1⟩ := r3'.cons (show j < (lowB i 4).length by rw [lowB_len]; exact hlt)
      have e1 := hg1 j (by rw [lowB_len]; exact hlt)
      rw [v3 j hlt] at e1
      simp -implicitDefEqProofs (disch := (first | omega | (simp only [lenB, lowB_len, putUp_len, ctrIn_len, ksB_len, blkB_len, xorB_len] <;> omega) | fail)) only [admQ, lenB, lowB_len, putUp_len, ctrIn_len, ksB_len, blkB_len, xorB_len, aFill, ↓reduceIte, reduceCtorEq, if_true, if_false, Nat.reduceAdd, Nat.reduceEqDiff, Nat.reduceMod, Nat.reduceLT, Nat.reduceLeDiff, Nat.reduceSub, Nat.reduceMul, Nat.reduceBEq, Int.reduceAdd, Int.reduceSub, Int.reduceMul, Int.reduceNeg, Int.reduceLT, Int.reduceLE, Int.reduceToNat, Int.reduceEq, Int.reduceBEq, hr1, e1, o9s, splice_byte, List.set_set, q1]
      exact hX (j + 1) _ _ rfl (by omega) ⟨by omega, rfl⟩
    · obtain rfl : j = 4 := by omega
      rw [hG4] at hkj ⊢
      simp -implicitDefEqProofs (disch := (first | omega | (simp only [lenB, lowB_len, putUp_len, ctrIn_len, ksB_len, blkB_len, xorB_len] <;> omega) | fail)) only [admQ, lenB, lowB_len, putUp_len, ctrIn_len, ksB_len, blkB_len, xorB_len, aFill, ↓reduceIte, reduceCtorEq, if_true, if_false, Nat.reduceAdd, Nat.reduceEqDiff, Nat.reduceMod, Nat.reduceLT, Nat.reduceLeDiff, Nat.reduceSub, Nat.reduceMul, Nat.reduceBEq, Int.reduceAdd, Int.reduceSub, Int.reduceMul, Int.reduceNeg, Int.reduceLT, Int.reduceLE, Int.reduceToNat, Int.reduceEq, Int.reduceBEq, rowOf_own (o9s _)]
      have hk4 := hkM.write (q := m.length + 1) (.inr (by omega)) (.row (bys C) false)
      have o84 : own (M3.set (m.length + 1) (.row (bys C) false)) m.length = some (bys (List.replicate 16 0#8)) := by rw [own_set_ne (by omega)]; exact o8'
      generalize M3.set (m.length + 1) (.row (bys C) false) = M4 at *
      refine (ans_rblock (hc.kept0 hk4) C hCl).mono ?_
      rintro _ M5 ⟨rfl, hk5⟩
      have o85 := hk5.own0 o84
      have hl5 := own_lt o85
      have hbl := blkB_len E N C
      generalize blockB E N C = R at *
      simp -implicitDefEqProofs (disch := (first | omega | (simp only [lenB, lowB_len, putUp_len, ctrIn_len, ksB_len, blkB_len, xorB_len] <;> omega) | fail)) only [admQ, lenB, lowB_len, putUp_len, ctrIn_len, ksB_len, blkB_len, xorB_len, aFill, ↓reduceIte, reduceCtorEq, if_true, if_false, Nat.reduceAdd, Nat.reduceEqDiff, Nat.reduceMod, Nat.reduceLT, Nat.reduceLeDiff, Nat.reduceSub, Nat.reduceMul, Nat.reduceBEq, Int.reduceAdd, Int.reduceSub, Int.reduceMul, Int.reduceNeg, Int.reduceLT, Int.reduceLE, Int.reduceToNat, Int.reduceEq, Int.reduceBEq, o85, rowOf_set]
      exact (hk4.trans hk5).write (.inr (by omega)) _

theorem ans_rctrxor {m : Mem} {c N : Nat} {E : List B8} (hc : RCiph m c N E) (e n : Int) {x : AV} {b : List B8} (hx : RdB m x b) (hb : b.length ≤ 100000) : Ans Try.prog 13 [.ptr c 0, .int .i64 e, .int .i64 n, x] m fun r m' => Kept [] m m' ∧ GrB m.length m' r (xorB E N (e64 e) (e64 n) b) := by
  refine ans_ret mixed ok13 ?_
  simp -implicitDefEqProofs (disch := (first | omega | (simp only [lenB, lowB_len, putUp_len, ctrIn_len, ksB_len, blkB_len, xorB_len] <;> omega) | fail)) only [admQ, lenB, lowB_len, putUp_len, ctrIn_len, ksB_len, blkB_len, xorB_len, aFill, ↓reduceIte, reduceCtorEq, if_true, if_false, Nat.reduceAdd, Nat.reduceEqDiff, Nat.reduceMod, Nat.reduceLT, Nat.reduceLeDiff, Nat.reduceSub, Nat.reduceMul, Nat.reduceBEq, Int.reduceAdd, Int.reduceSub, Int.reduceMul, Int.reduceNeg, Int.reduceLT, Int.reduceLE, Int.reduceToNat, Int.reduceEq, Int.reduceBEq, c13, r13]
  have hxl := xorB_len E N (e64 e) (e64 n) b
  have hxv : ∀ q j, 16 * q + j < b.length → j < 16 → gb b (16 * q + j) ^^^ gb (ksB E N (e64 e) (e64 n) q) j = gb (xorB E N (e64 e) (e64 n) b) (16 * q + j) := fun q j h1 h2 => by
    rw [xorB, gb_tab _ h1, ksAt, show (16 * q + j) / 16 = q by omega, show (16 * q + j) % 16 = j by omega]
  generalize xorB E N (e64 e) (e64 n) b = Y at *
  refine LoopW.on (fun s : Nat × AV => [(0, .ptr c 0), (1, .int .i64 e), (2, .int .i64 n), (3, x), (9, s.2), (10, .int .i64 ((16 * s.1 : Nat) : Int))]) (fun s => b.length + 16 - 16 * s.1)
    (fun s m' => 16 * s.1 ≤ b.length + 15 ∧ Kept [] m m' ∧ GrB m.length m' s.2 (Y.take (16 * s.1))) ?_ (0, .nils) _ _ rfl ⟨by omega, .refl _ _, GrA.nils _ _ _⟩
  rintro ⟨q, xo⟩ m' X ⟨hq, hk, hg⟩ hX
  dsimp only at hq hg hX ⊢
  by_cases hlt : 16 * q < b.length
  · have h16 : 16 * q / 16 = q := by omega
    simp -implicitDefEqProofs (disch := (first | omega | (simp only [lenB, lowB_len, putUp_len, ctrIn_len, ksB_len, blkB_len, xorB_len] <;> omega) | fail)) only [admQ, lenB, lowB_len, putUp_len, ctrIn_len, ksB_len, blkB_len, xorB_len, aFill, ↓reduceIte, reduceCtorEq, if_true, if_false, Nat.reduceAdd, Nat.reduceEqDiff, Nat.reduceMod, Nat.reduceLT, Nat.reduceLeDiff, Nat.reduceSub, Nat.reduceMul, Nat.reduceBEq, Int.reduceAdd, Int.reduceSub, Int.reduceMul, Int.reduceNeg, Int.reduceLT, Int.reduceLE, Int.reduceToNat, Int.reduceEq, Int.reduceBEq, (hx.kept0 hk).len, h16]
    refine (ans_rctrblock (hc.kept0 hk) e n q (by omega)).mono ?_
    rintro _ m1 ⟨rfl, hk1⟩
    have hKl := ksB_len E N (e64 e) (e64 n) q
    have hxv' := hxv q
    generalize ksB E N (e64 e) (e64 n) q = K at *
    simp -implicitDefEqProofs (disch := (first | omega | (simp only [lenB, lowB_len, putUp_len, ctrIn_len, ksB_len, blkB_len, xorB_len] <;> omega) | fail)) only [admQ, lenB, lowB_len, putUp_len, ctrIn_len, ksB_len, blkB_len, xorB_len, aFill, ↓reduceIte, reduceCtorEq, if_true, if_false, Nat.reduceAdd, Nat.reduceEqDiff, Nat.reduceMod, Nat.reduceLT, Nat.reduceLeDiff, Nat.reduceSub, Nat.reduceMul, Nat.reduceBEq, Int.reduceAdd, Int.reduceSub, Int.reduceMul, Int.reduceNeg, Int.reduceLT, Int.reduceLE, Int.reduceToNat, Int.reduceEq, Int.reduceBEq]
    have hkk := hk.trans hk1
    have hk2 : Kept [] m (m1 ++ [.row (bys K) false]) := hkk.more_app _
    have hK2 : own (m1 ++ [.row (bys K) false]) m1.length = some (bys K) := by simp -implicitDefEqProofs (disch := (first | omega | (simp only [lenB, lowB_len, putUp_len, ctrIn_len, ksB_len, blkB_len, xorB_len] <;> omega) | fail)) only [admQ, lenB, lowB_len, putUp_len, ctrIn_len, ksB_len, blkB_len, xorB_len, aFill, ↓reduceIte, reduceCtorEq, if_true, if_false, Nat.reduceAdd, Nat.reduceEqDiff, Nat.reduceMod, Nat.reduceLT, Nat.reduceLeDiff, Nat.reduceSub, Nat.reduceMul, Nat.reduceBEq, Int.reduceAdd, Int.reduceSub, Int.reduceMul, Int.reduceNeg, Int.reduceLT, Int.reduceLE, Int.reduceToNat, Int.reduceEq, Int.reduceBEq]
    have hg2 := (hg.kept0 hk1).kept0 (.app [] m1 [.row (bys K) false])
    have hml := hkk.len
    generalize m1 ++ [Blk.row (bys K) false] = m2 at *
    refine LoopW.on (fun s : Nat × AV => [(0, .ptr c 0), (1, .int .i64 e), (2, .int .i64 n), (3, x), (9, s.2), (10, .int .i64 ((16 * q : Nat) : Int)), (11, .ptr m1.length 0), (12, .int .i64 s.1)]) (fun s => 16 - s.1)
      (fun s m3 => s.1 ≤ 16 ∧ 16 * q + s.1 ≤ b.length ∧ Kept [] m m3 ∧ rowOf m3 m1.length = some (bys K) ∧ GrB m.length m3 s.2 (Y.take (16 * q + s.1)) ∧ ∀ b ∈ blkOf s.2, b ≠ m1.length) ?_ (0, xo) _ _ rfl ⟨by omega, by omega, hk2, rowOf_own hK2, hg2, fun b hb => by have := (hg.kept0 hk1).lt b hb; omega⟩
    rintro ⟨j, xo⟩ m3 X2 ⟨hj, hj2, hk3, hK3, hg3, hb3⟩ hX2
    dsimp only at hj hj2 hg3 hb3 hX2 ⊢
    by_cases h1 : j < 16
    · by_cases h2 : 16 * q + j < b.length
      · obtain ⟨p1, o1, cap1, s1, d1, rfl, hr1, hg1, hl1, hc1, hs1, ht1⟩ := (hx.kept0 hk3).cons h2
        have e1 := hg1 _ h2
        have e3 := hxv' j h2 h1
        obtain ⟨xo', m4, ha, hg4, hk4, hf4, hb4⟩ := GrA.push5 (bytes := 1) hg3 (by omega) (l := [b8 (gb Y (16 * q + j))]) rfl (by simp; omega) hk3.len
        have hl3 := rowOf_lt hK3
        have hkk4 := hf4 _ _ hk3 (Nat.le_refl _)
        simp -implicitDefEqProofs (disch := (first | omega | (simp only [lenB, lowB_len, putUp_len, ctrIn_len, ksB_len, blkB_len, xorB_len] <;> omega) | fail)) only [admQ, lenB, lowB_len, putUp_len, ctrIn_len, ksB_len, blkB_len, xorB_len, aFill, ↓reduceIte, reduceCtorEq, if_true, if_false, Nat.reduceAdd, Nat.reduceEqDiff, Nat.reduceMod, Nat.reduceLT, Nat.reduceLeDiff, Nat.reduceSub, Nat.reduceMul, Nat.reduceBEq, Int.reduceAdd, Int.reduceSub, Int.reduceMul, Int.reduceNeg, Int.reduceLT, Int.reduceLE, Int.reduceToNat, Int.reduceEq, Int.reduceBEq, hr1, e1, e3, ha, hK3, dec_t]
        refine hX2 (j + 1, xo') _ _ rfl (by simp; omega) ⟨by simp; omega, by simp; omega, hkk4, hk4.row hK3 (fun h => hb3 _ h rfl), ?_, fun b hb => by have := hb4 b hb; omega⟩
        rw [show 16 * q + (j + 1) = 16 * q + j + 1 by omega, take_gb (by omega)]
        simpa [GrB] using hg4
      · simp -implicitDefEqProofs (disch := (first | omega | (simp only [lenB, lowB_len, putUp_len, ctrIn_len, ksB_len, blkB_len, xorB_len] <;> omega) | fail)) only [admQ, lenB, lowB_len, putUp_len, ctrIn_len, ksB_len, blkB_len, xorB_len, aFill, ↓reduceIte, reduceCtorEq, if_true, if_false, Nat.reduceAdd, Nat.reduceEqDiff, Nat.reduceMod, Nat.reduceLT, Nat.reduceLeDiff, Nat.reduceSub, Nat.reduceMul, Nat.reduceBEq, Int.reduceAdd, Int.reduceSub, Int.reduceMul, Int.reduceNeg, Int.reduceLT, Int.reduceLE, Int.reduceToNat, Int.reduceEq, Int.reduceBEq, (hx.kept0 hk3).len, dec_t, dec_f]
        refine hX (q + 1, xo) _ _ rfl (by simp; omega) ⟨by simp; omega, hk3, ?_⟩
        rw [List.take_of_length_le (by omega)] at hg3 ⊢
        exact hg3
    · simp -implicitDefEqProofs (disch := (first | omega | (simp only [lenB, lowB_len, putUp_len, ctrIn_len, ksB_len, blkB_len, xorB_len] <;> omega) | fail)) only [admQ, lenB, lowB_len, putUp_len, ctrIn_len, ksB_len, blkB_len, xorB_len, aFill, ↓reduceIte, reduceCtorEq, if_true, if_false, Nat.reduceAdd, Nat.reduceEqDiff, Nat.reduceMod, Nat.reduceLT, Nat.reduceLeDiff, Nat.reduceSub, Nat.reduceMul, Nat.reduceBEq, Int.reduceAdd, Int.reduceSub, Int.reduceMul, Int.reduceNeg, Int.reduceLT, Int.reduceLE, Int.reduceToNat, Int.reduceEq, Int.reduceBEq, dec_f]
      refine hX (q + 1, xo) _ _ rfl (by simp; omega) ⟨by simp; omega, hk3, ?_⟩
      rw [show 16 * (q + 1) = 16 * q + j by omega]
      exact hg3
  · simp -implicitDefEqProofs (disch := (first | omega | (simp only [lenB, lowB_len, putUp_len, ctrIn_len, ksB_len, blkB_len, xorB_len] <;> omega) | fail)) only [admQ, lenB, lowB_len, putUp_len, ctrIn_len, ksB_len, blkB_len, xorB_len, aFill, ↓reduceIte, reduceCtorEq, if_true, if_false, Nat.reduceAdd, Nat.reduceEqDiff, Nat.reduceMod, Nat.reduceLT, Nat.reduceLeDiff, Nat.reduceSub, Nat.reduceMul, Nat.reduceBEq, Int.reduceAdd, Int.reduceSub, Int.reduceMul, Int.reduceNeg, Int.reduceLT, Int.reduceLE, Int.reduceToNat, Int.reduceEq, Int.reduceBEq, (hx.kept0 hk).len]
    exact ⟨hk, by rwa [List.take_of_length_le (by omega)] at hg⟩
end Go.Proofs.Ythdkclkiegkabaa
