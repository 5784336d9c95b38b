/- Bytes turned by a stream: the closed statement. -/
import Derived.Test.YthdkclkiegkabaaCtD
namespace Go.Proofs.Ythdkclkiegkabaa
open Go Go.Adm
set_option linter.unusedSimpArgs false
set_option maxRecDepth 100000
set_option maxHeartbeats 2000000
def ctrNs : List Nat := [0, 1, 15, 16, 17, 31, 32, 33, 255, 256, 257, 4096, 4100]
def ctrVs : List Int := [-9223372036854775808, -1, 0, 1, 255, 256, 1099511627776, 281474976710655, 281474976710656, 9223372036854775807]
theorem ans_CtrKnown (m : Mem) : Ans Try.prog 6 [] m fun r m' => r = .bool true ∧ Kept [] m m' := by
  refine ans_ret mixed ok6 ?_
  simp -implicitDefEqProofs (disch := (first | omega | (simp only [lenB, rowB_len] <;> omega) | fail)) only [admQ, lenB, rowB_len, ↓reduceIte, reduceCtorEq, if_true, if_false, Nat.reduceAdd, Nat.reduceEqDiff, Nat.reduceMod, Nat.reduceLT, Nat.reduceLeDiff, Nat.reduceSub, Nat.reduceMul, Nat.reduceBEq, Int.reduceAdd, Int.reduceSub, Int.reduceMul, Int.reduceNeg, Int.reduceLT, Int.reduceLE, Int.reduceToNat, Int.reduceEq, Int.reduceBEq, c6, r6]
  rw [aFill_all]
  rotate_left
  · simp
  · rfl
  · rfl
  simp -implicitDefEqProofs (disch := (first | omega | (simp only [lenB, rowB_len] <;> omega) | fail)) only [admQ, lenB, rowB_len, ↓reduceIte, reduceCtorEq, if_true, if_false, Nat.reduceAdd, Nat.reduceEqDiff, Nat.reduceMod, Nat.reduceLT, Nat.reduceLeDiff, Nat.reduceSub, Nat.reduceMul, Nat.reduceBEq, Int.reduceAdd, Int.reduceSub, Int.reduceMul, Int.reduceNeg, Int.reduceLT, Int.reduceLE, Int.reduceToNat, Int.reduceEq, Int.reduceBEq]
  rw [aFill_all]
  rotate_left
  · simp
  · rfl
  · rfl
  simp -implicitDefEqProofs (disch := (first | omega | (simp only [lenB, rowB_len] <;> omega) | fail)) only [admQ, lenB, rowB_len, aFill, ↓reduceIte, reduceCtorEq, if_true, if_false, Nat.reduceAdd, Nat.reduceEqDiff, Nat.reduceMod, Nat.reduceLT, Nat.reduceLeDiff, Nat.reduceSub, Nat.reduceMul, Nat.reduceBEq, Int.reduceAdd, Int.reduceSub, Int.reduceMul, Int.reduceNeg, Int.reduceLT, Int.reduceLE, Int.reduceToNat, Int.reduceEq, Int.reduceBEq]
  have rn : rowOf (m ++ [.row (ctrNs.map fun (n : Nat) => AV.int .i64 n) false, .row (ctrVs.map (AV.int .i64)) false]) m.length = some (ctrNs.map fun (n : Nat) => AV.int .i64 n) := by rw [rowOf_app_at0]; rfl
  have rv : rowOf (m ++ [.row (ctrNs.map fun (n : Nat) => AV.int .i64 n) false, .row (ctrVs.map (AV.int .i64)) false]) (m.length + 1) = some (ctrVs.map (AV.int .i64)) := by rw [rowOf_app_at]; rfl
  have hk0 : Kept [] m (m ++ [.row (ctrNs.map fun (n : Nat) => AV.int .i64 n) false, .row (ctrVs.map (AV.int .i64)) false]) := .app _ _ _
  have hNs : ∀ j, j < 13 → ∃ n : Nat, n ≤ 5000 ∧ (ctrNs.map fun (n : Nat) => AV.int .i64 n)[j]? = some (.int .i64 n) := by
    intro j hj
    have : j < ctrNs.length := hj
    have h5 : ∀ n ∈ ctrNs, n ≤ 5000 := by decide
    exact ⟨ctrNs[j], h5 _ (List.getElem_mem this), by rw [List.getElem?_map, List.getElem?_eq_getElem this]; rfl⟩
  have hVs : ∀ j, j < 10 → ∃ n : Int, (ctrVs.map (AV.int .i64))[j]? = some (.int .i64 n) := by
    intro j hj
    have : j < ctrVs.length := hj
    exact ⟨ctrVs[j], by rw [List.getElem?_map, List.getElem?_eq_getElem this]; rfl⟩
  have hM : m ++ [.row (ctrNs.map fun (n : Nat) => AV.int .i64 n) false, .row (ctrVs.map (AV.int .i64)) false] = m ++ [.row [.int .i64 0, .int .i64 1, .int .i64 15, .int .i64 16, .int .i64 17, .int .i64 31, .int .i64 32, .int .i64 33, .int .i64 255, .int .i64 256, .int .i64 257, .int .i64 4096, .int .i64 4100] false, .row [.int .i64 (-9223372036854775808), .int .i64 (-1), .int .i64 0, .int .i64 1, .int .i64 255, .int .i64 256, .int .i64 1099511627776, .int .i64 281474976710655, .int .i64 281474976710656, .int .i64 9223372036854775807] false] := rfl
  rw [← hM]
  clear hM
  generalize m ++ [Blk.row (ctrNs.map fun (n : Nat) => AV.int .i64 n) false, Blk.row (ctrVs.map (AV.int .i64)) false] = M at *
  generalize (ctrNs.map fun (n : Nat) => AV.int .i64 n) = rowN at *
  generalize ctrVs.map (AV.int .i64) = rowV at *
  refine LoopW.on (fun i : Nat => [(1, .sl m.length 0 13 13 0), (2, .sl (m.length + 1) 0 10 10 0), (3, .int .i64 i)]) (fun i => 13 - i) (fun i m' => i ≤ 13 ∧ Kept [] M m') ?_ 0 _ _ rfl ⟨by omega, .refl _ _⟩
  rintro i m1 X ⟨hi, hk1⟩ hX
  by_cases hlt : i < 13
  · obtain ⟨nn, hn5, hnn⟩ := hNs i hlt
    simp -implicitDefEqProofs (disch := (first | omega | (simp only [lenB, rowB_len] <;> omega) | fail)) only [admQ, lenB, rowB_len, aFill, ↓reduceIte, reduceCtorEq, if_true, if_false, Nat.reduceAdd, Nat.reduceEqDiff, Nat.reduceMod, Nat.reduceLT, Nat.reduceLeDiff, Nat.reduceSub, Nat.reduceMul, Nat.reduceBEq, Int.reduceAdd, Int.reduceSub, Int.reduceMul, Int.reduceNeg, Int.reduceLT, Int.reduceLE, Int.reduceToNat, Int.reduceEq, Int.reduceBEq]
    refine LoopW.on (fun k : Nat => [(1, .sl m.length 0 13 13 0), (2, .sl (m.length + 1) 0 10 10 0), (3, .int .i64 i), (4, .int .i64 k)]) (fun k => 10 - k) (fun k m' => k ≤ 10 ∧ Kept [] M m') ?_ 0 _ _ rfl ⟨by omega, hk1⟩
    rintro k m2 X2 ⟨hkk, hk2⟩ hX2
    by_cases hlt2 : k < 10
    · obtain ⟨va, hva⟩ := hVs k hlt2
      obtain ⟨vb, hvb⟩ := hVs (9 - k) (by omega)
      simp -implicitDefEqProofs (disch := (first | omega | (simp only [lenB, rowB_len] <;> omega) | fail)) only [admQ, lenB, rowB_len, aFill, ↓reduceIte, reduceCtorEq, if_true, if_false, Nat.reduceAdd, Nat.reduceEqDiff, Nat.reduceMod, Nat.reduceLT, Nat.reduceLeDiff, Nat.reduceSub, Nat.reduceMul, Nat.reduceBEq, Int.reduceAdd, Int.reduceSub, Int.reduceMul, Int.reduceNeg, Int.reduceLT, Int.reduceLE, Int.reduceToNat, Int.reduceEq, Int.reduceBEq]
      refine (ans_row 16 (by omega) _).mono ?_
      rintro _ m3 ⟨p1, rfl, hk3, hp1, ho1⟩
      have q3 := hk2.trans hk3
      simp -implicitDefEqProofs (disch := (first | omega | (simp only [lenB, rowB_len] <;> omega) | fail)) only [admQ, lenB, rowB_len, aFill, ↓reduceIte, reduceCtorEq, if_true, if_false, Nat.reduceAdd, Nat.reduceEqDiff, Nat.reduceMod, Nat.reduceLT, Nat.reduceLeDiff, Nat.reduceSub, Nat.reduceMul, Nat.reduceBEq, Int.reduceAdd, Int.reduceSub, Int.reduceMul, Int.reduceNeg, Int.reduceLT, Int.reduceLE, Int.reduceToNat, Int.reduceEq, Int.reduceBEq, hva, hvb, hnn, hk2.row0 rn, hk2.row0 rv, q3.row0 rn, q3.row0 rv]
      refine (ans_row nn (by omega) _).mono ?_
      rintro _ m4 ⟨p2, rfl, hk4, hp2, ho2⟩
      have q4 := q3.trans hk4
      simp -implicitDefEqProofs (disch := (first | omega | (simp only [lenB, rowB_len] <;> omega) | fail)) only [admQ, lenB, rowB_len, aFill, ↓reduceIte, reduceCtorEq, if_true, if_false, Nat.reduceAdd, Nat.reduceEqDiff, Nat.reduceMod, Nat.reduceLT, Nat.reduceLeDiff, Nat.reduceSub, Nat.reduceMul, Nat.reduceBEq, Int.reduceAdd, Int.reduceSub, Int.reduceMul, Int.reduceNeg, Int.reduceLT, Int.reduceLE, Int.reduceToNat, Int.reduceEq, Int.reduceBEq, hva, hvb, hnn, hk2.row0 rn, hk2.row0 rv, q3.row0 rn, q3.row0 rv, q4.row0 rn, q4.row0 rv]
      refine (ans_CtrTurns (rd_row (hk4.own0 ho1) (rowB_len _) (.inl rfl)) va vb (rd_row ho2 (rowB_len _) (.inl rfl))).mono ?_
      rintro _ m5 ⟨rfl, hk5⟩
      have q5 := q4.trans hk5
      simp -implicitDefEqProofs (disch := (first | omega | (simp only [lenB, rowB_len] <;> omega) | fail)) only [admQ, lenB, rowB_len, aFill, ↓reduceIte, reduceCtorEq, if_true, if_false, Nat.reduceAdd, Nat.reduceEqDiff, Nat.reduceMod, Nat.reduceLT, Nat.reduceLeDiff, Nat.reduceSub, Nat.reduceMul, Nat.reduceBEq, Int.reduceAdd, Int.reduceSub, Int.reduceMul, Int.reduceNeg, Int.reduceLT, Int.reduceLE, Int.reduceToNat, Int.reduceEq, Int.reduceBEq, hva, hvb, hnn, hk2.row0 rn, hk2.row0 rv, q3.row0 rn, q3.row0 rv, q4.row0 rn, q4.row0 rv, q5.row0 rn, q5.row0 rv]
      refine (ans_row 32 (by omega) _).mono ?_
      rintro _ m6 ⟨p3, rfl, hk6, hp3, ho3⟩
      have q6 := q5.trans hk6
      simp -implicitDefEqProofs (disch := (first | omega | (simp only [lenB, rowB_len] <;> omega) | fail)) only [admQ, lenB, rowB_len, aFill, ↓reduceIte, reduceCtorEq, if_true, if_false, Nat.reduceAdd, Nat.reduceEqDiff, Nat.reduceMod, Nat.reduceLT, Nat.reduceLeDiff, Nat.reduceSub, Nat.reduceMul, Nat.reduceBEq, Int.reduceAdd, Int.reduceSub, Int.reduceMul, Int.reduceNeg, Int.reduceLT, Int.reduceLE, Int.reduceToNat, Int.reduceEq, Int.reduceBEq, hva, hvb, hnn, hk2.row0 rn, hk2.row0 rv, q3.row0 rn, q3.row0 rv, q4.row0 rn, q4.row0 rv, q5.row0 rn, q5.row0 rv, q6.row0 rn, q6.row0 rv]
      refine (ans_row nn (by omega) _).mono ?_
      rintro _ m7 ⟨p4, rfl, hk7, hp4, ho4⟩
      have q7 := q6.trans hk7
      simp -implicitDefEqProofs (disch := (first | omega | (simp only [lenB, rowB_len] <;> omega) | fail)) only [admQ, lenB, rowB_len, aFill, ↓reduceIte, reduceCtorEq, if_true, if_false, Nat.reduceAdd, Nat.reduceEqDiff, Nat.reduceMod, Nat.reduceLT, Nat.reduceLeDiff, Nat.reduceSub, Nat.reduceMul, Nat.reduceBEq, Int.reduceAdd, Int.reduceSub, Int.reduceMul, Int.reduceNeg, Int.reduceLT, Int.reduceLE, Int.reduceToNat, Int.reduceEq, Int.reduceBEq, hva, hvb, hnn, hk2.row0 rn, hk2.row0 rv, q3.row0 rn, q3.row0 rv, q4.row0 rn, q4.row0 rv, q5.row0 rn, q5.row0 rv, q6.row0 rn, q6.row0 rv, q7.row0 rn, q7.row0 rv]
      refine (ans_CtrBack (rd_row (hk7.own0 ho3) (rowB_len _) (.inl rfl)) va nn (rd_row ho4 (rowB_len _) (.inl rfl))).mono ?_
      rintro _ m8 ⟨rfl, hk8⟩
      have q8 := q7.trans hk8
      simp -implicitDefEqProofs (disch := (first | omega | (simp only [lenB, rowB_len] <;> omega) | fail)) only [admQ, lenB, rowB_len, aFill, ↓reduceIte, reduceCtorEq, if_true, if_false, Nat.reduceAdd, Nat.reduceEqDiff, Nat.reduceMod, Nat.reduceLT, Nat.reduceLeDiff, Nat.reduceSub, Nat.reduceMul, Nat.reduceBEq, Int.reduceAdd, Int.reduceSub, Int.reduceMul, Int.reduceNeg, Int.reduceLT, Int.reduceLE, Int.reduceToNat, Int.reduceEq, Int.reduceBEq, hva, hvb, hnn, hk2.row0 rn, hk2.row0 rv, q3.row0 rn, q3.row0 rv, q4.row0 rn, q4.row0 rv, q5.row0 rn, q5.row0 rv, q6.row0 rn, q6.row0 rv, q7.row0 rn, q7.row0 rv, q8.row0 rn, q8.row0 rv]
      refine (ans_row 24 (by omega) _).mono ?_
      rintro _ m9 ⟨p5, rfl, hk9, hp5, ho5⟩
      have q9 := q8.trans hk9
      simp -implicitDefEqProofs (disch := (first | omega | (simp only [lenB, rowB_len] <;> omega) | fail)) only [admQ, lenB, rowB_len, aFill, ↓reduceIte, reduceCtorEq, if_true, if_false, Nat.reduceAdd, Nat.reduceEqDiff, Nat.reduceMod, Nat.reduceLT, Nat.reduceLeDiff, Nat.reduceSub, Nat.reduceMul, Nat.reduceBEq, Int.reduceAdd, Int.reduceSub, Int.reduceMul, Int.reduceNeg, Int.reduceLT, Int.reduceLE, Int.reduceToNat, Int.reduceEq, Int.reduceBEq, hva, hvb, hnn, hk2.row0 rn, hk2.row0 rv, q3.row0 rn, q3.row0 rv, q4.row0 rn, q4.row0 rv, q5.row0 rn, q5.row0 rv, q6.row0 rn, q6.row0 rv, q7.row0 rn, q7.row0 rv, q8.row0 rn, q8.row0 rv, q9.row0 rn, q9.row0 rv]
      refine (ans_row nn (by omega) _).mono ?_
      rintro _ m10 ⟨p6, rfl, hk10, hp6, ho6⟩
      have q10 := q9.trans hk10
      simp -implicitDefEqProofs (disch := (first | omega | (simp only [lenB, rowB_len] <;> omega) | fail)) only [admQ, lenB, rowB_len, aFill, ↓reduceIte, reduceCtorEq, if_true, if_false, Nat.reduceAdd, Nat.reduceEqDiff, Nat.reduceMod, Nat.reduceLT, Nat.reduceLeDiff, Nat.reduceSub, Nat.reduceMul, Nat.reduceBEq, Int.reduceAdd, Int.reduceSub, Int.reduceMul, Int.reduceNeg, Int.reduceLT, Int.reduceLE, Int.reduceToNat, Int.reduceEq, Int.reduceBEq, hva, hvb, hnn, hk2.row0 rn, hk2.row0 rv, q3.row0 rn, q3.row0 rv, q4.row0 rn, q4.row0 rv, q5.row0 rn, q5.row0 rv, q6.row0 rn, q6.row0 rv, q7.row0 rn, q7.row0 rv, q8.row0 rn, q8.row0 rv, q9.row0 rn, q9.row0 rv, q10.row0 rn, q10.row0 rv]
      refine (ans_CtrCut (rd_row (hk10.own0 ho5) (rowB_len _) (.inl rfl)) va va (rd_row ho6 (rowB_len _) (.inl rfl)) _).mono ?_
      rintro _ m11 ⟨rfl, hk11⟩
      have q11 := q10.trans hk11
      simp -implicitDefEqProofs (disch := (first | omega | (simp only [lenB, rowB_len] <;> omega) | fail)) only [admQ, lenB, rowB_len, aFill, ↓reduceIte, reduceCtorEq, if_true, if_false, Nat.reduceAdd, Nat.reduceEqDiff, Nat.reduceMod, Nat.reduceLT, Nat.reduceLeDiff, Nat.reduceSub, Nat.reduceMul, Nat.reduceBEq, Int.reduceAdd, Int.reduceSub, Int.reduceMul, Int.reduceNeg, Int.reduceLT, Int.reduceLE, Int.reduceToNat, Int.reduceEq, Int.reduceBEq, hva, hvb, hnn, hk2.row0 rn, hk2.row0 rv, q3.row0 rn, q3.row0 rv, q4.row0 rn, q4.row0 rv, q5.row0 rn, q5.row0 rv, q6.row0 rn, q6.row0 rv, q7.row0 rn, q7.row0 rv, q8.row0 rn, q8.row0 rv, q9.row0 rn, q9.row0 rv, q10.row0 rn, q10.row0 rv, q11.row0 rn, q11.row0 rv]
      exact hX2 (k + 1) _ _ rfl (by omega) ⟨by omega, q11⟩
    · simp -implicitDefEqProofs (disch := (first | omega | (simp only [lenB, rowB_len] <;> omega) | fail)) only [admQ, lenB, rowB_len, aFill, ↓reduceIte, reduceCtorEq, if_true, if_false, Nat.reduceAdd, Nat.reduceEqDiff, Nat.reduceMod, Nat.reduceLT, Nat.reduceLeDiff, Nat.reduceSub, Nat.reduceMul, Nat.reduceBEq, Int.reduceAdd, Int.reduceSub, Int.reduceMul, Int.reduceNeg, Int.reduceLT, Int.reduceLE, Int.reduceToNat, Int.reduceEq, Int.reduceBEq]
      exact hX (i + 1) _ _ rfl (by omega) ⟨by omega, hk2⟩
  · simp -implicitDefEqProofs (disch := (first | omega | (simp only [lenB, rowB_len] <;> omega) | fail)) only [admQ, lenB, rowB_len, aFill, ↓reduceIte, reduceCtorEq, if_true, if_false, Nat.reduceAdd, Nat.reduceEqDiff, Nat.reduceMod, Nat.reduceLT, Nat.reduceLeDiff, Nat.reduceSub, Nat.reduceMul, Nat.reduceBEq, Int.reduceAdd, Int.reduceSub, Int.reduceMul, Int.reduceNeg, Int.reduceLT, Int.reduceLE, Int.reduceToNat, Int.reduceEq, Int.reduceBEq]
    refine (ans_ctrworks _).mono ?_
    rintro _ m10 ⟨rfl, hk10⟩
    simp -implicitDefEqProofs (disch := (first | omega | (simp only [lenB, rowB_len] <;> omega) | fail)) only [admQ, lenB, rowB_len, aFill, ↓reduceIte, reduceCtorEq, if_true, if_false, Nat.reduceAdd, Nat.reduceEqDiff, Nat.reduceMod, Nat.reduceLT, Nat.reduceLeDiff, Nat.reduceSub, Nat.reduceMul, Nat.reduceBEq, Int.reduceAdd, Int.reduceSub, Int.reduceMul, Int.reduceNeg, Int.reduceLT, Int.reduceLE, Int.reduceToNat, Int.reduceEq, Int.reduceBEq]
    exact (hk0.trans hk1).trans hk10
end Go.Proofs.Ythdkclkiegkabaa
