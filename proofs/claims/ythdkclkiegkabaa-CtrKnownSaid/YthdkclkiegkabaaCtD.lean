/- Bytes turned by a stream: the statements. -/
import Derived.Test.YthdkclkiegkabaaCtB
import Derived.Test.YthdkclkiegkabaaCtC
namespace Go.Proofs.Ythdkclkiegkabaa
open Go Go.Adm
set_option linter.unusedSimpArgs false
set_option maxRecDepth 100000
set_option maxHeartbeats 1000000
theorem rd_row {m : Mem} {p n s : Nat} {l : List B8} (h : own m p = some (bys l)) (hl : l.length = n) (hs : s = 0 ∨ s = 1) : RdB m (.sl p 0 n n s) l := by
  have := RdB.row (l := l) n s (rowOf_own h) (by omega) hs
  rwa [hl] at this
theorem ans_CtrTurns {m : Mem} {x y : AV} {key b : List B8} (hx : RdB m x key) (e n : Int) (hy : RdB m y b) : Ans Try.prog 3 [x, .int .i64 e, .int .i64 n, y] m fun r m' => r = .bool true ∧ Kept [] m m' := by
  refine ans_ret mixed ok3 ?_
  simp -implicitDefEqProofs (disch := (first | omega | (simp only [lenB, xorB_len, rowB_len, lent_len] <;> omega) | fail)) only [admQ, lenB, xorB_len, rowB_len, lent_len, aFill, ↓reduceIte, reduceCtorEq, if_true, if_false, Nat.reduceAdd, Nat.reduceEqDiff, Nat.reduceMod, Nat.reduceLT, Nat.reduceLeDiff, Nat.reduceSub, Nat.reduceMul, Nat.reduceBEq, Int.reduceAdd, Int.reduceSub, Int.reduceMul, Int.reduceNeg, Int.reduceLT, Int.reduceLE, Int.reduceToNat, Int.reduceEq, Int.reduceBEq, c3, r3]
  by_cases hok : keyOk key.length
  · refine (ans_new hx hok).mono ?_
    rintro _ m1 ⟨c, kb, rfl, hk1, hc1, hkb1, hci⟩
    simp -implicitDefEqProofs (disch := (first | omega | (simp only [lenB, xorB_len, rowB_len, lent_len] <;> omega) | fail)) only [admQ, lenB, xorB_len, rowB_len, lent_len, aFill, ↓reduceIte, reduceCtorEq, if_true, if_false, Nat.reduceAdd, Nat.reduceEqDiff, Nat.reduceMod, Nat.reduceLT, Nat.reduceLeDiff, Nat.reduceSub, Nat.reduceMul, Nat.reduceBEq, Int.reduceAdd, Int.reduceSub, Int.reduceMul, Int.reduceNeg, Int.reduceLT, Int.reduceLE, Int.reduceToNat, Int.reduceEq, Int.reduceBEq]
    refine (ans_rnew (hx.kept0 hk1) hok).mono ?_
    rintro _ m2 ⟨d, rfl, hk2, hd, hcr⟩
    have hcr := hcr m2 (fun _ _ _ => rfl)
    have hci := hci.kept hk2 (by simp) (by simp)
    have hk := hk1.trans hk2
    have hy2 := hy.kept0 hk
    clear hk1 hk2
    generalize expand key = E at *
    generalize key.length / 4 + 7 = N at *
    by_cases hbig : (b.length : Int) > 8192
    · simp -implicitDefEqProofs (disch := (first | omega | (simp only [lenB, xorB_len, rowB_len, lent_len] <;> omega) | fail)) only [admQ, lenB, xorB_len, rowB_len, lent_len, aFill, ↓reduceIte, reduceCtorEq, if_true, if_false, Nat.reduceAdd, Nat.reduceEqDiff, Nat.reduceMod, Nat.reduceLT, Nat.reduceLeDiff, Nat.reduceSub, Nat.reduceMul, Nat.reduceBEq, Int.reduceAdd, Int.reduceSub, Int.reduceMul, Int.reduceNeg, Int.reduceLT, Int.reduceLE, Int.reduceToNat, Int.reduceEq, Int.reduceBEq, hy2.len, dec_t]
      refine (ans_ctrworks _).mono ?_
      rintro _ m3 ⟨rfl, hk3⟩
      simp -implicitDefEqProofs (disch := (first | omega | (simp only [lenB, xorB_len, rowB_len, lent_len] <;> omega) | fail)) only [admQ, lenB, xorB_len, rowB_len, lent_len, aFill, ↓reduceIte, reduceCtorEq, if_true, if_false, Nat.reduceAdd, Nat.reduceEqDiff, Nat.reduceMod, Nat.reduceLT, Nat.reduceLeDiff, Nat.reduceSub, Nat.reduceMul, Nat.reduceBEq, Int.reduceAdd, Int.reduceSub, Int.reduceMul, Int.reduceNeg, Int.reduceLT, Int.reduceLE, Int.reduceToNat, Int.reduceEq, Int.reduceBEq]
      exact hk.trans hk3
    · simp -implicitDefEqProofs (disch := (first | omega | (simp only [lenB, xorB_len, rowB_len, lent_len] <;> omega) | fail)) only [admQ, lenB, xorB_len, rowB_len, lent_len, aFill, ↓reduceIte, reduceCtorEq, if_true, if_false, Nat.reduceAdd, Nat.reduceEqDiff, Nat.reduceMod, Nat.reduceLT, Nat.reduceLeDiff, Nat.reduceSub, Nat.reduceMul, Nat.reduceBEq, Int.reduceAdd, Int.reduceSub, Int.reduceMul, Int.reduceNeg, Int.reduceLT, Int.reduceLE, Int.reduceToNat, Int.reduceEq, Int.reduceBEq, hy2.len, dec_f]
      refine (ans_lentbytes hy2 (by omega)).mono ?_
      rintro _ m3 ⟨p, rfl, hk3, hp, ho⟩
      have hall := rd_row ho (lent_len b) (.inl rfl)
      have hsub : RdB m3 (.sl p 0 b.length (b.length + 5) 0) b := by
        have := hall.take (k := b.length) (by omega)
        rwa [lent_take] at this
      simp -implicitDefEqProofs (disch := (first | omega | (simp only [lenB, xorB_len, rowB_len, lent_len] <;> omega) | fail)) only [admQ, lenB, xorB_len, rowB_len, lent_len, aFill, ↓reduceIte, reduceCtorEq, if_true, if_false, Nat.reduceAdd, Nat.reduceEqDiff, Nat.reduceMod, Nat.reduceLT, Nat.reduceLeDiff, Nat.reduceSub, Nat.reduceMul, Nat.reduceBEq, Int.reduceAdd, Int.reduceSub, Int.reduceMul, Int.reduceNeg, Int.reduceLT, Int.reduceLE, Int.reduceToNat, Int.reduceEq, Int.reduceBEq, hy.len]
      refine (ans_ctrxor (hci.kept hk3 (by simp) (by simp)) e n hsub (by omega)).mono ?_
      rintro _ m4 ⟨p1, rfl, hk4, hp1, ho1⟩
      simp -implicitDefEqProofs (disch := (first | omega | (simp only [lenB, xorB_len, rowB_len, lent_len] <;> omega) | fail)) only [admQ, lenB, xorB_len, rowB_len, lent_len, aFill, ↓reduceIte, reduceCtorEq, if_true, if_false, Nat.reduceAdd, Nat.reduceEqDiff, Nat.reduceMod, Nat.reduceLT, Nat.reduceLeDiff, Nat.reduceSub, Nat.reduceMul, Nat.reduceBEq, Int.reduceAdd, Int.reduceSub, Int.reduceMul, Int.reduceNeg, Int.reduceLT, Int.reduceLE, Int.reduceToNat, Int.reduceEq, Int.reduceBEq, hy.len]
      refine (ans_ctrxor ((hci.kept hk3 (by simp) (by simp)).kept hk4 (by simp) (by simp)) e n (hsub.kept0 hk4) (by omega)).mono ?_
      rintro _ m5 ⟨p2, rfl, hk5, hp2, ho2⟩
      simp -implicitDefEqProofs (disch := (first | omega | (simp only [lenB, xorB_len, rowB_len, lent_len] <;> omega) | fail)) only [admQ, lenB, xorB_len, rowB_len, lent_len, aFill, ↓reduceIte, reduceCtorEq, if_true, if_false, Nat.reduceAdd, Nat.reduceEqDiff, Nat.reduceMod, Nat.reduceLT, Nat.reduceLeDiff, Nat.reduceSub, Nat.reduceMul, Nat.reduceBEq, Int.reduceAdd, Int.reduceSub, Int.reduceMul, Int.reduceNeg, Int.reduceLT, Int.reduceLE, Int.reduceToNat, Int.reduceEq, Int.reduceBEq]
      refine (ans_rctrxor (((hcr.kept0 hk3).kept0 hk4).kept0 hk5) e n (((hy2.kept0 hk3).kept0 hk4).kept0 hk5) (by omega)).mono ?_
      rintro w m6 ⟨hk6, hw⟩
      have hxl := xorB_len E N (e64 e) (e64 n) b
      generalize xorB E N (e64 e) (e64 n) b = X at *
      simp -implicitDefEqProofs (disch := (first | omega | (simp only [lenB, xorB_len, rowB_len, lent_len] <;> omega) | fail)) only [admQ, lenB, xorB_len, rowB_len, lent_len, aFill, ↓reduceIte, reduceCtorEq, if_true, if_false, Nat.reduceAdd, Nat.reduceEqDiff, Nat.reduceMod, Nat.reduceLT, Nat.reduceLeDiff, Nat.reduceSub, Nat.reduceMul, Nat.reduceBEq, Int.reduceAdd, Int.reduceSub, Int.reduceMul, Int.reduceNeg, Int.reduceLT, Int.reduceLE, Int.reduceToNat, Int.reduceEq, Int.reduceBEq]
      have ho16 := (hk5.trans hk6).own0 ho1
      have ho26 := hk6.own0 ho2
      refine (ans_samebytes (rd_row ho16 hxl (.inl rfl)) hw.rd (by omega)).mono ?_
      rintro _ m7 ⟨rfl, rfl⟩
      rw [beq_self_eq_true]
      simp -implicitDefEqProofs (disch := (first | omega | (simp only [lenB, xorB_len, rowB_len, lent_len] <;> omega) | fail)) only [admQ, lenB, xorB_len, rowB_len, lent_len, aFill, ↓reduceIte, reduceCtorEq, if_true, if_false, Nat.reduceAdd, Nat.reduceEqDiff, Nat.reduceMod, Nat.reduceLT, Nat.reduceLeDiff, Nat.reduceSub, Nat.reduceMul, Nat.reduceBEq, Int.reduceAdd, Int.reduceSub, Int.reduceMul, Int.reduceNeg, Int.reduceLT, Int.reduceLE, Int.reduceToNat, Int.reduceEq, Int.reduceBEq]
      have hsp := ans_spoilbytes (cap := X.length) (s := 0) ho16 (by omega)
      rw [hxl] at hsp
      refine hsp.mono ?_
      rintro _ m8 ⟨rfl, hm8⟩
      have hk8 : Kept [p1] m7 m8 := by rw [hm8]; exact .set1 _ _ _
      have l1 := own_lt ho1
      have l3 := hk3.len
      have l4 := hk4.len
      have l5 := hk5.len
      have lp := own_lt ho
      have ho28 := hk8.own ho26 (by simp; omega)
      have hw8 : RdB m8 w X := by
        rcases hw with ⟨h0, rfl | ⟨b', rfl, hb'⟩⟩ | ⟨b', n', h1, h2, rfl, h4, h5⟩
        · rw [show X = [] by simpa using h0]; exact .nils _
        · rw [show X = [] by simpa using h0]
          obtain ⟨z, hz⟩ : ∃ z, rowOf m8 b' = some z := by
            by_cases hq : p1 = b'
            · subst hq; rw [hm8]; exact ⟨_, rowOf_set (own_lt hb') _ _⟩
            · rw [hm8, rowOf_set_ne hq]; exact ⟨_, rowOf_own hb'⟩
          exact .inr ⟨b', 0, 0, 0, z, rfl, hz, by simp, by simp, by simp, .inl rfl⟩
        · have e : X.length = n' := by simpa using h2
          have := RdB.row (l := X) n' 1 (rowOf_own (hk8.own h4 (by simp; omega))) (by omega)
          rwa [e] at this
      simp -implicitDefEqProofs (disch := (first | omega | (simp only [lenB, xorB_len, rowB_len, lent_len] <;> omega) | fail)) only [admQ, lenB, xorB_len, rowB_len, lent_len, aFill, ↓reduceIte, reduceCtorEq, if_true, if_false, Nat.reduceAdd, Nat.reduceEqDiff, Nat.reduceMod, Nat.reduceLT, Nat.reduceLeDiff, Nat.reduceSub, Nat.reduceMul, Nat.reduceBEq, Int.reduceAdd, Int.reduceSub, Int.reduceMul, Int.reduceNeg, Int.reduceLT, Int.reduceLE, Int.reduceToNat, Int.reduceEq, Int.reduceBEq]
      refine (ans_samebytes (rd_row ho28 hxl (.inl rfl)) hw8 (by omega)).mono ?_
      rintro _ m9 ⟨rfl, rfl⟩
      rw [beq_self_eq_true]
      simp -implicitDefEqProofs (disch := (first | omega | (simp only [lenB, xorB_len, rowB_len, lent_len] <;> omega) | fail)) only [admQ, lenB, xorB_len, rowB_len, lent_len, aFill, ↓reduceIte, reduceCtorEq, if_true, if_false, Nat.reduceAdd, Nat.reduceEqDiff, Nat.reduceMod, Nat.reduceLT, Nat.reduceLeDiff, Nat.reduceSub, Nat.reduceMul, Nat.reduceBEq, Int.reduceAdd, Int.reduceSub, Int.reduceMul, Int.reduceNeg, Int.reduceLT, Int.reduceLE, Int.reduceToNat, Int.reduceEq, Int.reduceBEq]
      have hall9 := (((hall.kept0 hk4).kept0 hk5).kept0 hk6).kept hk8 (fun b o n cap s he => by cases he; simp; omega)
      refine (ans_keptbytes (l := b) hall9 ?_ (by omega)).mono ?_
      · exact hy2.kept0 (((((hk3.trans hk4).trans hk5).trans hk6)).fresh hk8 (by simp; omega))
      · rintro _ m10 ⟨rfl, rfl⟩
        rw [beq_self_eq_true]
        simp -implicitDefEqProofs (disch := (first | omega | (simp only [lenB, xorB_len, rowB_len, lent_len] <;> omega) | fail)) only [admQ, lenB, xorB_len, rowB_len, lent_len, aFill, ↓reduceIte, reduceCtorEq, if_true, if_false, Nat.reduceAdd, Nat.reduceEqDiff, Nat.reduceMod, Nat.reduceLT, Nat.reduceLeDiff, Nat.reduceSub, Nat.reduceMul, Nat.reduceBEq, Int.reduceAdd, Int.reduceSub, Int.reduceMul, Int.reduceNeg, Int.reduceLT, Int.reduceLE, Int.reduceToNat, Int.reduceEq, Int.reduceBEq]
        refine (ans_ctrworks _).mono ?_
        rintro _ m11 ⟨rfl, hk11⟩
        simp -implicitDefEqProofs (disch := (first | omega | (simp only [lenB, xorB_len, rowB_len, lent_len] <;> omega) | fail)) only [admQ, lenB, xorB_len, rowB_len, lent_len, aFill, ↓reduceIte, reduceCtorEq, if_true, if_false, Nat.reduceAdd, Nat.reduceEqDiff, Nat.reduceMod, Nat.reduceLT, Nat.reduceLeDiff, Nat.reduceSub, Nat.reduceMul, Nat.reduceBEq, Int.reduceAdd, Int.reduceSub, Int.reduceMul, Int.reduceNeg, Int.reduceLT, Int.reduceLE, Int.reduceToNat, Int.reduceEq, Int.reduceBEq]
        exact (hk.trans (((((hk3.trans hk4).trans hk5).trans hk6)).fresh hk8 (by simp; omega))).trans hk11
  · refine (ans_new_no hx hok).mono ?_
    rintro _ m1 ⟨rfl, rfl⟩
    simp -implicitDefEqProofs (disch := (first | omega | (simp only [lenB, xorB_len, rowB_len, lent_len] <;> omega) | fail)) only [admQ, lenB, xorB_len, rowB_len, lent_len, aFill, ↓reduceIte, reduceCtorEq, if_true, if_false, Nat.reduceAdd, Nat.reduceEqDiff, Nat.reduceMod, Nat.reduceLT, Nat.reduceLeDiff, Nat.reduceSub, Nat.reduceMul, Nat.reduceBEq, Int.reduceAdd, Int.reduceSub, Int.reduceMul, Int.reduceNeg, Int.reduceLT, Int.reduceLE, Int.reduceToNat, Int.reduceEq, Int.reduceBEq]
    refine (ans_rnew_no hx hok).mono ?_
    rintro _ m2 ⟨rfl, rfl⟩
    simp -implicitDefEqProofs (disch := (first | omega | (simp only [lenB, xorB_len, rowB_len, lent_len] <;> omega) | fail)) only [admQ, lenB, xorB_len, rowB_len, lent_len, aFill, ↓reduceIte, reduceCtorEq, if_true, if_false, Nat.reduceAdd, Nat.reduceEqDiff, Nat.reduceMod, Nat.reduceLT, Nat.reduceLeDiff, Nat.reduceSub, Nat.reduceMul, Nat.reduceBEq, Int.reduceAdd, Int.reduceSub, Int.reduceMul, Int.reduceNeg, Int.reduceLT, Int.reduceLE, Int.reduceToNat, Int.reduceEq, Int.reduceBEq]
    refine (ans_ctrworks _).mono ?_
    rintro _ m3 ⟨rfl, hk3⟩
    simp -implicitDefEqProofs (disch := (first | omega | (simp only [lenB, xorB_len, rowB_len, lent_len] <;> omega) | fail)) only [admQ, lenB, xorB_len, rowB_len, lent_len, aFill, ↓reduceIte, reduceCtorEq, if_true, if_false, Nat.reduceAdd, Nat.reduceEqDiff, Nat.reduceMod, Nat.reduceLT, Nat.reduceLeDiff, Nat.reduceSub, Nat.reduceMul, Nat.reduceBEq, Int.reduceAdd, Int.reduceSub, Int.reduceMul, Int.reduceNeg, Int.reduceLT, Int.reduceLE, Int.reduceToNat, Int.reduceEq, Int.reduceBEq]
    exact hk3

theorem xor_xor (E : List B8) (N e n : Nat) (b : List B8) : xorB E N e n (xorB E N e n b) = b := by
  apply gb_ext
  · rw [xorB_len, xorB_len]
  · intro i hi
    rw [xorB_len, xorB_len] at hi
    rw [xorB, gb_tab _ (by rw [xorB_len]; exact hi), xorB, gb_tab _ hi, BitVec.xor_assoc, BitVec.xor_self, BitVec.xor_zero]
theorem xor_zeros (E : List B8) (N e n k : Nat) {i : Nat} (hi : i < k) : gb (xorB E N e n (List.replicate k 0#8)) i = ksAt E N e n i := by
  rw [xorB, gb_tab _ (by simpa using hi), show gb (List.replicate k 0#8) i = 0#8 by rw [← tab_const, gb_tab _ hi], BitVec.zero_xor]
theorem xor_gb (E : List B8) (N e n : Nat) {b : List B8} {i : Nat} (hi : i < b.length) : gb (xorB E N e n b) i = gb b i ^^^ ksAt E N e n i := by rw [xorB, gb_tab _ hi]
theorem ans_CtrBack {m : Mem} {x y : AV} {key b : List B8} (hx : RdB m x key) (e n : Int) (hy : RdB m y b) : Ans Try.prog 4 [x, .int .i64 e, .int .i64 n, y] m fun r m' => r = .bool true ∧ Kept [] m m' := by
  refine ans_ret mixed ok4 ?_
  simp -implicitDefEqProofs (disch := (first | omega | (simp only [lenB, xorB_len, rowB_len, lent_len] <;> omega) | fail)) only [admQ, lenB, xorB_len, rowB_len, lent_len, aFill, ↓reduceIte, reduceCtorEq, if_true, if_false, Nat.reduceAdd, Nat.reduceEqDiff, Nat.reduceMod, Nat.reduceLT, Nat.reduceLeDiff, Nat.reduceSub, Nat.reduceMul, Nat.reduceBEq, Int.reduceAdd, Int.reduceSub, Int.reduceMul, Int.reduceNeg, Int.reduceLT, Int.reduceLE, Int.reduceToNat, Int.reduceEq, Int.reduceBEq, c4, r4]
  by_cases hok : keyOk key.length
  · refine (ans_new hx hok).mono ?_
    rintro _ m1 ⟨c, kb, rfl, hk, hc1, hkb1, hci⟩
    have hy1 := hy.kept0 hk
    generalize expand key = E at *
    generalize key.length / 4 + 7 = N at *
    by_cases hbig : (b.length : Int) > 8192
    · simp -implicitDefEqProofs (disch := (first | omega | (simp only [lenB, xorB_len, rowB_len, lent_len] <;> omega) | fail)) only [admQ, lenB, xorB_len, rowB_len, lent_len, aFill, ↓reduceIte, reduceCtorEq, if_true, if_false, Nat.reduceAdd, Nat.reduceEqDiff, Nat.reduceMod, Nat.reduceLT, Nat.reduceLeDiff, Nat.reduceSub, Nat.reduceMul, Nat.reduceBEq, Int.reduceAdd, Int.reduceSub, Int.reduceMul, Int.reduceNeg, Int.reduceLT, Int.reduceLE, Int.reduceToNat, Int.reduceEq, Int.reduceBEq, hy1.len, dec_t]
      refine (ans_ctrworks _).mono ?_
      rintro _ m3 ⟨rfl, hk3⟩
      simp -implicitDefEqProofs (disch := (first | omega | (simp only [lenB, xorB_len, rowB_len, lent_len] <;> omega) | fail)) only [admQ, lenB, xorB_len, rowB_len, lent_len, aFill, ↓reduceIte, reduceCtorEq, if_true, if_false, Nat.reduceAdd, Nat.reduceEqDiff, Nat.reduceMod, Nat.reduceLT, Nat.reduceLeDiff, Nat.reduceSub, Nat.reduceMul, Nat.reduceBEq, Int.reduceAdd, Int.reduceSub, Int.reduceMul, Int.reduceNeg, Int.reduceLT, Int.reduceLE, Int.reduceToNat, Int.reduceEq, Int.reduceBEq]
      exact hk.trans hk3
    · simp -implicitDefEqProofs (disch := (first | omega | (simp only [lenB, xorB_len, rowB_len, lent_len] <;> omega) | fail)) only [admQ, lenB, xorB_len, rowB_len, lent_len, aFill, ↓reduceIte, reduceCtorEq, if_true, if_false, Nat.reduceAdd, Nat.reduceEqDiff, Nat.reduceMod, Nat.reduceLT, Nat.reduceLeDiff, Nat.reduceSub, Nat.reduceMul, Nat.reduceBEq, Int.reduceAdd, Int.reduceSub, Int.reduceMul, Int.reduceNeg, Int.reduceLT, Int.reduceLE, Int.reduceToNat, Int.reduceEq, Int.reduceBEq, hy1.len, dec_f]
      refine (ans_ctrxor hci e n hy1 (by omega)).mono ?_
      rintro _ m2 ⟨p1, rfl, hk2, hp1, ho1⟩
      have hmk : (0 : Int) ≤ (b.length : Int) ∧ (b.length : Int) ≤ (b.length : Int) ∧ (b.length : Int) * 1 ≤ 1099511627776 ∧ (b.length : Int) ≤ 1099511627776 := by omega
      have hr : rep b.length [AV.int .u8 0] = bys (List.replicate b.length 0#8) := by rw [← bys_rep]; simp [rep]
      have hX := xorB_len E N (e64 e) (e64 n) b
      have hci2 := hci.kept hk2 (by simp) (by simp)
      simp -implicitDefEqProofs (disch := (first | omega | (simp only [lenB, xorB_len, rowB_len, lent_len] <;> omega) | fail)) only [admQ, lenB, xorB_len, rowB_len, lent_len, aFill, ↓reduceIte, reduceCtorEq, if_true, if_false, Nat.reduceAdd, Nat.reduceEqDiff, Nat.reduceMod, Nat.reduceLT, Nat.reduceLeDiff, Nat.reduceSub, Nat.reduceMul, Nat.reduceBEq, Int.reduceAdd, Int.reduceSub, Int.reduceMul, Int.reduceNeg, Int.reduceLT, Int.reduceLE, Int.reduceToNat, Int.reduceEq, Int.reduceBEq, hy1.len, hr]
      have hzr : RdB (m2 ++ [.row (bys (List.replicate b.length 0#8)) false]) (.sl m2.length 0 b.length b.length 0) (List.replicate b.length 0#8) := rd_row (by simp -implicitDefEqProofs (disch := (first | omega | (simp only [lenB, xorB_len, rowB_len, lent_len] <;> omega) | fail)) only [admQ, lenB, xorB_len, rowB_len, lent_len, aFill, ↓reduceIte, reduceCtorEq, if_true, if_false, Nat.reduceAdd, Nat.reduceEqDiff, Nat.reduceMod, Nat.reduceLT, Nat.reduceLeDiff, Nat.reduceSub, Nat.reduceMul, Nat.reduceBEq, Int.reduceAdd, Int.reduceSub, Int.reduceMul, Int.reduceNeg, Int.reduceLT, Int.reduceLE, Int.reduceToNat, Int.reduceEq, Int.reduceBEq]) (by simp) (.inl rfl)
      refine (ans_ctrxor (hci2.app _) e n hzr (by simp; omega)).mono ?_
      rintro _ m3 ⟨p2, rfl, hk3, hp2, ho2⟩
      have hk23 := (Kept.app [] m2 [.row (bys (List.replicate b.length 0#8)) false]).trans hk3
      have hci3 := (hci2.app [.row (bys (List.replicate b.length 0#8)) false]).kept hk3 (by simp) (by simp)
      have hS := xorB_len E N (e64 e) (e64 n) (List.replicate b.length 0#8)
      rw [List.length_replicate] at hS
      have ho13 := hk23.own0 ho1
      have r1 := rd_row ho13 hX (.inl rfl)
      have hy3 := (hy1.kept0 hk2).kept0 hk23
      simp -implicitDefEqProofs (disch := (first | omega | (simp only [lenB, xorB_len, rowB_len, lent_len] <;> omega) | fail)) only [admQ, lenB, xorB_len, rowB_len, lent_len, aFill, ↓reduceIte, reduceCtorEq, if_true, if_false, Nat.reduceAdd, Nat.reduceEqDiff, Nat.reduceMod, Nat.reduceLT, Nat.reduceLeDiff, Nat.reduceSub, Nat.reduceMul, Nat.reduceBEq, Int.reduceAdd, Int.reduceSub, Int.reduceMul, Int.reduceNeg, Int.reduceLT, Int.reduceLE, Int.reduceToNat, Int.reduceEq, Int.reduceBEq, hy1.len]
      refine (ans_ctrxor hci3 e n r1 (by omega)).mono ?_
      rintro _ m4 ⟨p3, rfl, hk4, hp3, ho3⟩
      rw [xor_xor] at ho3
      rw [hX]
      simp -implicitDefEqProofs (disch := (first | omega | (simp only [lenB, xorB_len, rowB_len, lent_len] <;> omega) | fail)) only [admQ, lenB, xorB_len, rowB_len, lent_len, aFill, ↓reduceIte, reduceCtorEq, if_true, if_false, Nat.reduceAdd, Nat.reduceEqDiff, Nat.reduceMod, Nat.reduceLT, Nat.reduceLeDiff, Nat.reduceSub, Nat.reduceMul, Nat.reduceBEq, Int.reduceAdd, Int.reduceSub, Int.reduceMul, Int.reduceNeg, Int.reduceLT, Int.reduceLE, Int.reduceToNat, Int.reduceEq, Int.reduceBEq]
      refine (ans_samebytes (rd_row ho3 rfl (.inl rfl)) (hy3.kept0 hk4) (by omega)).mono ?_
      rintro _ m5 ⟨rfl, rfl⟩
      rw [beq_self_eq_true]
      have hy5 := hy3.kept0 hk4
      have ho15 := rowOf_own (hk4.own0 ho13)
      have ho25 := rowOf_own (hk4.own0 ho2)
      have hgx : ∀ i, i < b.length → gb (xorB E N (e64 e) (e64 n) b) i = gb b i ^^^ gb (xorB E N (e64 e) (e64 n) (List.replicate b.length 0#8)) i := fun i hi => by rw [xor_zeros _ _ _ _ _ hi, xor_gb _ _ _ _ hi]
      generalize xorB E N (e64 e) (e64 n) b = X at *
      generalize xorB E N (e64 e) (e64 n) (List.replicate b.length 0#8) = Z at *
      simp -implicitDefEqProofs (disch := (first | omega | (simp only [lenB, xorB_len, rowB_len, lent_len] <;> omega) | fail)) only [admQ, lenB, xorB_len, rowB_len, lent_len, aFill, ↓reduceIte, reduceCtorEq, if_true, if_false, Nat.reduceAdd, Nat.reduceEqDiff, Nat.reduceMod, Nat.reduceLT, Nat.reduceLeDiff, Nat.reduceSub, Nat.reduceMul, Nat.reduceBEq, Int.reduceAdd, Int.reduceSub, Int.reduceMul, Int.reduceNeg, Int.reduceLT, Int.reduceLE, Int.reduceToNat, Int.reduceEq, Int.reduceBEq]
      refine LoopW.on (fun i : Nat => [(3, y), (11, .sl p1 0 b.length b.length 0), (12, .sl p2 0 b.length b.length 0), (13, .int .i64 i)]) (fun i => b.length - i) (fun i m' => i ≤ b.length ∧ m' = m5) ?_ 0 _ _ rfl ⟨by omega, rfl⟩
      rintro i m' Y ⟨hi, rfl⟩ hY
      by_cases hlt : i < b.length
      · obtain ⟨b1, o1, cap1, s1, d1, rfl, hr1, hg1, hl1, hc1, hs1, ht1⟩ := hy5.cons hlt
        have e1 := hg1 i hlt
        have e2 := hgx i hlt
        simp -implicitDefEqProofs (disch := (first | omega | (simp only [lenB, xorB_len, rowB_len, lent_len] <;> omega) | fail)) only [admQ, lenB, xorB_len, rowB_len, lent_len, aFill, ↓reduceIte, reduceCtorEq, if_true, if_false, Nat.reduceAdd, Nat.reduceEqDiff, Nat.reduceMod, Nat.reduceLT, Nat.reduceLeDiff, Nat.reduceSub, Nat.reduceMul, Nat.reduceBEq, Int.reduceAdd, Int.reduceSub, Int.reduceMul, Int.reduceNeg, Int.reduceLT, Int.reduceLE, Int.reduceToNat, Int.reduceEq, Int.reduceBEq, hr1, e1, ho15, ho25, e2]
        exact hY (i + 1) _ _ rfl (by omega) ⟨by omega, rfl⟩
      · simp -implicitDefEqProofs (disch := (first | omega | (simp only [lenB, xorB_len, rowB_len, lent_len] <;> omega) | fail)) only [admQ, lenB, xorB_len, rowB_len, lent_len, aFill, ↓reduceIte, reduceCtorEq, if_true, if_false, Nat.reduceAdd, Nat.reduceEqDiff, Nat.reduceMod, Nat.reduceLT, Nat.reduceLeDiff, Nat.reduceSub, Nat.reduceMul, Nat.reduceBEq, Int.reduceAdd, Int.reduceSub, Int.reduceMul, Int.reduceNeg, Int.reduceLT, Int.reduceLE, Int.reduceToNat, Int.reduceEq, Int.reduceBEq, hy5.len]
        refine (ans_ctrworks _).mono ?_
        rintro _ m6 ⟨rfl, hk6⟩
        simp -implicitDefEqProofs (disch := (first | omega | (simp only [lenB, xorB_len, rowB_len, lent_len] <;> omega) | fail)) only [admQ, lenB, xorB_len, rowB_len, lent_len, aFill, ↓reduceIte, reduceCtorEq, if_true, if_false, Nat.reduceAdd, Nat.reduceEqDiff, Nat.reduceMod, Nat.reduceLT, Nat.reduceLeDiff, Nat.reduceSub, Nat.reduceMul, Nat.reduceBEq, Int.reduceAdd, Int.reduceSub, Int.reduceMul, Int.reduceNeg, Int.reduceLT, Int.reduceLE, Int.reduceToNat, Int.reduceEq, Int.reduceBEq]
        exact ((hk.trans hk2).trans (hk23.trans hk4)).trans hk6
  · refine (ans_new_no hx hok).mono ?_
    rintro _ m1 ⟨rfl, rfl⟩
    simp -implicitDefEqProofs (disch := (first | omega | (simp only [lenB, xorB_len, rowB_len, lent_len] <;> omega) | fail)) only [admQ, lenB, xorB_len, rowB_len, lent_len, aFill, ↓reduceIte, reduceCtorEq, if_true, if_false, Nat.reduceAdd, Nat.reduceEqDiff, Nat.reduceMod, Nat.reduceLT, Nat.reduceLeDiff, Nat.reduceSub, Nat.reduceMul, Nat.reduceBEq, Int.reduceAdd, Int.reduceSub, Int.reduceMul, Int.reduceNeg, Int.reduceLT, Int.reduceLE, Int.reduceToNat, Int.reduceEq, Int.reduceBEq]
    refine (ans_ctrworks _).mono ?_
    rintro _ m3 ⟨rfl, hk3⟩
    simp -implicitDefEqProofs (disch := (first | omega | (simp only [lenB, xorB_len, rowB_len, lent_len] <;> omega) | fail)) only [admQ, lenB, xorB_len, rowB_len, lent_len, aFill, ↓reduceIte, reduceCtorEq, if_true, if_false, Nat.reduceAdd, Nat.reduceEqDiff, Nat.reduceMod, Nat.reduceLT, Nat.reduceLeDiff, Nat.reduceSub, Nat.reduceMul, Nat.reduceBEq, Int.reduceAdd, Int.reduceSub, Int.reduceMul, Int.reduceNeg, Int.reduceLT, Int.reduceLE, Int.reduceToNat, Int.reduceEq, Int.reduceBEq]
    exact hk3

/-- Only the lowest 48 bits count. -/
theorem low_bit {v : Int} {j k : Nat} (hj : j < 6) (hk : 48 ≤ k) (hk2 : k < 64) : byV (BitVec.ofInt 64 v ^^^ BitVec.ofNat 64 (2 ^ k)).toNat j = byV (e64 v) j := by
  apply BitVec.eq_of_getLsbD_eq
  intro t ht
  simp only [byV, e64, BitVec.getLsbD_ofNat, Nat.testBit_shiftRight, ht, decide_true, Bool.true_and]
  rw [BitVec.toNat_xor, Nat.testBit_xor, BitVec.toNat_ofNat, Nat.mod_eq_of_lt (Nat.pow_lt_pow_right (by decide) hk2), Nat.testBit_two_pow_of_ne (by omega), Bool.xor_false]
theorem e64_xor (v : Int) (k : Nat) (hk : k < 63) : IntKind.i64.wrap ((BitVec.ofInt IntKind.i64.bits v ^^^ BitVec.ofInt IntKind.i64.bits ((2 ^ k : Nat) : Int)).toNat : Int) = IntKind.i64.wrap ((BitVec.ofInt 64 v ^^^ BitVec.ofNat 64 (2 ^ k)).toNat : Int) := by
  rw [BitVec.ofInt_natCast]; rfl
theorem e64_wrapi (x : BitVec 64) : e64 (IntKind.i64.wrap (x.toNat : Int)) = x.toNat := by
  have h : (BitVec.ofInt 64 (IntKind.i64.wrap (x.toNat : Int))) = x := by
    apply BitVec.eq_of_toNat_eq
    rw [BitVec.toNat_ofInt]
    have e1 : (2 : Int) ^ IntKind.i64.bits = 18446744073709551616 := by decide
    have e2 : (2 : Int) ^ (IntKind.i64.bits - 1) = 9223372036854775808 := by decide
    have hx := x.isLt
    unfold IntKind.wrap
    simp only [e1, e2, IntKind.signed, Bool.true_and, decide_eq_true_eq, ge_iff_le]
    split <;> omega
  rw [e64, h]
theorem ctrIn_low {e e' n n' : Nat} (he : ∀ j, j < 6 → byV e' j = byV e j) (hn : ∀ j, j < 6 → byV n' j = byV n j) (i : Nat) : ctrIn e' n' i = ctrIn e n i := by
  have h1 : lowB e' 6 = lowB e 6 := tab_ext fun t ht => he _ (by omega)
  have h2 : lowB n' 6 = lowB n 6 := tab_ext fun t ht => hn _ (by omega)
  rw [ctrIn, ctrIn, h1, h2]
theorem xorB_low {E : List B8} {N e e' n n' : Nat} (he : ∀ j, j < 6 → byV e' j = byV e j) (hn : ∀ j, j < 6 → byV n' j = byV n j) (b : List B8) : xorB E N e' n' b = xorB E N e n b :=
  tab_ext fun i _ => by rw [ksAt, ksAt, ksB, ksB, ctrIn_low he hn]
theorem xorB_take (E : List B8) (N e n : Nat) (b : List B8) (k : Nat) : xorB E N e n (b.take k) = (xorB E N e n b).take k := by
  apply gb_ext
  · simp [xorB_len]
  · intro i hi
    rw [xorB_len] at hi
    have h2 : i < k ∧ i < b.length := by simp at hi; omega
    rw [xor_gb _ _ _ _ hi]
    simp only [gb, List.getD_eq_getElem?_getD, List.getElem?_take_of_lt h2.1]
    exact (xor_gb E N e n h2.2).symm
theorem ans_CtrCut {m : Mem} {x y : AV} {key b : List B8} (hx : RdB m x key) (e n : Int) (hy : RdB m y b) (k : Int) : Ans Try.prog 5 [x, .int .i64 e, .int .i64 n, y, .int .i64 k] m fun r m' => r = .bool true ∧ Kept [] m m' := by
  refine ans_ret mixed ok5 ?_
  simp -implicitDefEqProofs (disch := (first | omega | (simp only [lenB, xorB_len, rowB_len, lent_len] <;> omega) | fail)) only [admQ, lenB, xorB_len, rowB_len, lent_len, aFill, ↓reduceIte, reduceCtorEq, if_true, if_false, Nat.reduceAdd, Nat.reduceEqDiff, Nat.reduceMod, Nat.reduceLT, Nat.reduceLeDiff, Nat.reduceSub, Nat.reduceMul, Nat.reduceBEq, Int.reduceAdd, Int.reduceSub, Int.reduceMul, Int.reduceNeg, Int.reduceLT, Int.reduceLE, Int.reduceToNat, Int.reduceEq, Int.reduceBEq, c5, r5]
  by_cases hok : keyOk key.length
  · refine (ans_new hx hok).mono ?_
    rintro _ m1 ⟨c, kb, rfl, hk, hc1, hkb1, hci⟩
    have hy1 := hy.kept0 hk
    generalize expand key = E at *
    generalize key.length / 4 + 7 = N at *
    by_cases hbig : (b.length : Int) > 8192
    · simp -implicitDefEqProofs (disch := (first | omega | (simp only [lenB, xorB_len, rowB_len, lent_len] <;> omega) | fail)) only [admQ, lenB, xorB_len, rowB_len, lent_len, aFill, ↓reduceIte, reduceCtorEq, if_true, if_false, Nat.reduceAdd, Nat.reduceEqDiff, Nat.reduceMod, Nat.reduceLT, Nat.reduceLeDiff, Nat.reduceSub, Nat.reduceMul, Nat.reduceBEq, Int.reduceAdd, Int.reduceSub, Int.reduceMul, Int.reduceNeg, Int.reduceLT, Int.reduceLE, Int.reduceToNat, Int.reduceEq, Int.reduceBEq, hy1.len, dec_t]
      refine (ans_ctrworks _).mono ?_
      rintro _ m3 ⟨rfl, hk3⟩
      simp -implicitDefEqProofs (disch := (first | omega | (simp only [lenB, xorB_len, rowB_len, lent_len] <;> omega) | fail)) only [admQ, lenB, xorB_len, rowB_len, lent_len, aFill, ↓reduceIte, reduceCtorEq, if_true, if_false, Nat.reduceAdd, Nat.reduceEqDiff, Nat.reduceMod, Nat.reduceLT, Nat.reduceLeDiff, Nat.reduceSub, Nat.reduceMul, Nat.reduceBEq, Int.reduceAdd, Int.reduceSub, Int.reduceMul, Int.reduceNeg, Int.reduceLT, Int.reduceLE, Int.reduceToNat, Int.reduceEq, Int.reduceBEq]
      exact hk.trans hk3
    · simp -implicitDefEqProofs (disch := (first | omega | (simp only [lenB, xorB_len, rowB_len, lent_len] <;> omega) | fail)) only [admQ, lenB, xorB_len, rowB_len, lent_len, aFill, ↓reduceIte, reduceCtorEq, if_true, if_false, Nat.reduceAdd, Nat.reduceEqDiff, Nat.reduceMod, Nat.reduceLT, Nat.reduceLeDiff, Nat.reduceSub, Nat.reduceMul, Nat.reduceBEq, Int.reduceAdd, Int.reduceSub, Int.reduceMul, Int.reduceNeg, Int.reduceLT, Int.reduceLE, Int.reduceToNat, Int.reduceEq, Int.reduceBEq, hy1.len, dec_f]
      refine (ans_ctrxor hci e n hy1 (by omega)).mono ?_
      rintro _ m2 ⟨p1, rfl, hk2, hp1, ho1⟩
      have hX := xorB_len E N (e64 e) (e64 n) b
      have hci2 := hci.kept hk2 (by simp) (by simp)
      have hy2 := hy1.kept0 hk2
      simp -implicitDefEqProofs (disch := (first | omega | (simp only [lenB, xorB_len, rowB_len, lent_len] <;> omega) | fail)) only [admQ, lenB, xorB_len, rowB_len, lent_len, aFill, ↓reduceIte, reduceCtorEq, if_true, if_false, Nat.reduceAdd, Nat.reduceEqDiff, Nat.reduceMod, Nat.reduceLT, Nat.reduceLeDiff, Nat.reduceSub, Nat.reduceMul, Nat.reduceBEq, Int.reduceAdd, Int.reduceSub, Int.reduceMul, Int.reduceNeg, Int.reduceLT, Int.reduceLE, Int.reduceToNat, Int.reduceEq, Int.reduceBEq, hy2.len]
      refine (ans_pick k (b.length + 1) (by omega) (by omega) _).mono ?_
      rintro _ m3 ⟨rfl, rfl⟩
      have hpk := pk_lt k (show 0 < b.length + 1 by omega)
      generalize pk k (b.length + 1) = t at *
      have hsl : ∃ v, (∀ f, someW (pSlice 1 false true false [y, .int .i64 t]) f = f v) ∧ RdB m3 v (b.take t) := by
        by_cases hb0 : 0 < b.length
        · obtain ⟨b1, o1, cap1, s1, d1, rfl, hr1, hg1, hl1, hc1, hs1, ht1⟩ := hy2.cons hb0
          refine ⟨.sl b1 o1 t cap1 s1, fun f => ?_, hy2.take (by omega)⟩
          simp -implicitDefEqProofs (disch := (first | omega | (simp only [lenB, xorB_len, rowB_len, lent_len] <;> omega) | fail)) only [admQ, lenB, xorB_len, rowB_len, lent_len, aFill, ↓reduceIte, reduceCtorEq, if_true, if_false, Nat.reduceAdd, Nat.reduceEqDiff, Nat.reduceMod, Nat.reduceLT, Nat.reduceLeDiff, Nat.reduceSub, Nat.reduceMul, Nat.reduceBEq, Int.reduceAdd, Int.reduceSub, Int.reduceMul, Int.reduceNeg, Int.reduceLT, Int.reduceLE, Int.reduceToNat, Int.reduceEq, Int.reduceBEq]
        · have hb : b = [] := List.length_eq_zero_iff.mp (by omega)
          subst hb
          have ht : t = 0 := by simp at hpk; omega
          subst ht
          rcases hy2 with ⟨rfl, _⟩ | ⟨b1, o1, cap1, s1, d1, rfl, h2, h3, h4, h5, h6⟩
          · exact ⟨.nils, fun f => by simp -implicitDefEqProofs (disch := (first | omega | (simp only [lenB, xorB_len, rowB_len, lent_len] <;> omega) | fail)) only [admQ, lenB, xorB_len, rowB_len, lent_len, aFill, ↓reduceIte, reduceCtorEq, if_true, if_false, Nat.reduceAdd, Nat.reduceEqDiff, Nat.reduceMod, Nat.reduceLT, Nat.reduceLeDiff, Nat.reduceSub, Nat.reduceMul, Nat.reduceBEq, Int.reduceAdd, Int.reduceSub, Int.reduceMul, Int.reduceNeg, Int.reduceLT, Int.reduceLE, Int.reduceToNat, Int.reduceEq, Int.reduceBEq], .nils _⟩
          · exact ⟨.sl b1 o1 0 cap1 s1, fun f => by simp -implicitDefEqProofs (disch := (first | omega | (simp only [lenB, xorB_len, rowB_len, lent_len] <;> omega) | fail)) only [admQ, lenB, xorB_len, rowB_len, lent_len, aFill, ↓reduceIte, reduceCtorEq, if_true, if_false, Nat.reduceAdd, Nat.reduceEqDiff, Nat.reduceMod, Nat.reduceLT, Nat.reduceLeDiff, Nat.reduceSub, Nat.reduceMul, Nat.reduceBEq, Int.reduceAdd, Int.reduceSub, Int.reduceMul, Int.reduceNeg, Int.reduceLT, Int.reduceLE, Int.reduceToNat, Int.reduceEq, Int.reduceBEq], .inr ⟨b1, o1, cap1, s1, d1, rfl, h2, by simpa using h3, by simp, by simp, h6⟩⟩
      obtain ⟨v, hv1, hv2⟩ := hsl
      have h1 : IntKind.i64.wrap ((BitVec.ofInt IntKind.i64.bits e ^^^ BitVec.ofInt IntKind.i64.bits 281474976710656).toNat : Int) = IntKind.i64.wrap ((BitVec.ofInt 64 e ^^^ BitVec.ofNat 64 (2 ^ 48)).toNat : Int) := e64_xor e 48 (by omega)
      have h2 : IntKind.i64.wrap ((BitVec.ofInt IntKind.i64.bits n ^^^ BitVec.ofInt IntKind.i64.bits 4611686018427387904).toNat : Int) = IntKind.i64.wrap ((BitVec.ofInt 64 n ^^^ BitVec.ofNat 64 (2 ^ 62)).toNat : Int) := e64_xor n 62 (by omega)
      simp -implicitDefEqProofs (disch := (first | omega | (simp only [lenB, xorB_len, rowB_len, lent_len] <;> omega) | fail)) only [admQ, lenB, xorB_len, rowB_len, lent_len, aFill, ↓reduceIte, reduceCtorEq, if_true, if_false, Nat.reduceAdd, Nat.reduceEqDiff, Nat.reduceMod, Nat.reduceLT, Nat.reduceLeDiff, Nat.reduceSub, Nat.reduceMul, Nat.reduceBEq, Int.reduceAdd, Int.reduceSub, Int.reduceMul, Int.reduceNeg, Int.reduceLT, Int.reduceLE, Int.reduceToNat, Int.reduceEq, Int.reduceBEq, hy2.len, hv1]
      refine (ans_ctrxor hci2 e n hv2 (by simp; omega)).mono ?_
      rintro _ m4 ⟨p2, rfl, hk4, hp2, ho2⟩
      have htl : (b.take t).length = t := by simp; omega
      rw [xorB_take] at ho2
      rw [htl]
      have ho14 := hk4.own0 ho1
      have r1 := rd_row ho14 hX (.inl rfl)
      have r2 := (rd_row ho14 hX (.inl rfl)).take (k := t) (by omega)
      simp -implicitDefEqProofs (disch := (first | omega | (simp only [lenB, xorB_len, rowB_len, lent_len] <;> omega) | fail)) only [admQ, lenB, xorB_len, rowB_len, lent_len, aFill, ↓reduceIte, reduceCtorEq, if_true, if_false, Nat.reduceAdd, Nat.reduceEqDiff, Nat.reduceMod, Nat.reduceLT, Nat.reduceLeDiff, Nat.reduceSub, Nat.reduceMul, Nat.reduceBEq, Int.reduceAdd, Int.reduceSub, Int.reduceMul, Int.reduceNeg, Int.reduceLT, Int.reduceLE, Int.reduceToNat, Int.reduceEq, Int.reduceBEq, hy2.len]
      refine (ans_samebytes (rd_row ho2 (by simp [hX]; omega) (.inl rfl)) r2 (by simp [hX]; omega)).mono ?_
      rintro _ m5 ⟨rfl, rfl⟩
      rw [beq_self_eq_true]
      have hy5 := hy2.kept0 hk4
      have hci5 := hci2.kept hk4 (by simp) (by simp)
      simp -implicitDefEqProofs (disch := (first | omega | (simp only [lenB, xorB_len, rowB_len, lent_len] <;> omega) | fail)) only [admQ, lenB, xorB_len, rowB_len, lent_len, aFill, ↓reduceIte, reduceCtorEq, if_true, if_false, Nat.reduceAdd, Nat.reduceEqDiff, Nat.reduceMod, Nat.reduceLT, Nat.reduceLeDiff, Nat.reduceSub, Nat.reduceMul, Nat.reduceBEq, Int.reduceAdd, Int.reduceSub, Int.reduceMul, Int.reduceNeg, Int.reduceLT, Int.reduceLE, Int.reduceToNat, Int.reduceEq, Int.reduceBEq, h1, h2]
      refine (ans_ctrxor hci5 _ n hy5 (by omega)).mono ?_
      rintro _ m6 ⟨p3, rfl, hk6, hp3, ho3⟩
      rw [e64_wrapi, xorB_low (fun j hj => low_bit hj (by omega) (by omega)) (fun j _ => rfl)] at ho3
      have ho16 := hk6.own0 ho14
      simp -implicitDefEqProofs (disch := (first | omega | (simp only [lenB, xorB_len, rowB_len, lent_len] <;> omega) | fail)) only [admQ, lenB, xorB_len, rowB_len, lent_len, aFill, ↓reduceIte, reduceCtorEq, if_true, if_false, Nat.reduceAdd, Nat.reduceEqDiff, Nat.reduceMod, Nat.reduceLT, Nat.reduceLeDiff, Nat.reduceSub, Nat.reduceMul, Nat.reduceBEq, Int.reduceAdd, Int.reduceSub, Int.reduceMul, Int.reduceNeg, Int.reduceLT, Int.reduceLE, Int.reduceToNat, Int.reduceEq, Int.reduceBEq]
      refine (ans_samebytes (rd_row ho3 hX (.inl rfl)) (rd_row ho16 hX (.inl rfl)) (by omega)).mono ?_
      rintro _ m7 ⟨rfl, rfl⟩
      rw [beq_self_eq_true]
      simp -implicitDefEqProofs (disch := (first | omega | (simp only [lenB, xorB_len, rowB_len, lent_len] <;> omega) | fail)) only [admQ, lenB, xorB_len, rowB_len, lent_len, aFill, ↓reduceIte, reduceCtorEq, if_true, if_false, Nat.reduceAdd, Nat.reduceEqDiff, Nat.reduceMod, Nat.reduceLT, Nat.reduceLeDiff, Nat.reduceSub, Nat.reduceMul, Nat.reduceBEq, Int.reduceAdd, Int.reduceSub, Int.reduceMul, Int.reduceNeg, Int.reduceLT, Int.reduceLE, Int.reduceToNat, Int.reduceEq, Int.reduceBEq, h1, h2]
      refine (ans_ctrxor (hci5.kept hk6 (by simp) (by simp)) e _ (hy5.kept0 hk6) (by omega)).mono ?_
      rintro _ m8 ⟨p4, rfl, hk8, hp4, ho4⟩
      rw [e64_wrapi, xorB_low (fun j _ => rfl) (fun j hj => low_bit hj (by omega) (by omega))] at ho4
      have ho18 := hk8.own0 ho16
      simp -implicitDefEqProofs (disch := (first | omega | (simp only [lenB, xorB_len, rowB_len, lent_len] <;> omega) | fail)) only [admQ, lenB, xorB_len, rowB_len, lent_len, aFill, ↓reduceIte, reduceCtorEq, if_true, if_false, Nat.reduceAdd, Nat.reduceEqDiff, Nat.reduceMod, Nat.reduceLT, Nat.reduceLeDiff, Nat.reduceSub, Nat.reduceMul, Nat.reduceBEq, Int.reduceAdd, Int.reduceSub, Int.reduceMul, Int.reduceNeg, Int.reduceLT, Int.reduceLE, Int.reduceToNat, Int.reduceEq, Int.reduceBEq]
      refine (ans_samebytes (rd_row ho4 hX (.inl rfl)) (rd_row ho18 hX (.inl rfl)) (by omega)).mono ?_
      rintro _ m9 ⟨rfl, rfl⟩
      rw [beq_self_eq_true]
      simp -implicitDefEqProofs (disch := (first | omega | (simp only [lenB, xorB_len, rowB_len, lent_len] <;> omega) | fail)) only [admQ, lenB, xorB_len, rowB_len, lent_len, aFill, ↓reduceIte, reduceCtorEq, if_true, if_false, Nat.reduceAdd, Nat.reduceEqDiff, Nat.reduceMod, Nat.reduceLT, Nat.reduceLeDiff, Nat.reduceSub, Nat.reduceMul, Nat.reduceBEq, Int.reduceAdd, Int.reduceSub, Int.reduceMul, Int.reduceNeg, Int.reduceLT, Int.reduceLE, Int.reduceToNat, Int.reduceEq, Int.reduceBEq]
      refine (ans_ctrworks _).mono ?_
      rintro _ m10 ⟨rfl, hk10⟩
      simp -implicitDefEqProofs (disch := (first | omega | (simp only [lenB, xorB_len, rowB_len, lent_len] <;> omega) | fail)) only [admQ, lenB, xorB_len, rowB_len, lent_len, aFill, ↓reduceIte, reduceCtorEq, if_true, if_false, Nat.reduceAdd, Nat.reduceEqDiff, Nat.reduceMod, Nat.reduceLT, Nat.reduceLeDiff, Nat.reduceSub, Nat.reduceMul, Nat.reduceBEq, Int.reduceAdd, Int.reduceSub, Int.reduceMul, Int.reduceNeg, Int.reduceLT, Int.reduceLE, Int.reduceToNat, Int.reduceEq, Int.reduceBEq]
      exact ((((hk.trans hk2).trans hk4).trans hk6).trans hk8).trans hk10
  · refine (ans_new_no hx hok).mono ?_
    rintro _ m1 ⟨rfl, rfl⟩
    simp -implicitDefEqProofs (disch := (first | omega | (simp only [lenB, xorB_len, rowB_len, lent_len] <;> omega) | fail)) only [admQ, lenB, xorB_len, rowB_len, lent_len, aFill, ↓reduceIte, reduceCtorEq, if_true, if_false, Nat.reduceAdd, Nat.reduceEqDiff, Nat.reduceMod, Nat.reduceLT, Nat.reduceLeDiff, Nat.reduceSub, Nat.reduceMul, Nat.reduceBEq, Int.reduceAdd, Int.reduceSub, Int.reduceMul, Int.reduceNeg, Int.reduceLT, Int.reduceLE, Int.reduceToNat, Int.reduceEq, Int.reduceBEq]
    refine (ans_ctrworks _).mono ?_
    rintro _ m3 ⟨rfl, hk3⟩
    simp -implicitDefEqProofs (disch := (first | omega | (simp only [lenB, xorB_len, rowB_len, lent_len] <;> omega) | fail)) only [admQ, lenB, xorB_len, rowB_len, lent_len, aFill, ↓reduceIte, reduceCtorEq, if_true, if_false, Nat.reduceAdd, Nat.reduceEqDiff, Nat.reduceMod, Nat.reduceLT, Nat.reduceLeDiff, Nat.reduceSub, Nat.reduceMul, Nat.reduceBEq, Int.reduceAdd, Int.reduceSub, Int.reduceMul, Int.reduceNeg, Int.reduceLT, Int.reduceLE, Int.reduceToNat, Int.reduceEq, Int.reduceBEq]
    exact hk3

theorem ans_CtrBoth {m : Mem} {x y z : AV} {key a b : List B8} (hx : RdB m x key) (e n : Int) (hy : RdB m y a) (hz : RdB m z b) : Ans Try.prog 7 [x, .int .i64 e, .int .i64 n, y, z] m fun r m' => r = .bool true ∧ Kept [] m m' := by
  refine ans_ret mixed ok7 ?_
  simp -implicitDefEqProofs (disch := (first | omega | (simp only [lenB, xorB_len, rowB_len, lent_len] <;> omega) | fail)) only [admQ, lenB, xorB_len, rowB_len, lent_len, aFill, ↓reduceIte, reduceCtorEq, if_true, if_false, Nat.reduceAdd, Nat.reduceEqDiff, Nat.reduceMod, Nat.reduceLT, Nat.reduceLeDiff, Nat.reduceSub, Nat.reduceMul, Nat.reduceBEq, Int.reduceAdd, Int.reduceSub, Int.reduceMul, Int.reduceNeg, Int.reduceLT, Int.reduceLE, Int.reduceToNat, Int.reduceEq, Int.reduceBEq, c7, r7]
  by_cases hok : keyOk key.length
  · refine (ans_new hx hok).mono ?_
    rintro _ m1 ⟨c, kb, rfl, hk, hc1, hkb1, hci⟩
    have hy1 := hy.kept0 hk
    have hz1 := hz.kept0 hk
    generalize expand key = E at *
    generalize key.length / 4 + 7 = N at *
    have bail : ∀ (K : AV → Mem → Prop), (∀ m3, Kept [] m1 m3 → K (.bool true) m3) → Ans Try.prog 10 [] m1 K := fun K h => (ans_ctrworks _).mono fun r m3 ⟨h1, h2⟩ => by rw [h1]; exact h m3 h2
    by_cases hbig : (a.length : Int) > 8192
    · simp -implicitDefEqProofs (disch := (first | omega | (simp only [lenB, xorB_len, rowB_len, lent_len] <;> omega) | fail)) only [admQ, lenB, xorB_len, rowB_len, lent_len, aFill, ↓reduceIte, reduceCtorEq, if_true, if_false, Nat.reduceAdd, Nat.reduceEqDiff, Nat.reduceMod, Nat.reduceLT, Nat.reduceLeDiff, Nat.reduceSub, Nat.reduceMul, Nat.reduceBEq, Int.reduceAdd, Int.reduceSub, Int.reduceMul, Int.reduceNeg, Int.reduceLT, Int.reduceLE, Int.reduceToNat, Int.reduceEq, Int.reduceBEq, hy1.len, dec_t]
      refine bail _ fun m3 hk3 => ?_
      simp -implicitDefEqProofs (disch := (first | omega | (simp only [lenB, xorB_len, rowB_len, lent_len] <;> omega) | fail)) only [admQ, lenB, xorB_len, rowB_len, lent_len, aFill, ↓reduceIte, reduceCtorEq, if_true, if_false, Nat.reduceAdd, Nat.reduceEqDiff, Nat.reduceMod, Nat.reduceLT, Nat.reduceLeDiff, Nat.reduceSub, Nat.reduceMul, Nat.reduceBEq, Int.reduceAdd, Int.reduceSub, Int.reduceMul, Int.reduceNeg, Int.reduceLT, Int.reduceLE, Int.reduceToNat, Int.reduceEq, Int.reduceBEq]
      exact hk.trans hk3
    · by_cases hbig2 : (b.length : Int) > 8192
      · simp -implicitDefEqProofs (disch := (first | omega | (simp only [lenB, xorB_len, rowB_len, lent_len] <;> omega) | fail)) only [admQ, lenB, xorB_len, rowB_len, lent_len, aFill, ↓reduceIte, reduceCtorEq, if_true, if_false, Nat.reduceAdd, Nat.reduceEqDiff, Nat.reduceMod, Nat.reduceLT, Nat.reduceLeDiff, Nat.reduceSub, Nat.reduceMul, Nat.reduceBEq, Int.reduceAdd, Int.reduceSub, Int.reduceMul, Int.reduceNeg, Int.reduceLT, Int.reduceLE, Int.reduceToNat, Int.reduceEq, Int.reduceBEq, hy1.len, hz1.len, dec_t, dec_f]
        refine bail _ fun m3 hk3 => ?_
        simp -implicitDefEqProofs (disch := (first | omega | (simp only [lenB, xorB_len, rowB_len, lent_len] <;> omega) | fail)) only [admQ, lenB, xorB_len, rowB_len, lent_len, aFill, ↓reduceIte, reduceCtorEq, if_true, if_false, Nat.reduceAdd, Nat.reduceEqDiff, Nat.reduceMod, Nat.reduceLT, Nat.reduceLeDiff, Nat.reduceSub, Nat.reduceMul, Nat.reduceBEq, Int.reduceAdd, Int.reduceSub, Int.reduceMul, Int.reduceNeg, Int.reduceLT, Int.reduceLE, Int.reduceToNat, Int.reduceEq, Int.reduceBEq]
        exact hk.trans hk3
      · simp -implicitDefEqProofs (disch := (first | omega | (simp only [lenB, xorB_len, rowB_len, lent_len] <;> omega) | fail)) only [admQ, lenB, xorB_len, rowB_len, lent_len, aFill, ↓reduceIte, reduceCtorEq, if_true, if_false, Nat.reduceAdd, Nat.reduceEqDiff, Nat.reduceMod, Nat.reduceLT, Nat.reduceLeDiff, Nat.reduceSub, Nat.reduceMul, Nat.reduceBEq, Int.reduceAdd, Int.reduceSub, Int.reduceMul, Int.reduceNeg, Int.reduceLT, Int.reduceLE, Int.reduceToNat, Int.reduceEq, Int.reduceBEq, hy1.len, hz1.len, dec_f]
        refine (ans_ctrxor hci e n hy1 (by omega)).mono ?_
        rintro _ m2 ⟨p1, rfl, hk2, hp1, ho1⟩
        have hX := xorB_len E N (e64 e) (e64 n) a
        simp -implicitDefEqProofs (disch := (first | omega | (simp only [lenB, xorB_len, rowB_len, lent_len] <;> omega) | fail)) only [admQ, lenB, xorB_len, rowB_len, lent_len, aFill, ↓reduceIte, reduceCtorEq, if_true, if_false, Nat.reduceAdd, Nat.reduceEqDiff, Nat.reduceMod, Nat.reduceLT, Nat.reduceLeDiff, Nat.reduceSub, Nat.reduceMul, Nat.reduceBEq, Int.reduceAdd, Int.reduceSub, Int.reduceMul, Int.reduceNeg, Int.reduceLT, Int.reduceLE, Int.reduceToNat, Int.reduceEq, Int.reduceBEq]
        refine (ans_ctrxor (hci.kept hk2 (by simp) (by simp)) e n (hz1.kept0 hk2) (by omega)).mono ?_
        rintro _ m3 ⟨p2, rfl, hk3, hp2, ho2⟩
        have hZ := xorB_len E N (e64 e) (e64 n) b
        have ho13 := rowOf_own (hk3.own0 ho1)
        have ho2' := rowOf_own ho2
        have hy3 := (hy1.kept0 hk2).kept0 hk3
        have hz3 := (hz1.kept0 hk2).kept0 hk3
        have hgx : ∀ i, i < a.length → i < b.length → gb (xorB E N (e64 e) (e64 n) a) i ^^^ gb (xorB E N (e64 e) (e64 n) b) i = gb a i ^^^ gb b i := fun i h1 h2 => by
          rw [xor_gb _ _ _ _ h1, xor_gb _ _ _ _ h2]
          generalize ksAt E N (e64 e) (e64 n) i = k
          rw [BitVec.xor_comm (gb b i), BitVec.xor_assoc, ← BitVec.xor_assoc k, BitVec.xor_self, BitVec.zero_xor]
        generalize xorB E N (e64 e) (e64 n) a = X at *
        generalize xorB E N (e64 e) (e64 n) b = Z at *
        simp -implicitDefEqProofs (disch := (first | omega | (simp only [lenB, xorB_len, rowB_len, lent_len] <;> omega) | fail)) only [admQ, lenB, xorB_len, rowB_len, lent_len, aFill, ↓reduceIte, reduceCtorEq, if_true, if_false, Nat.reduceAdd, Nat.reduceEqDiff, Nat.reduceMod, Nat.reduceLT, Nat.reduceLeDiff, Nat.reduceSub, Nat.reduceMul, Nat.reduceBEq, Int.reduceAdd, Int.reduceSub, Int.reduceMul, Int.reduceNeg, Int.reduceLT, Int.reduceLE, Int.reduceToNat, Int.reduceEq, Int.reduceBEq, hy3.len, hz3.len]
        refine LoopW.on (fun i : Nat => [(3, y), (4, z), (13, .sl p1 0 a.length a.length 0), (14, .sl p2 0 b.length b.length 0), (15, .int .i64 i)]) (fun i => a.length - i) (fun i m' => i ≤ a.length ∧ i ≤ b.length ∧ m' = m3) ?_ 0 _ _ rfl ⟨by omega, by omega, rfl⟩
        rintro i m' Y ⟨hi, hi2, rfl⟩ hY
        have fin : ∀ (K : AV → Mem → Prop), (∀ m4, Kept [] m' m4 → K (.bool true) m4) → Ans Try.prog 10 [] m' K := fun K h => (ans_ctrworks _).mono fun r m4 ⟨h1, h2⟩ => by rw [h1]; exact h m4 h2
        by_cases hlt : i < a.length
        · by_cases hlt2 : i < b.length
          · obtain ⟨b1, o1, cap1, s1, d1, rfl, hr1, hg1, hl1, hc1, hs1, ht1⟩ := hy3.cons hlt
            obtain ⟨b2, o2, cap2, s2, d2, rfl, hr2, hg2, hl2, hc2, hs2, ht2⟩ := hz3.cons hlt2
            have e1 := hg1 i hlt
            have e2 := hg2 i hlt2
            have e3 := hgx i hlt hlt2
            simp -implicitDefEqProofs (disch := (first | omega | (simp only [lenB, xorB_len, rowB_len, lent_len] <;> omega) | fail)) only [admQ, lenB, xorB_len, rowB_len, lent_len, aFill, ↓reduceIte, reduceCtorEq, if_true, if_false, Nat.reduceAdd, Nat.reduceEqDiff, Nat.reduceMod, Nat.reduceLT, Nat.reduceLeDiff, Nat.reduceSub, Nat.reduceMul, Nat.reduceBEq, Int.reduceAdd, Int.reduceSub, Int.reduceMul, Int.reduceNeg, Int.reduceLT, Int.reduceLE, Int.reduceToNat, Int.reduceEq, Int.reduceBEq, hr1, e1, hr2, e2, ho13, ho2', e3, dec_t]
            exact hY (i + 1) _ _ rfl (by omega) ⟨by omega, by omega, rfl⟩
          · simp -implicitDefEqProofs (disch := (first | omega | (simp only [lenB, xorB_len, rowB_len, lent_len] <;> omega) | fail)) only [admQ, lenB, xorB_len, rowB_len, lent_len, aFill, ↓reduceIte, reduceCtorEq, if_true, if_false, Nat.reduceAdd, Nat.reduceEqDiff, Nat.reduceMod, Nat.reduceLT, Nat.reduceLeDiff, Nat.reduceSub, Nat.reduceMul, Nat.reduceBEq, Int.reduceAdd, Int.reduceSub, Int.reduceMul, Int.reduceNeg, Int.reduceLT, Int.reduceLE, Int.reduceToNat, Int.reduceEq, Int.reduceBEq, hy3.len, hz3.len, dec_t, dec_f]
            refine fin _ fun m4 hk4 => ?_
            simp -implicitDefEqProofs (disch := (first | omega | (simp only [lenB, xorB_len, rowB_len, lent_len] <;> omega) | fail)) only [admQ, lenB, xorB_len, rowB_len, lent_len, aFill, ↓reduceIte, reduceCtorEq, if_true, if_false, Nat.reduceAdd, Nat.reduceEqDiff, Nat.reduceMod, Nat.reduceLT, Nat.reduceLeDiff, Nat.reduceSub, Nat.reduceMul, Nat.reduceBEq, Int.reduceAdd, Int.reduceSub, Int.reduceMul, Int.reduceNeg, Int.reduceLT, Int.reduceLE, Int.reduceToNat, Int.reduceEq, Int.reduceBEq]
            exact ((hk.trans hk2).trans hk3).trans hk4
        · simp -implicitDefEqProofs (disch := (first | omega | (simp only [lenB, xorB_len, rowB_len, lent_len] <;> omega) | fail)) only [admQ, lenB, xorB_len, rowB_len, lent_len, aFill, ↓reduceIte, reduceCtorEq, if_true, if_false, Nat.reduceAdd, Nat.reduceEqDiff, Nat.reduceMod, Nat.reduceLT, Nat.reduceLeDiff, Nat.reduceSub, Nat.reduceMul, Nat.reduceBEq, Int.reduceAdd, Int.reduceSub, Int.reduceMul, Int.reduceNeg, Int.reduceLT, Int.reduceLE, Int.reduceToNat, Int.reduceEq, Int.reduceBEq, hy3.len, hz3.len, dec_t, dec_f]
          refine fin _ fun m4 hk4 => ?_
          simp -implicitDefEqProofs (disch := (first | omega | (simp only [lenB, xorB_len, rowB_len, lent_len] <;> omega) | fail)) only [admQ, lenB, xorB_len, rowB_len, lent_len, aFill, ↓reduceIte, reduceCtorEq, if_true, if_false, Nat.reduceAdd, Nat.reduceEqDiff, Nat.reduceMod, Nat.reduceLT, Nat.reduceLeDiff, Nat.reduceSub, Nat.reduceMul, Nat.reduceBEq, Int.reduceAdd, Int.reduceSub, Int.reduceMul, Int.reduceNeg, Int.reduceLT, Int.reduceLE, Int.reduceToNat, Int.reduceEq, Int.reduceBEq]
          exact ((hk.trans hk2).trans hk3).trans hk4
  · refine (ans_new_no hx hok).mono ?_
    rintro _ m1 ⟨rfl, rfl⟩
    simp -implicitDefEqProofs (disch := (first | omega | (simp only [lenB, xorB_len, rowB_len, lent_len] <;> omega) | fail)) only [admQ, lenB, xorB_len, rowB_len, lent_len, aFill, ↓reduceIte, reduceCtorEq, if_true, if_false, Nat.reduceAdd, Nat.reduceEqDiff, Nat.reduceMod, Nat.reduceLT, Nat.reduceLeDiff, Nat.reduceSub, Nat.reduceMul, Nat.reduceBEq, Int.reduceAdd, Int.reduceSub, Int.reduceMul, Int.reduceNeg, Int.reduceLT, Int.reduceLE, Int.reduceToNat, Int.reduceEq, Int.reduceBEq]
    refine (ans_ctrworks _).mono ?_
    rintro _ m3 ⟨rfl, hk3⟩
    simp -implicitDefEqProofs (disch := (first | omega | (simp only [lenB, xorB_len, rowB_len, lent_len] <;> omega) | fail)) only [admQ, lenB, xorB_len, rowB_len, lent_len, aFill, ↓reduceIte, reduceCtorEq, if_true, if_false, Nat.reduceAdd, Nat.reduceEqDiff, Nat.reduceMod, Nat.reduceLT, Nat.reduceLeDiff, Nat.reduceSub, Nat.reduceMul, Nat.reduceBEq, Int.reduceAdd, Int.reduceSub, Int.reduceMul, Int.reduceNeg, Int.reduceLT, Int.reduceLE, Int.reduceToNat, Int.reduceEq, Int.reduceBEq]
    exact hk3
end Go.Proofs.Ythdkclkiegkabaa
