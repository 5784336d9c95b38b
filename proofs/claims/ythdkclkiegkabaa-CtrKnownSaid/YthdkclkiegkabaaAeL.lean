/- AES: the document's table, walked. -/
import Derived.Test.YthdkclkiegkabaaAeK
namespace Go.Proofs.Ythdkclkiegkabaa
open Go Go.Adm
set_option linter.unusedSimpArgs false
set_option maxRecDepth 100000
theorem ge128 (b : B8) : (b &&& 128#8 = 0#8) ↔ ¬ (b.toNat : Int) ≥ 128 :=
  all256 (P := fun b => (b &&& 128#8 = 0#8) ↔ ¬ (b.toNat : Int) ≥ 128) (by decide +kernel) b
theorem ans_rtwice (b : B8) (m : Mem) : Ans Try.prog 22 [b8 b] m fun r m' => r = b8 (tw b) ∧ m' = m := by
  refine ans_ret mixed ok22 ?_
  unfold tw
  by_cases h : b &&& 128#8 = 0#8
  · have h' := (ge128 b).mp h
    simp -implicitDefEqProofs (disch := (first | omega | (simp only [lenB] <;> omega) | fail)) only [admQ, lenB, aFill, ↓reduceIte, reduceCtorEq, if_true, if_false, Nat.reduceAdd, Nat.reduceEqDiff, Nat.reduceMod, Nat.reduceLT, Nat.reduceLeDiff, Nat.reduceSub, Nat.reduceMul, Nat.reduceBEq, Int.reduceAdd, Int.reduceSub, Int.reduceMul, Int.reduceNeg, Int.reduceLT, Int.reduceLE, Int.reduceToNat, Int.reduceEq, Int.reduceBEq, c22, r22, h]
  · have h' : (b.toNat : Int) ≥ 128 := Decidable.byContradiction fun e => h ((ge128 b).mpr e)
    simp -implicitDefEqProofs (disch := (first | omega | (simp only [lenB] <;> omega) | fail)) only [admQ, lenB, aFill, ↓reduceIte, reduceCtorEq, if_true, if_false, Nat.reduceAdd, Nat.reduceEqDiff, Nat.reduceMod, Nat.reduceLT, Nat.reduceLeDiff, Nat.reduceSub, Nat.reduceMul, Nat.reduceBEq, Int.reduceAdd, Int.reduceSub, Int.reduceMul, Int.reduceNeg, Int.reduceLT, Int.reduceLE, Int.reduceToNat, Int.reduceEq, Int.reduceBEq, c22, r22, h]
theorem ans_rtimes (a b : B8) (m : Mem) : Ans Try.prog 38 [b8 a, b8 b] m fun r m' => r = b8 (times a b) ∧ m' = m := by
  refine ans_ret mixed ok38 ?_
  simp -implicitDefEqProofs (disch := (first | omega | (simp only [lenB] <;> omega) | fail)) only [admQ, lenB, aFill, ↓reduceIte, reduceCtorEq, if_true, if_false, Nat.reduceAdd, Nat.reduceEqDiff, Nat.reduceMod, Nat.reduceLT, Nat.reduceLeDiff, Nat.reduceSub, Nat.reduceMul, Nat.reduceBEq, Int.reduceAdd, Int.reduceSub, Int.reduceMul, Int.reduceNeg, Int.reduceLT, Int.reduceLE, Int.reduceToNat, Int.reduceEq, Int.reduceBEq, c38, r38]
  refine LoopW.on (fun i : Nat => [(0, b8 a), (1, b8 (timesTo a b i).2), (5, b8 (timesTo a b i).1), (6, .int .i64 i)]) (fun i => 8 - i) (fun i m' => i ≤ 8 ∧ m' = m) ?_ 0 _ _ rfl ⟨by omega, rfl⟩
  rintro i m' X ⟨hi, rfl⟩ hX
  have e : timesTo a b (i + 1) = (if (a >>> i).toNat % 2 = 1 then (timesTo a b i).1 ^^^ (timesTo a b i).2 else (timesTo a b i).1, tw (timesTo a b i).2) := rfl
  have hX' := fun t' m' => hX (i + 1) t' m'
  rw [e] at hX'
  by_cases hlt : i < 8
  · generalize timesTo a b i = p at *
    by_cases h : (a >>> i).toNat % 2 = 1
    · rw [if_pos h] at hX'
      simp -implicitDefEqProofs (disch := (first | omega | (simp only [lenB] <;> omega) | fail)) only [admQ, lenB, aFill, ↓reduceIte, reduceCtorEq, if_true, if_false, Nat.reduceAdd, Nat.reduceEqDiff, Nat.reduceMod, Nat.reduceLT, Nat.reduceLeDiff, Nat.reduceSub, Nat.reduceMul, Nat.reduceBEq, Int.reduceAdd, Int.reduceSub, Int.reduceMul, Int.reduceNeg, Int.reduceLT, Int.reduceLE, Int.reduceToNat, Int.reduceEq, Int.reduceBEq, wrap_u64]
      refine (ans_rtwice _ _).mono ?_
      rintro _ m1 ⟨rfl, rfl⟩
      simp -implicitDefEqProofs (disch := (first | omega | (simp only [lenB] <;> omega) | fail)) only [admQ, lenB, aFill, ↓reduceIte, reduceCtorEq, if_true, if_false, Nat.reduceAdd, Nat.reduceEqDiff, Nat.reduceMod, Nat.reduceLT, Nat.reduceLeDiff, Nat.reduceSub, Nat.reduceMul, Nat.reduceBEq, Int.reduceAdd, Int.reduceSub, Int.reduceMul, Int.reduceNeg, Int.reduceLT, Int.reduceLE, Int.reduceToNat, Int.reduceEq, Int.reduceBEq]
      exact hX' _ _ rfl (by omega) ⟨by omega, rfl⟩
    · rw [if_neg h] at hX'
      simp -implicitDefEqProofs (disch := (first | omega | (simp only [lenB] <;> omega) | fail)) only [admQ, lenB, aFill, ↓reduceIte, reduceCtorEq, if_true, if_false, Nat.reduceAdd, Nat.reduceEqDiff, Nat.reduceMod, Nat.reduceLT, Nat.reduceLeDiff, Nat.reduceSub, Nat.reduceMul, Nat.reduceBEq, Int.reduceAdd, Int.reduceSub, Int.reduceMul, Int.reduceNeg, Int.reduceLT, Int.reduceLE, Int.reduceToNat, Int.reduceEq, Int.reduceBEq, wrap_u64]
      refine (ans_rtwice _ _).mono ?_
      rintro _ m1 ⟨rfl, rfl⟩
      simp -implicitDefEqProofs (disch := (first | omega | (simp only [lenB] <;> omega) | fail)) only [admQ, lenB, aFill, ↓reduceIte, reduceCtorEq, if_true, if_false, Nat.reduceAdd, Nat.reduceEqDiff, Nat.reduceMod, Nat.reduceLT, Nat.reduceLeDiff, Nat.reduceSub, Nat.reduceMul, Nat.reduceBEq, Int.reduceAdd, Int.reduceSub, Int.reduceMul, Int.reduceNeg, Int.reduceLT, Int.reduceLE, Int.reduceToNat, Int.reduceEq, Int.reduceBEq]
      exact hX' _ _ rfl (by omega) ⟨by omega, rfl⟩
  · obtain rfl : i = 8 := by omega
    simp -implicitDefEqProofs (disch := (first | omega | (simp only [lenB] <;> omega) | fail)) only [admQ, lenB, aFill, ↓reduceIte, reduceCtorEq, if_true, if_false, Nat.reduceAdd, Nat.reduceEqDiff, Nat.reduceMod, Nat.reduceLT, Nat.reduceLeDiff, Nat.reduceSub, Nat.reduceMul, Nat.reduceBEq, Int.reduceAdd, Int.reduceSub, Int.reduceMul, Int.reduceNeg, Int.reduceLT, Int.reduceLE, Int.reduceToNat, Int.reduceEq, Int.reduceBEq]
    rfl
theorem ans_rinverse (b : B8) (m : Mem) : Ans Try.prog 35 [b8 b] m fun r m' => r = b8 (inv b) ∧ m' = m := by
  refine ans_ret mixed ok35 ?_
  simp -implicitDefEqProofs (disch := (first | omega | (simp only [lenB] <;> omega) | fail)) only [admQ, lenB, aFill, ↓reduceIte, reduceCtorEq, if_true, if_false, Nat.reduceAdd, Nat.reduceEqDiff, Nat.reduceMod, Nat.reduceLT, Nat.reduceLeDiff, Nat.reduceSub, Nat.reduceMul, Nat.reduceBEq, Int.reduceAdd, Int.reduceSub, Int.reduceMul, Int.reduceNeg, Int.reduceLT, Int.reduceLE, Int.reduceToNat, Int.reduceEq, Int.reduceBEq, c35, r35]
  refine LoopW.on (fun x : Nat => [(0, b8 b), (3, .int .i64 x)]) (fun x => 256 - x) (fun x m' => x ≤ 256 ∧ m' = m ∧ inv b = invF b (256 - x) x) ?_ 1 _ _ rfl ⟨by omega, rfl, rfl⟩
  rintro x m' X ⟨hx, rfl, hv⟩ hX
  by_cases hlt : x < 256
  · simp -implicitDefEqProofs (disch := (first | omega | (simp only [lenB] <;> omega) | fail)) only [admQ, lenB, aFill, ↓reduceIte, reduceCtorEq, if_true, if_false, Nat.reduceAdd, Nat.reduceEqDiff, Nat.reduceMod, Nat.reduceLT, Nat.reduceLeDiff, Nat.reduceSub, Nat.reduceMul, Nat.reduceBEq, Int.reduceAdd, Int.reduceSub, Int.reduceMul, Int.reduceNeg, Int.reduceLT, Int.reduceLE, Int.reduceToNat, Int.reduceEq, Int.reduceBEq, wrap_u8]
    refine (ans_rtimes _ _ _).mono ?_
    rintro _ m1 ⟨rfl, rfl⟩
    rw [show 256 - x = 255 - x + 1 by omega, invF] at hv
    cases h : times (BitVec.ofNat 8 x) b == 1#8
    · rw [if_neg (by simpa using h)] at hv
      simp -implicitDefEqProofs (disch := (first | omega | (simp only [lenB] <;> omega) | fail)) only [admQ, lenB, aFill, ↓reduceIte, reduceCtorEq, if_true, if_false, Nat.reduceAdd, Nat.reduceEqDiff, Nat.reduceMod, Nat.reduceLT, Nat.reduceLeDiff, Nat.reduceSub, Nat.reduceMul, Nat.reduceBEq, Int.reduceAdd, Int.reduceSub, Int.reduceMul, Int.reduceNeg, Int.reduceLT, Int.reduceLE, Int.reduceToNat, Int.reduceEq, Int.reduceBEq, h, beql_u8 (show 1 < 2 ^ 8 by decide)]
      exact hX (x + 1) _ _ rfl (by omega) ⟨by omega, rfl, by rw [hv, show 256 - (x + 1) = 255 - x by omega]⟩
    · rw [if_pos (by simpa using h)] at hv
      simp -implicitDefEqProofs (disch := (first | omega | (simp only [lenB] <;> omega) | fail)) only [admQ, lenB, aFill, ↓reduceIte, reduceCtorEq, if_true, if_false, Nat.reduceAdd, Nat.reduceEqDiff, Nat.reduceMod, Nat.reduceLT, Nat.reduceLeDiff, Nat.reduceSub, Nat.reduceMul, Nat.reduceBEq, Int.reduceAdd, Int.reduceSub, Int.reduceMul, Int.reduceNeg, Int.reduceLT, Int.reduceLE, Int.reduceToNat, Int.reduceEq, Int.reduceBEq, h, beql_u8 (show 1 < 2 ^ 8 by decide), wrap_u8, hv]
  · obtain rfl : x = 256 := by omega
    rw [Nat.sub_self, invF] at hv
    simp -implicitDefEqProofs (disch := (first | omega | (simp only [lenB] <;> omega) | fail)) only [admQ, lenB, aFill, ↓reduceIte, reduceCtorEq, if_true, if_false, Nat.reduceAdd, Nat.reduceEqDiff, Nat.reduceMod, Nat.reduceLT, Nat.reduceLeDiff, Nat.reduceSub, Nat.reduceMul, Nat.reduceBEq, Int.reduceAdd, Int.reduceSub, Int.reduceMul, Int.reduceNeg, Int.reduceLT, Int.reduceLE, Int.reduceToNat, Int.reduceEq, Int.reduceBEq, hv]
    rfl
theorem ans_rS (b : B8) (m : Mem) : Ans Try.prog 28 [b8 b] m fun r m' => r = b8 (sb b) ∧ m' = m := by
  refine ans_ret mixed ok28 ?_
  simp -implicitDefEqProofs (disch := (first | omega | (simp only [lenB] <;> omega) | fail)) only [admQ, lenB, aFill, ↓reduceIte, reduceCtorEq, if_true, if_false, Nat.reduceAdd, Nat.reduceEqDiff, Nat.reduceMod, Nat.reduceLT, Nat.reduceLeDiff, Nat.reduceSub, Nat.reduceMul, Nat.reduceBEq, Int.reduceAdd, Int.reduceSub, Int.reduceMul, Int.reduceNeg, Int.reduceLT, Int.reduceLE, Int.reduceToNat, Int.reduceEq, Int.reduceBEq, c28, r28]
  refine (ans_rinverse b _).mono ?_
  rintro _ m1 ⟨rfl, rfl⟩
  simp -implicitDefEqProofs (disch := (first | omega | (simp only [lenB] <;> omega) | fail)) only [admQ, lenB, aFill, ↓reduceIte, reduceCtorEq, if_true, if_false, Nat.reduceAdd, Nat.reduceEqDiff, Nat.reduceMod, Nat.reduceLT, Nat.reduceLeDiff, Nat.reduceSub, Nat.reduceMul, Nat.reduceBEq, Int.reduceAdd, Int.reduceSub, Int.reduceMul, Int.reduceNeg, Int.reduceLT, Int.reduceLE, Int.reduceToNat, Int.reduceEq, Int.reduceBEq]
  refine LoopW.on (fun n : Nat => [(3, b8 (inv b)), (4, b8 (rSo (inv b) n)), (5, .int .u64 ((n + 1 : Nat) : Int))]) (fun n => 4 - n) (fun n m' => n ≤ 4 ∧ m' = m1) ?_ 0 _ _ rfl ⟨by omega, rfl⟩
  rintro n m' X ⟨hn, rfl⟩ hX
  have e : rSo (inv b) (n + 1) = rSo (inv b) n ^^^ (inv b <<< (n + 1) ||| inv b >>> (8 - (n + 1))) := rfl
  by_cases hlt : n < 4
  · have hX' := fun t' m' => hX (n + 1) t' m'
    rw [e] at hX'
    simp -implicitDefEqProofs (disch := (first | omega | (simp only [lenB] <;> omega) | fail)) only [admQ, lenB, aFill, ↓reduceIte, reduceCtorEq, if_true, if_false, Nat.reduceAdd, Nat.reduceEqDiff, Nat.reduceMod, Nat.reduceLT, Nat.reduceLeDiff, Nat.reduceSub, Nat.reduceMul, Nat.reduceBEq, Int.reduceAdd, Int.reduceSub, Int.reduceMul, Int.reduceNeg, Int.reduceLT, Int.reduceLE, Int.reduceToNat, Int.reduceEq, Int.reduceBEq, wrap_u64]
    exact hX' _ _ rfl (by omega) ⟨by omega, rfl⟩
  · obtain rfl : n = 4 := by omega
    have h4 : rSo (inv b) 4 = sb b := rS_sb b
    simp -implicitDefEqProofs (disch := (first | omega | (simp only [lenB] <;> omega) | fail)) only [admQ, lenB, aFill, ↓reduceIte, reduceCtorEq, if_true, if_false, Nat.reduceAdd, Nat.reduceEqDiff, Nat.reduceMod, Nat.reduceLT, Nat.reduceLeDiff, Nat.reduceSub, Nat.reduceMul, Nat.reduceBEq, Int.reduceAdd, Int.reduceSub, Int.reduceMul, Int.reduceNeg, Int.reduceLT, Int.reduceLE, Int.reduceToNat, Int.reduceEq, Int.reduceBEq, h4]
def sbU (n : Nat) : List B8 := tab n fun i => sb (BitVec.ofNat 8 i)
theorem sbU_len (n : Nat) : (sbU n).length = n := tab_len _ _
theorem sbU_all : sbU 256 = sboxL := by decide +kernel
theorem ans_rTable (m : Mem) : Ans Try.prog 21 [] m fun r m' => ∃ p, r = .sl p 0 256 256 1 ∧ Kept [] m m' ∧ m.length ≤ p ∧ own m' p = some (bys sboxL) := by
  refine ans_ret mixed ok21 ?_
  simp -implicitDefEqProofs (disch := (first | omega | (simp only [lenB] <;> omega) | fail)) only [admQ, lenB, aFill, ↓reduceIte, reduceCtorEq, if_true, if_false, Nat.reduceAdd, Nat.reduceEqDiff, Nat.reduceMod, Nat.reduceLT, Nat.reduceLeDiff, Nat.reduceSub, Nat.reduceMul, Nat.reduceBEq, Int.reduceAdd, Int.reduceSub, Int.reduceMul, Int.reduceNeg, Int.reduceLT, Int.reduceLE, Int.reduceToNat, Int.reduceEq, Int.reduceBEq, c21, r21]
  refine LoopW.on (fun s : Nat × AV => [(1, s.2), (2, .int .i64 s.1)]) (fun s => 256 - s.1) (fun s m' => s.1 ≤ 256 ∧ Kept [] m m' ∧ ((s.1 = 0 ∧ s.2 = .nils) ∨ ∃ p, s.2 = .sl p 0 s.1 s.1 1 ∧ m.length ≤ p ∧ own m' p = some (bys (sbU s.1)))) ?_ (0, .nils) _ _ rfl ⟨by omega, .refl _ _, .inl ⟨rfl, rfl⟩⟩
  rintro ⟨i, x⟩ m' X ⟨hi, hk, hx⟩ hX
  dsimp only at hi hx hX ⊢
  have hl := hk.len
  by_cases hlt : i < 256
  · simp -implicitDefEqProofs (disch := (first | omega | (simp only [lenB] <;> omega) | fail)) only [admQ, lenB, aFill, ↓reduceIte, reduceCtorEq, if_true, if_false, Nat.reduceAdd, Nat.reduceEqDiff, Nat.reduceMod, Nat.reduceLT, Nat.reduceLeDiff, Nat.reduceSub, Nat.reduceMul, Nat.reduceBEq, Int.reduceAdd, Int.reduceSub, Int.reduceMul, Int.reduceNeg, Int.reduceLT, Int.reduceLE, Int.reduceToNat, Int.reduceEq, Int.reduceBEq, wrap_u8]
    refine (ans_rS _ _).mono ?_
    rintro _ m1 ⟨rfl, rfl⟩
    have hs : sbU (i + 1) = sbU i ++ [sb (BitVec.ofNat 8 i)] := tab_succ _ _
    rcases hx with ⟨rfl, rfl⟩ | ⟨p, rfl, hp, ho⟩
    · have hg := app_nils1 (m := m1) (v := sb (BitVec.ofNat 8 0))
      simp -implicitDefEqProofs (disch := (first | omega | (simp only [lenB] <;> omega) | fail)) only [admQ, lenB, aFill, ↓reduceIte, reduceCtorEq, if_true, if_false, Nat.reduceAdd, Nat.reduceEqDiff, Nat.reduceMod, Nat.reduceLT, Nat.reduceLeDiff, Nat.reduceSub, Nat.reduceMul, Nat.reduceBEq, Int.reduceAdd, Int.reduceSub, Int.reduceMul, Int.reduceNeg, Int.reduceLT, Int.reduceLE, Int.reduceToNat, Int.reduceEq, Int.reduceBEq, hg]
      exact hX (1, .sl (m1.length + 1) 0 1 1 1) _ _ rfl (by simp) ⟨by simp, hk.more_app _, .inr ⟨_, rfl, by omega, by simp -implicitDefEqProofs (disch := (first | omega | (simp only [lenB] <;> omega) | fail)) only [admQ, lenB, aFill, ↓reduceIte, reduceCtorEq, if_true, if_false, Nat.reduceAdd, Nat.reduceEqDiff, Nat.reduceMod, Nat.reduceLT, Nat.reduceLeDiff, Nat.reduceSub, Nat.reduceMul, Nat.reduceBEq, Int.reduceAdd, Int.reduceSub, Int.reduceMul, Int.reduceNeg, Int.reduceLT, Int.reduceLE, Int.reduceToNat, Int.reduceEq, Int.reduceBEq]; rfl⟩⟩
    · have hg := app_grow1 (v := sb (BitVec.ofNat 8 i)) ho (sbU_len i) (by omega)
      simp -implicitDefEqProofs (disch := (first | omega | (simp only [lenB] <;> omega) | fail)) only [admQ, lenB, aFill, ↓reduceIte, reduceCtorEq, if_true, if_false, Nat.reduceAdd, Nat.reduceEqDiff, Nat.reduceMod, Nat.reduceLT, Nat.reduceLeDiff, Nat.reduceSub, Nat.reduceMul, Nat.reduceBEq, Int.reduceAdd, Int.reduceSub, Int.reduceMul, Int.reduceNeg, Int.reduceLT, Int.reduceLE, Int.reduceToNat, Int.reduceEq, Int.reduceBEq, hg]
      exact hX (i + 1, .sl (m1.length + 1) 0 (i + 1) (i + 1) 1) _ _ rfl (by simp; omega) ⟨by simp; omega, (hk.write (.inr hp) _).more_app _, .inr ⟨_, rfl, by omega, by simp -implicitDefEqProofs (disch := (first | omega | (simp only [lenB] <;> omega) | fail)) only [admQ, lenB, aFill, ↓reduceIte, reduceCtorEq, if_true, if_false, Nat.reduceAdd, Nat.reduceEqDiff, Nat.reduceMod, Nat.reduceLT, Nat.reduceLeDiff, Nat.reduceSub, Nat.reduceMul, Nat.reduceBEq, Int.reduceAdd, Int.reduceSub, Int.reduceMul, Int.reduceNeg, Int.reduceLT, Int.reduceLE, Int.reduceToNat, Int.reduceEq, Int.reduceBEq, hs]⟩⟩
  · obtain rfl : i = 256 := by omega
    rcases hx with ⟨h, _⟩ | ⟨p, rfl, hp, ho⟩
    · cases h
    · simp -implicitDefEqProofs (disch := (first | omega | (simp only [lenB] <;> omega) | fail)) only [admQ, lenB, aFill, ↓reduceIte, reduceCtorEq, if_true, if_false, Nat.reduceAdd, Nat.reduceEqDiff, Nat.reduceMod, Nat.reduceLT, Nat.reduceLeDiff, Nat.reduceSub, Nat.reduceMul, Nat.reduceBEq, Int.reduceAdd, Int.reduceSub, Int.reduceMul, Int.reduceNeg, Int.reduceLT, Int.reduceLE, Int.reduceToNat, Int.reduceEq, Int.reduceBEq]
      exact ⟨p, rfl, hk, hp, by rw [← sbU_all]; exact ho⟩
end Go.Proofs.Ythdkclkiegkabaa
