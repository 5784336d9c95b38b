/- Texts of this seat, joined (part 5 of 6): an abstract memory for Go programs, this seat's functions as abstract code, and what each of them does. -/
import Derived.Test.YtmnlmjlmbceimaaGreatDoorP4
set_option linter.unusedSimpArgs false
section
/- Sealing: sealed, and opened. -/
namespace Go.Proofs.YtmnlmjlmbceimaaGreatDoor
open Go Go.Adm
set_option linter.unusedSimpArgs false
set_option linter.unusedVariables false
set_option maxRecDepth 100000
theorem ans_seseal {m : Mem} {x c kb k : Nat} {key head b : List B8} {hx bx : AV} {e n : Int} (hs : SBox m x c kb k key) (hh : RdB m hx head) (hb : RdB m bx b) (hl : head.length ≤ 100000 ∧ b.length ≤ 100000) :
    Ans Tryz.prog 100 [.ptr x 0, .int .i64 e, .int .i64 n, hx, bx] m fun r m' => Kept [] m m' ∧ (placedP e n → GrB m.length m' r (sealB key head e n b)) ∧ (¬ placedP e n → r = .nils) := by
  refine ans_ret mixed ok100 ?_
  have hd := fun e => (Kept.app [] m e).row hs.hd (by simp)
  simp -implicitDefEqProofs (disch := (first | omega | (simp only [lenB, lowB_len, macB_len, tagB_len, turnB_len] <;> omega) | fail)) only [admQ, lenB, lowB_len, macB_len, tagB_len, turnB_len, aFill, AK.cls, implies_true, ↓reduceIte, reduceCtorEq, if_true, if_false, Nat.reduceAdd, Nat.reduceEqDiff, Nat.reduceMod, Nat.reduceLT, Nat.reduceLeDiff, Nat.reduceSub, Nat.reduceMul, Nat.reduceBEq, Int.reduceAdd, Int.reduceSub, Int.reduceMul, Int.reduceNeg, Int.reduceLT, Int.reduceLE, Int.reduceToNat, Int.reduceEq, Int.reduceBEq, c100, r100, hd]
  refine (ans_seplaced (by rw [rowOf_app_at0]; rfl)).mono ?_
  rintro _ _ ⟨rfl, rfl⟩
  by_cases hp : placedP e n
  · simp -implicitDefEqProofs (disch := (first | omega | (simp only [lenB, lowB_len, macB_len, tagB_len, turnB_len] <;> omega) | fail)) only [admQ, lenB, lowB_len, macB_len, tagB_len, turnB_len, aFill, AK.cls, implies_true, ↓reduceIte, reduceCtorEq, if_true, if_false, Nat.reduceAdd, Nat.reduceEqDiff, Nat.reduceMod, Nat.reduceLT, Nat.reduceLeDiff, Nat.reduceSub, Nat.reduceMul, Nat.reduceBEq, Int.reduceAdd, Int.reduceSub, Int.reduceMul, Int.reduceNeg, Int.reduceLT, Int.reduceLE, Int.reduceToNat, Int.reduceEq, Int.reduceBEq, decide_eq_true hp, hd, Bool.not_true]
    have k0 := Kept.app [] m [Blk.row [.int .i64 e, .int .i64 n] false]
    generalize m ++ [Blk.row [.int .i64 e, .int .i64 n] false] = A at k0
    refine (ans_ctrxor (hs.kept0 k0).ci e n (hb.kept0 k0) hl.2).mono ?_
    rintro _ m1 ⟨p, rfl, k1, hp1, o1⟩
    have hk1 := k0.trans k1
    change own m1 p = some (bys (turnB key e n b)) at o1
    have htl := turnB_len key e n b
    have rt := RdB.row (m := m1) (b := p) (l := turnB key e n b) b.length 0 (rowOf_own o1) (by omega)
    rw [htl] at rt
    simp -implicitDefEqProofs (disch := (first | omega | (simp only [lenB, lowB_len, macB_len, tagB_len, turnB_len] <;> omega) | fail)) only [admQ, lenB, lowB_len, macB_len, tagB_len, turnB_len, aFill, AK.cls, implies_true, ↓reduceIte, reduceCtorEq, if_true, if_false, Nat.reduceAdd, Nat.reduceEqDiff, Nat.reduceMod, Nat.reduceLT, Nat.reduceLeDiff, Nat.reduceSub, Nat.reduceMul, Nat.reduceBEq, Int.reduceAdd, Int.reduceSub, Int.reduceMul, Int.reduceNeg, Int.reduceLT, Int.reduceLE, Int.reduceToNat, Int.reduceEq, Int.reduceBEq]
    refine (ans_setag (hs.kept0 hk1) (hh.kept0 hk1) rt hp ⟨by omega, by omega⟩).mono ?_
    rintro _ m2 ⟨rfl, k2⟩
    have hgl := tagB_len key head e n (turnB key e n b)
    simp -implicitDefEqProofs (disch := (first | omega | (simp only [lenB, lowB_len, macB_len, tagB_len, turnB_len] <;> omega) | fail)) only [admQ, lenB, lowB_len, macB_len, tagB_len, turnB_len, aFill, AK.cls, implies_true, ↓reduceIte, reduceCtorEq, if_true, if_false, Nat.reduceAdd, Nat.reduceEqDiff, Nat.reduceMod, Nat.reduceLT, Nat.reduceLeDiff, Nat.reduceSub, Nat.reduceMul, Nat.reduceBEq, Int.reduceAdd, Int.reduceSub, Int.reduceMul, Int.reduceNeg, Int.reduceLT, Int.reduceLE, Int.reduceToNat, Int.reduceEq, Int.reduceBEq]
    have k2' := hk1.trans k2
    have kC := k2'.more_app [Blk.row (bys (tagB key head e n (turnB key e n b))) false, Blk.row [.sl p 0 b.length b.length 0, .sl m2.length 0 32 32 0] false]
    have rT : RdB (m2 ++ [Blk.row (bys (tagB key head e n (turnB key e n b))) false, Blk.row [.sl p 0 b.length b.length 0, .sl m2.length 0 32 32 0] false]) (.sl m2.length 0 32 32 0) (tagB key head e n (turnB key e n b)) := by
      have := RdB.row (m := m2 ++ [Blk.row (bys (tagB key head e n (turnB key e n b))) false, Blk.row [.sl p 0 b.length b.length 0, .sl m2.length 0 32 32 0] false]) (b := m2.length) (l := tagB key head e n (turnB key e n b)) 32 0 (by rw [rowOf_app_at0]; rfl) (by omega)
      rwa [hgl] at this
    refine (ans_sejoin (k := 2) (ls := [turnB key e n b, tagB key head e n (turnB key e n b)]) (by rw [rowOf_app_at]; rfl) (.cons ((rt.kept0 k2).app _) (.cons rT (.nil _))) rfl ⟨by omega, by simp [htl, hgl]; omega⟩).mono ?_
    rintro r m3 ⟨k3, g3⟩
    simp -implicitDefEqProofs (disch := (first | omega | (simp only [lenB, lowB_len, macB_len, tagB_len, turnB_len] <;> omega) | fail)) only [admQ, lenB, lowB_len, macB_len, tagB_len, turnB_len, aFill, AK.cls, implies_true, ↓reduceIte, reduceCtorEq, if_true, if_false, Nat.reduceAdd, Nat.reduceEqDiff, Nat.reduceMod, Nat.reduceLT, Nat.reduceLeDiff, Nat.reduceSub, Nat.reduceMul, Nat.reduceBEq, Int.reduceAdd, Int.reduceSub, Int.reduceMul, Int.reduceNeg, Int.reduceLT, Int.reduceLE, Int.reduceToNat, Int.reduceEq, Int.reduceBEq]
    have hlC := kC.len
    refine ⟨kC.trans k3, fun _ => ?_, fun h => absurd hp h⟩
    have e1 : [turnB key e n b, tagB key head e n (turnB key e n b)].flatten = sealB key head e n b := by simp [sealB]
    rw [e1] at g3
    exact g3.low hlC
  · simp -implicitDefEqProofs (disch := (first | omega | (simp only [lenB, lowB_len, macB_len, tagB_len, turnB_len] <;> omega) | fail)) only [admQ, lenB, lowB_len, macB_len, tagB_len, turnB_len, aFill, AK.cls, implies_true, ↓reduceIte, reduceCtorEq, if_true, if_false, Nat.reduceAdd, Nat.reduceEqDiff, Nat.reduceMod, Nat.reduceLT, Nat.reduceLeDiff, Nat.reduceSub, Nat.reduceMul, Nat.reduceBEq, Int.reduceAdd, Int.reduceSub, Int.reduceMul, Int.reduceNeg, Int.reduceLT, Int.reduceLE, Int.reduceToNat, Int.reduceEq, Int.reduceBEq, decide_eq_false hp, Bool.not_false]
    exact ⟨.app _ _ _, fun h => absurd h hp⟩
/-- Was it sealed so? -/
def openP (key head : List B8) (e n : Int) (s : List B8) : Prop := placedP e n ∧ 32 ≤ s.length ∧ tagB key head e n (s.take (s.length - 32)) = s.drop (s.length - 32)
theorem ans_seopen {m : Mem} {x c kb k : Nat} {key head b : List B8} {hx bx : AV} {e n : Int} (hs : SBox m x c kb k key) (hh : RdB m hx head) (hb : RdB m bx b) (hl : head.length ≤ 100000 ∧ b.length ≤ 100000) :
    Ans Tryz.prog 99 [.ptr x 0, .int .i64 e, .int .i64 n, hx, bx] m fun r m' => Kept [] m m' ∧ (openP key head e n b → ∃ p, m.length ≤ p ∧ r = .tup [.sl p 0 (b.length - 32) (b.length - 32) 0, .bool true] ∧ own m' p = some (bys (turnB key e n (b.take (b.length - 32))))) ∧ (¬ openP key head e n b → r = .tup [.nils, .bool false]) := by
  refine ans_ret mixed ok99 ?_
  have hd := fun e => (Kept.app [] m e).row hs.hd (by simp)
  simp -implicitDefEqProofs (disch := (first | omega | (simp only [lenB, lowB_len, macB_len, tagB_len, turnB_len] <;> omega) | fail)) only [admQ, lenB, lowB_len, macB_len, tagB_len, turnB_len, aFill, AK.cls, implies_true, ↓reduceIte, reduceCtorEq, if_true, if_false, Nat.reduceAdd, Nat.reduceEqDiff, Nat.reduceMod, Nat.reduceLT, Nat.reduceLeDiff, Nat.reduceSub, Nat.reduceMul, Nat.reduceBEq, Int.reduceAdd, Int.reduceSub, Int.reduceMul, Int.reduceNeg, Int.reduceLT, Int.reduceLE, Int.reduceToNat, Int.reduceEq, Int.reduceBEq, c99, r99, hd, hb.len]
  refine (ans_seplaced (by rw [rowOf_app_at0]; rfl)).mono ?_
  rintro _ _ ⟨rfl, rfl⟩
  by_cases hp : placedP e n
  · simp -implicitDefEqProofs (disch := (first | omega | (simp only [lenB, lowB_len, macB_len, tagB_len, turnB_len] <;> omega) | fail)) only [admQ, lenB, lowB_len, macB_len, tagB_len, turnB_len, aFill, AK.cls, implies_true, ↓reduceIte, reduceCtorEq, if_true, if_false, Nat.reduceAdd, Nat.reduceEqDiff, Nat.reduceMod, Nat.reduceLT, Nat.reduceLeDiff, Nat.reduceSub, Nat.reduceMul, Nat.reduceBEq, Int.reduceAdd, Int.reduceSub, Int.reduceMul, Int.reduceNeg, Int.reduceLT, Int.reduceLE, Int.reduceToNat, Int.reduceEq, Int.reduceBEq, decide_eq_true hp, hd, Bool.not_true]
    have k0 := Kept.app [] m [Blk.row [.int .i64 e, .int .i64 n] false]
    generalize m ++ [Blk.row [.int .i64 e, .int .i64 n] false] = A at k0
    by_cases h32 : b.length < 32
    · have hno : ¬ openP key head e n b := fun h => by have := h.2.1; omega
      simp -implicitDefEqProofs (disch := (first | omega | (simp only [lenB, lowB_len, macB_len, tagB_len, turnB_len] <;> omega) | fail)) only [admQ, lenB, lowB_len, macB_len, tagB_len, turnB_len, aFill, AK.cls, implies_true, ↓reduceIte, reduceCtorEq, if_true, if_false, Nat.reduceAdd, Nat.reduceEqDiff, Nat.reduceMod, Nat.reduceLT, Nat.reduceLeDiff, Nat.reduceSub, Nat.reduceMul, Nat.reduceBEq, Int.reduceAdd, Int.reduceSub, Int.reduceMul, Int.reduceNeg, Int.reduceLT, Int.reduceLE, Int.reduceToNat, Int.reduceEq, Int.reduceBEq]
      exact ⟨k0, fun h => absurd h hno⟩
    · rw [show (b.length : Int) - 32 = ((b.length - 32 : Nat) : Int) by omega]
      obtain ⟨q, o, cap, sl, cc, rfl, hrow, hat, hlen, hcap, hsl, htk⟩ := hb.cons (i := 0) (by omega)
      have hbA := hb.kept0 k0
      have hrA := k0.row hrow (by simp)
      simp -implicitDefEqProofs (disch := (first | omega | (simp only [lenB, lowB_len, macB_len, tagB_len, turnB_len] <;> omega) | fail)) only [admQ, lenB, lowB_len, macB_len, tagB_len, turnB_len, aFill, AK.cls, implies_true, ↓reduceIte, reduceCtorEq, if_true, if_false, Nat.reduceAdd, Nat.reduceEqDiff, Nat.reduceMod, Nat.reduceLT, Nat.reduceLeDiff, Nat.reduceSub, Nat.reduceMul, Nat.reduceBEq, Int.reduceAdd, Int.reduceSub, Int.reduceMul, Int.reduceNeg, Int.reduceLT, Int.reduceLE, Int.reduceToNat, Int.reduceEq, Int.reduceBEq]
      refine (ans_setag (hs.kept0 k0) (hh.kept0 k0) (hbA.take (k := b.length - 32) (by omega)) hp ⟨by omega, by simp; omega⟩).mono ?_
      rintro _ m1 ⟨rfl, k1⟩
      have hr1 := k1.row hrA (by simp)
      have hcut : List.take 32 (List.drop (o + (b.length - 32)) cc) = bys (b.drop (b.length - 32)) := by
        show _ = (b.drop (b.length - 32)).map b8
        have h4 : b.map b8 = List.take b.length (List.drop o cc) := htk.symm
        rw [List.map_drop, h4, List.drop_take, List.drop_drop, show b.length - (b.length - 32) = 32 by omega]
      have hdl : (b.drop (b.length - 32)).length = 32 := by simp; omega
      simp -implicitDefEqProofs (disch := (first | omega | (simp only [lenB, lowB_len, macB_len, tagB_len, turnB_len] <;> omega) | fail)) only [admQ, lenB, lowB_len, macB_len, tagB_len, turnB_len, aFill, AK.cls, implies_true, ↓reduceIte, reduceCtorEq, if_true, if_false, Nat.reduceAdd, Nat.reduceEqDiff, Nat.reduceMod, Nat.reduceLT, Nat.reduceLeDiff, Nat.reduceSub, Nat.reduceMul, Nat.reduceBEq, Int.reduceAdd, Int.reduceSub, Int.reduceMul, Int.reduceNeg, Int.reduceLT, Int.reduceLE, Int.reduceToNat, Int.reduceEq, Int.reduceBEq, hr1, hrA, hcut]
      refine (ans_macsame (tagB_len _ _ _ _ _) hdl).mono ?_
      rintro _ m2 ⟨rfl, k2⟩
      have K2 := k0.trans (k1.trans k2)
      by_cases hok : tagB key head e n (b.take (b.length - 32)) = b.drop (b.length - 32)
      · have hyes : openP key head e n b := ⟨hp, by omega, hok⟩
        have hb2 := hb.kept0 K2
        simp -implicitDefEqProofs (disch := (first | omega | (simp only [lenB, lowB_len, macB_len, tagB_len, turnB_len] <;> omega) | fail)) only [admQ, lenB, lowB_len, macB_len, tagB_len, turnB_len, aFill, AK.cls, implies_true, ↓reduceIte, reduceCtorEq, if_true, if_false, Nat.reduceAdd, Nat.reduceEqDiff, Nat.reduceMod, Nat.reduceLT, Nat.reduceLeDiff, Nat.reduceSub, Nat.reduceMul, Nat.reduceBEq, Int.reduceAdd, Int.reduceSub, Int.reduceMul, Int.reduceNeg, Int.reduceLT, Int.reduceLE, Int.reduceToNat, Int.reduceEq, Int.reduceBEq, beq_iff_eq.mpr hok, Bool.not_true, (hs.kept0 K2).hd, k2.row hr1 (by simp), hcut]
        have h8 : (b.take (b.length - 32)).length = b.length - 32 := by simp
        refine (ans_ctrxor (hs.kept0 K2).ci e n (hb2.take (k := b.length - 32) (by omega)) (by omega)).mono ?_
        rintro _ m3 ⟨p, rfl, k3, hp3, o3⟩
        simp -implicitDefEqProofs (disch := (first | omega | (simp only [lenB, lowB_len, macB_len, tagB_len, turnB_len] <;> omega) | fail)) only [admQ, lenB, lowB_len, macB_len, tagB_len, turnB_len, aFill, AK.cls, implies_true, ↓reduceIte, reduceCtorEq, if_true, if_false, Nat.reduceAdd, Nat.reduceEqDiff, Nat.reduceMod, Nat.reduceLT, Nat.reduceLeDiff, Nat.reduceSub, Nat.reduceMul, Nat.reduceBEq, Int.reduceAdd, Int.reduceSub, Int.reduceMul, Int.reduceNeg, Int.reduceLT, Int.reduceLE, Int.reduceToNat, Int.reduceEq, Int.reduceBEq]
        rw [h8]
        have hl2 := K2.len
        exact ⟨K2.trans k3, fun _ => ⟨p, by omega, rfl, o3⟩, fun h => absurd hyes h⟩
      · have hno : ¬ openP key head e n b := fun h => hok h.2.2
        simp -implicitDefEqProofs (disch := (first | omega | (simp only [lenB, lowB_len, macB_len, tagB_len, turnB_len] <;> omega) | fail)) only [admQ, lenB, lowB_len, macB_len, tagB_len, turnB_len, aFill, AK.cls, implies_true, ↓reduceIte, reduceCtorEq, if_true, if_false, Nat.reduceAdd, Nat.reduceEqDiff, Nat.reduceMod, Nat.reduceLT, Nat.reduceLeDiff, Nat.reduceSub, Nat.reduceMul, Nat.reduceBEq, Int.reduceAdd, Int.reduceSub, Int.reduceMul, Int.reduceNeg, Int.reduceLT, Int.reduceLE, Int.reduceToNat, Int.reduceEq, Int.reduceBEq, beq_eq_false_iff_ne.mpr hok, Bool.not_false, k2.row hr1 (by simp), hcut]
        exact ⟨K2, fun h => absurd h hno⟩
  · have hno : ¬ openP key head e n b := fun h => hp h.1
    simp -implicitDefEqProofs (disch := (first | omega | (simp only [lenB, lowB_len, macB_len, tagB_len, turnB_len] <;> omega) | fail)) only [admQ, lenB, lowB_len, macB_len, tagB_len, turnB_len, aFill, AK.cls, implies_true, ↓reduceIte, reduceCtorEq, if_true, if_false, Nat.reduceAdd, Nat.reduceEqDiff, Nat.reduceMod, Nat.reduceLT, Nat.reduceLeDiff, Nat.reduceSub, Nat.reduceMul, Nat.reduceBEq, Int.reduceAdd, Int.reduceSub, Int.reduceMul, Int.reduceNeg, Int.reduceLT, Int.reduceLE, Int.reduceToNat, Int.reduceEq, Int.reduceBEq, decide_eq_false hp, Bool.not_false]
    exact ⟨.app _ _ _, fun h => absurd h hno⟩
end Go.Proofs.YtmnlmjlmbceimaaGreatDoor
end
section
/- Sealing: the chapter's example. -/
namespace Go.Proofs.YtmnlmjlmbceimaaGreatDoor
open Go Go.Adm
set_option linter.unusedSimpArgs false
set_option linter.unusedVariables false
set_option maxRecDepth 100000
theorem turnB_back (key : List B8) (e n : Int) (b : List B8) : turnB key e n (turnB key e n b) = b := by
  apply gb_ext (by rw [turnB_len, turnB_len])
  intro i hi
  rw [turnB_len, turnB_len] at hi
  unfold turnB xorB
  rw [gb_tab _ (by rw [tab_len]; exact hi), gb_tab _ hi]
  generalize ksAt _ _ _ _ i = z
  rw [BitVec.xor_assoc, BitVec.xor_self, BitVec.xor_zero]
theorem sealB_len (key head : List B8) (e n : Int) (b : List B8) : (sealB key head e n b).length = b.length + 32 := by rw [sealB, List.length_append, turnB_len, tagB_len]
theorem sealB_take (key head : List B8) (e n : Int) (b : List B8) : (sealB key head e n b).take ((sealB key head e n b).length - 32) = turnB key e n b := by
  rw [sealB_len, sealB, Nat.add_sub_cancel]
  exact List.take_left' (turnB_len _ _ _ _)
theorem sealB_drop (key head : List B8) (e n : Int) (b : List B8) : (sealB key head e n b).drop ((sealB key head e n b).length - 32) = tagB key head e n (turnB key e n b) := by
  rw [sealB_len, sealB, Nat.add_sub_cancel]
  exact List.drop_left' (turnB_len _ _ _ _)
theorem openP_seal {key head : List B8} {e n : Int} (b : List B8) (h : placedP e n) : openP key head e n (sealB key head e n b) :=
  ⟨h, by rw [sealB_len]; omega, by rw [sealB_take, sealB_drop]⟩
end Go.Proofs.YtmnlmjlmbceimaaGreatDoor
end
section
/- Digests as the document has them: turns, words, blocks. -/
namespace Go.Proofs.YtmnlmjlmbceimaaGreatDoor
open Go Go.Adm
set_option linter.unusedSimpArgs false
set_option linter.unusedVariables false
set_option maxRecDepth 100000
theorem ans_rsrot (x : W32) (n : Nat) (hn : n ≤ 32) (m : Mem) : Ans Tryz.prog 80 [.int .u64 n, b32 x] m fun r m' => r = b32 (rotR x n) ∧ m' = m := by
  refine ans_ret mixed ok80 ?_
  simp -implicitDefEqProofs (disch := (first | omega | (simp only [lenB, wS_len] <;> omega) | fail)) only [admQ, lenB, wS_len, aFill, AK.cls, implies_true, ↓reduceIte, reduceCtorEq, if_true, if_false, Nat.reduceAdd, Nat.reduceEqDiff, Nat.reduceMod, Nat.reduceLT, Nat.reduceLeDiff, Nat.reduceSub, Nat.reduceMul, Nat.reduceBEq, Int.reduceAdd, Int.reduceSub, Int.reduceMul, Int.reduceNeg, Int.reduceLT, Int.reduceLE, Int.reduceToNat, Int.reduceEq, Int.reduceBEq, c80, r80, u32R, @w64]
  rfl
theorem ans_rswords {m : Mem} {x : AV} {B : List B8} (hB : RdB m x B) (h64 : B.length = 64) :
    Ans Tryz.prog 79 [x] m fun r m' => Kept [] m m' ∧ GrA 1 m.length m' r (wds (wS B 64)) := by
  refine ans_ret mixed ok79 ?_
  obtain ⟨b, o, cap, sl, c, rfl, hrow, hat, hlen, hcap, hsl, _⟩ := hB.cons (i := 0) (by omega)
  rw [h64] at hat hlen hcap
  rw [show B.length = 64 from h64]
  simp -implicitDefEqProofs (disch := (first | omega | (simp only [lenB, wS_len] <;> omega) | fail)) only [admQ, lenB, wS_len, aFill, AK.cls, implies_true, ↓reduceIte, reduceCtorEq, if_true, if_false, Nat.reduceAdd, Nat.reduceEqDiff, Nat.reduceMod, Nat.reduceLT, Nat.reduceLeDiff, Nat.reduceSub, Nat.reduceMul, Nat.reduceBEq, Int.reduceAdd, Int.reduceSub, Int.reduceMul, Int.reduceNeg, Int.reduceLT, Int.reduceLE, Int.reduceToNat, Int.reduceEq, Int.reduceBEq, c79, r79]
  refine LoopW.on (fun t : Nat × AV => [(0, .sl b o 64 cap sl), (3, t.2), (4, .int .i64 t.1)]) (fun t => 16 - t.1) (fun t M => t.1 ≤ 16 ∧ Kept [] m M ∧ GrA 1 m.length M t.2 (wds (wS B t.1))) ?_ (0, .nils) _ _ rfl ⟨by simp, .refl _ _, .nils ..⟩
  rintro ⟨i, y⟩ M X ⟨hi, kk, g⟩ hX
  change GrA 1 m.length M y (wds (wS B i)) at g
  simp only at hi
  by_cases hlt : i < 16
  · have hr := kk.row hrow (by simp)
    simp -implicitDefEqProofs (disch := (first | omega | (simp only [lenB, wS_len] <;> omega) | fail)) only [admQ, lenB, wS_len, aFill, AK.cls, implies_true, ↓reduceIte, reduceCtorEq, if_true, if_false, Nat.reduceAdd, Nat.reduceEqDiff, Nat.reduceMod, Nat.reduceLT, Nat.reduceLeDiff, Nat.reduceSub, Nat.reduceMul, Nat.reduceBEq, Int.reduceAdd, Int.reduceSub, Int.reduceMul, Int.reduceNeg, Int.reduceLT, Int.reduceLE, Int.reduceToNat, Int.reduceEq, Int.reduceBEq, u32R, hr, hat]
    obtain ⟨x3, m3, e3, g3, k3, a3⟩ := g.push (bytes := 4) (by omega) (l := [b32 (wd0 B i)]) rfl (by simp [wS_len]; omega) kk.len
    refine someW_eq e3 ?_
    simp -implicitDefEqProofs (disch := (first | omega | (simp only [lenB, wS_len] <;> omega) | fail)) only [admQ, lenB, wS_len, aFill, AK.cls, implies_true, ↓reduceIte, reduceCtorEq, if_true, if_false, Nat.reduceAdd, Nat.reduceEqDiff, Nat.reduceMod, Nat.reduceLT, Nat.reduceLeDiff, Nat.reduceSub, Nat.reduceMul, Nat.reduceBEq, Int.reduceAdd, Int.reduceSub, Int.reduceMul, Int.reduceNeg, Int.reduceLT, Int.reduceLE, Int.reduceToNat, Int.reduceEq, Int.reduceBEq]
    refine hX (i + 1, x3) _ _ rfl (by simp only; omega) ⟨by simp only; omega, a3 _ _ kk (Nat.le_refl _), ?_⟩
    show GrA 1 m.length m3 x3 (wds (wS B (i + 1)))
    rw [wS, if_pos hlt, wds, List.map_append]; exact g3
  · obtain rfl : i = 16 := by omega
    simp -implicitDefEqProofs (disch := (first | omega | (simp only [lenB, wS_len] <;> omega) | fail)) only [admQ, lenB, wS_len, aFill, AK.cls, implies_true, ↓reduceIte, reduceCtorEq, if_true, if_false, Nat.reduceAdd, Nat.reduceEqDiff, Nat.reduceMod, Nat.reduceLT, Nat.reduceLeDiff, Nat.reduceSub, Nat.reduceMul, Nat.reduceBEq, Int.reduceAdd, Int.reduceSub, Int.reduceMul, Int.reduceNeg, Int.reduceLT, Int.reduceLE, Int.reduceToNat, Int.reduceEq, Int.reduceBEq]
    clear hX X
    refine LoopW.on (fun t : Nat × AV => [(3, t.2), (5, .int .i64 t.1)]) (fun t => 64 - t.1) (fun t M => 16 ≤ t.1 ∧ t.1 ≤ 64 ∧ Kept [] m M ∧ GrA 1 m.length M t.2 (wds (wS B t.1))) ?_ (16, y) _ _ rfl ⟨by simp, by simp, kk, g⟩
    clear kk g hi hlt M y
    rintro ⟨i, y⟩ M X ⟨h16, hi, kk, g⟩ hX
    change GrA 1 m.length M y (wds (wS B i)) at g
    simp only at hi h16
    have hwl : (wds (wS B i)).length = i := by rw [wds_len, wS_len]
    by_cases hlt : i < 64
    · obtain ⟨q, n, rfl, hn0, hn, hq, hq0⟩ := g.sl (by intro e; rw [e] at hwl; simp at hwl; omega)
      obtain rfl : n = i := by omega
      have hw : ∀ j, j < n → (wds (wS B n))[j]? = some (b32 (gw (wS B n) j)) := fun j hj => wds_at (by rw [wS_len]; exact hj)
      simp -implicitDefEqProofs (disch := (first | omega | (simp only [lenB, wS_len] <;> omega) | fail)) only [admQ, lenB, wS_len, aFill, AK.cls, implies_true, ↓reduceIte, reduceCtorEq, if_true, if_false, Nat.reduceAdd, Nat.reduceEqDiff, Nat.reduceMod, Nat.reduceLT, Nat.reduceLeDiff, Nat.reduceSub, Nat.reduceMul, Nat.reduceBEq, Int.reduceAdd, Int.reduceSub, Int.reduceMul, Int.reduceNeg, Int.reduceLT, Int.reduceLE, Int.reduceToNat, Int.reduceEq, Int.reduceBEq, u32R, rowOf_own hq, hw]
      refine (ans_rsrot _ 17 (by omega) _).mono ?_
      rintro _ _ ⟨rfl, rfl⟩
      simp -implicitDefEqProofs (disch := (first | omega | (simp only [lenB, wS_len] <;> omega) | fail)) only [admQ, lenB, wS_len, aFill, AK.cls, implies_true, ↓reduceIte, reduceCtorEq, if_true, if_false, Nat.reduceAdd, Nat.reduceEqDiff, Nat.reduceMod, Nat.reduceLT, Nat.reduceLeDiff, Nat.reduceSub, Nat.reduceMul, Nat.reduceBEq, Int.reduceAdd, Int.reduceSub, Int.reduceMul, Int.reduceNeg, Int.reduceLT, Int.reduceLE, Int.reduceToNat, Int.reduceEq, Int.reduceBEq, u32R, rowOf_own hq, hw]
      refine (ans_rsrot _ 19 (by omega) _).mono ?_
      rintro _ _ ⟨rfl, rfl⟩
      simp -implicitDefEqProofs (disch := (first | omega | (simp only [lenB, wS_len] <;> omega) | fail)) only [admQ, lenB, wS_len, aFill, AK.cls, implies_true, ↓reduceIte, reduceCtorEq, if_true, if_false, Nat.reduceAdd, Nat.reduceEqDiff, Nat.reduceMod, Nat.reduceLT, Nat.reduceLeDiff, Nat.reduceSub, Nat.reduceMul, Nat.reduceBEq, Int.reduceAdd, Int.reduceSub, Int.reduceMul, Int.reduceNeg, Int.reduceLT, Int.reduceLE, Int.reduceToNat, Int.reduceEq, Int.reduceBEq, u32R, rowOf_own hq, hw]
      refine (ans_rsrot _ 7 (by omega) _).mono ?_
      rintro _ _ ⟨rfl, rfl⟩
      simp -implicitDefEqProofs (disch := (first | omega | (simp only [lenB, wS_len] <;> omega) | fail)) only [admQ, lenB, wS_len, aFill, AK.cls, implies_true, ↓reduceIte, reduceCtorEq, if_true, if_false, Nat.reduceAdd, Nat.reduceEqDiff, Nat.reduceMod, Nat.reduceLT, Nat.reduceLeDiff, Nat.reduceSub, Nat.reduceMul, Nat.reduceBEq, Int.reduceAdd, Int.reduceSub, Int.reduceMul, Int.reduceNeg, Int.reduceLT, Int.reduceLE, Int.reduceToNat, Int.reduceEq, Int.reduceBEq, u32R, rowOf_own hq, hw]
      refine (ans_rsrot _ 18 (by omega) _).mono ?_
      rintro _ _ ⟨rfl, rfl⟩
      simp -implicitDefEqProofs (disch := (first | omega | (simp only [lenB, wS_len] <;> omega) | fail)) only [admQ, lenB, wS_len, aFill, AK.cls, implies_true, ↓reduceIte, reduceCtorEq, if_true, if_false, Nat.reduceAdd, Nat.reduceEqDiff, Nat.reduceMod, Nat.reduceLT, Nat.reduceLeDiff, Nat.reduceSub, Nat.reduceMul, Nat.reduceBEq, Int.reduceAdd, Int.reduceSub, Int.reduceMul, Int.reduceNeg, Int.reduceLT, Int.reduceLE, Int.reduceToNat, Int.reduceEq, Int.reduceBEq, u32R, rowOf_own hq, hw]
      obtain ⟨x3, m3, e3, g3, k3, a3⟩ := g.push (bytes := 4) (by omega) (l := [b32 (wdN (wS B n) n)]) rfl (by simp [wS_len]; omega) kk.len
      refine someW_eq e3 ?_
      simp -implicitDefEqProofs (disch := (first | omega | (simp only [lenB, wS_len] <;> omega) | fail)) only [admQ, lenB, wS_len, aFill, AK.cls, implies_true, ↓reduceIte, reduceCtorEq, if_true, if_false, Nat.reduceAdd, Nat.reduceEqDiff, Nat.reduceMod, Nat.reduceLT, Nat.reduceLeDiff, Nat.reduceSub, Nat.reduceMul, Nat.reduceBEq, Int.reduceAdd, Int.reduceSub, Int.reduceMul, Int.reduceNeg, Int.reduceLT, Int.reduceLE, Int.reduceToNat, Int.reduceEq, Int.reduceBEq]
      refine hX (n + 1, x3) _ _ rfl (by simp only; omega) ⟨by simp only; omega, by simp only; omega, a3 _ _ kk (Nat.le_refl _), ?_⟩
      show GrA 1 m.length m3 x3 (wds (wS B (n + 1)))
      rw [wS, if_neg (by omega), wds, List.map_append]; exact g3
    · obtain rfl : i = 64 := by omega
      simp -implicitDefEqProofs (disch := (first | omega | (simp only [lenB, wS_len] <;> omega) | fail)) only [admQ, lenB, wS_len, aFill, AK.cls, implies_true, ↓reduceIte, reduceCtorEq, if_true, if_false, Nat.reduceAdd, Nat.reduceEqDiff, Nat.reduceMod, Nat.reduceLT, Nat.reduceLeDiff, Nat.reduceSub, Nat.reduceMul, Nat.reduceBEq, Int.reduceAdd, Int.reduceSub, Int.reduceMul, Int.reduceNeg, Int.reduceLT, Int.reduceLE, Int.reduceToNat, Int.reduceEq, Int.reduceBEq]
      exact ⟨kk, g⟩
/-- A slice of eight words: a state. -/
def St8 (m : Mem) (x : AV) (s : S8) : Prop := ∃ b cap z, x = .sl b 0 8 cap z ∧ rowOf m b = some s.cells ∧ 8 ≤ cap
theorem St8.kept0 {m m' : Mem} {x : AV} {s : S8} (h : St8 m x s) (hk : Kept [] m m') : St8 m' x s :=
  let ⟨b, cap, z, h1, h2, h3⟩ := h
  ⟨b, cap, z, h1, hk.row h2 (by simp), h3⟩
theorem St8.elems {m : Mem} {x : AV} {s : S8} (h : St8 m x s) : Adm.elems 1 8 x m = some s.cells ∧ Adm.lenA x = some 8 := by
  obtain ⟨b, cap, z, rfl, h2, h3⟩ := h
  refine ⟨?_, rfl⟩
  unfold Adm.elems
  simp only [h2, Option.bind_some]
  rfl
theorem St8.of_gr {m0 : Nat} {m : Mem} {x : AV} {s : S8} (g : GrA 1 m0 m x s.cells) : St8 m x s := by
  obtain ⟨b, n, rfl, _, hn, hb, _⟩ := g.sl (by simp [S8.cells_eq])
  rw [S8.cells_len] at hn
  obtain rfl : n = 8 := by omega
  exact ⟨b, 8, 1, rfl, rowOf_own hb, Nat.le_refl _⟩
theorem rnd_cells (r : S8) (k w : W32) : (r.rnd k w).cells = [b32 (r.t1 k w + (rotR r.a 2 ^^^ rotR r.a 13 ^^^ rotR r.a 22) + (r.a &&& r.b ^^^ r.a &&& r.c ^^^ r.b &&& r.c)), b32 r.a, b32 r.b, b32 r.c, b32 (r.d + r.t1 k w), b32 r.e, b32 r.f, b32 r.g] := by
  rw [S8.cells_eq, S8.rnd, S8.t2, BitVec.add_assoc]
theorem add_gw (s r : S8) {i : Nat} (h : i < 8) : gw s.l i + gw r.l i = gw (s.add r).l i := by
  rcases (show i = 0 ∨ i = 1 ∨ i = 2 ∨ i = 3 ∨ i = 4 ∨ i = 5 ∨ i = 6 ∨ i = 7 by omega) with rfl | rfl | rfl | rfl | rfl | rfl | rfl | rfl <;> rfl
theorem take_gw {l : List W32} {i : Nat} (h : i < l.length) : l.take (i + 1) = l.take i ++ [gw l i] := by
  rw [List.take_add_one]; simp [gw, h]
set_option maxHeartbeats 2000000 in
theorem ans_rstake (s : S8) {m : Mem} {x y : AV} {B : List B8} (hK : rowOf m 1 = some (wds kT)) (hx : St8 m x s) (hB : RdB m y B) (h64 : B.length = 64) :
    Ans Tryz.prog 75 [x, y] m fun r m' => Kept [] m m' ∧ GrA 1 m.length m' r (s.take B).cells := by
  refine ans_ret mixed ok75 ?_
  simp -implicitDefEqProofs (disch := (first | omega | (simp only [lenB, wS_len] <;> omega) | fail)) only [admQ, lenB, wS_len, aFill, AK.cls, implies_true, ↓reduceIte, reduceCtorEq, if_true, if_false, Nat.reduceAdd, Nat.reduceEqDiff, Nat.reduceMod, Nat.reduceLT, Nat.reduceLeDiff, Nat.reduceSub, Nat.reduceMul, Nat.reduceBEq, Int.reduceAdd, Int.reduceSub, Int.reduceMul, Int.reduceNeg, Int.reduceLT, Int.reduceLE, Int.reduceToNat, Int.reduceEq, Int.reduceBEq, c75, r75]
  refine (ans_rswords hB h64).mono ?_
  rintro w m1 ⟨k1, g1⟩
  have hw64 : (wds (wS B 64)).length = 64 := by rw [wds_len, wS_len]
  obtain ⟨q, n, rfl, hn0, hn, hq, hq0⟩ := g1.sl (by intro e; rw [e] at hw64; simp at hw64)
  obtain rfl : n = 64 := by omega
  simp -implicitDefEqProofs (disch := (first | omega | (simp only [lenB, wS_len] <;> omega) | fail)) only [admQ, lenB, wS_len, aFill, AK.cls, implies_true, ↓reduceIte, reduceCtorEq, if_true, if_false, Nat.reduceAdd, Nat.reduceEqDiff, Nat.reduceMod, Nat.reduceLT, Nat.reduceLeDiff, Nat.reduceSub, Nat.reduceMul, Nat.reduceBEq, Int.reduceAdd, Int.reduceSub, Int.reduceMul, Int.reduceNeg, Int.reduceLT, Int.reduceLE, Int.reduceToNat, Int.reduceEq, Int.reduceBEq]
  have gz : GrA 1 m.length (m1 ++ [Blk.row [] false]) (.sl m1.length 0 0 0 0) [] := .zero (by rw [own_app_at0]; rfl)
  have hx1 := (hx.kept0 k1).kept0 (.app [] m1 [Blk.row [] false])
  have hl1 := k1.len
  obtain ⟨x2, m2, e2, g2, k2, a2⟩ := gz.pushs (bytes := 4) (by omega) hx1.elems.1 hx1.elems.2 (by rw [S8.cells_len]) (by simp) (by simp; omega)
  refine someW_eq e2 ?_
  have K2 := a2 _ _ (k1.more_app [Blk.row [] false]) (Nat.le_refl _)
  have hq2 : rowOf m2 q = some (wds (wS B 64)) := k2.row ((Kept.app [] m1 _).row (rowOf_own hq) (by simp)) (by have := own_lt hq; simp [blkOf]; omega)
  rw [List.nil_append] at g2
  have hx2 : St8 m2 x2 s := .of_gr g2
  have hK2 := K2.row hK (by simp)
  have hxs := hx.kept0 K2
  clear e2 a2 k2 gz hx1 g1 hq hq0 hl1
  simp -implicitDefEqProofs (disch := (first | omega | (simp only [lenB, wS_len] <;> omega) | fail)) only [admQ, lenB, wS_len, aFill, AK.cls, implies_true, ↓reduceIte, reduceCtorEq, if_true, if_false, Nat.reduceAdd, Nat.reduceEqDiff, Nat.reduceMod, Nat.reduceLT, Nat.reduceLeDiff, Nat.reduceSub, Nat.reduceMul, Nat.reduceBEq, Int.reduceAdd, Int.reduceSub, Int.reduceMul, Int.reduceNeg, Int.reduceLT, Int.reduceLE, Int.reduceToNat, Int.reduceEq, Int.reduceBEq]
  have hkT : ∀ j, j < 64 → (wds kT)[j]? = some (b32 (gw kT j)) := fun j hj => wds_at hj
  have hw : ∀ j, j < 64 → (wds (wS B 64))[j]? = some (b32 (gw (wS B 64) j)) := fun j hj => wds_at (by rw [wS_len]; exact hj)
  refine LoopW.on (fun t : Nat × AV => [(0, x), (5, .sl q 0 64 64 1), (6, t.2), (7, .int .i64 t.1)]) (fun t => 64 - t.1) (fun t M => t.1 ≤ 64 ∧ Kept [] m2 M ∧ St8 M t.2 (s.rnds (wS B 64) t.1)) ?_ (0, x2) _ _ rfl ⟨by simp, .refl _ _, hx2⟩
  rintro ⟨i, z⟩ M X ⟨hi, kk, h8⟩ hX
  change St8 M z (s.rnds (wS B 64) i) at h8
  simp only at hi
  generalize hr : s.rnds (wS B 64) i = r at h8
  by_cases hlt : i < 64
  · obtain ⟨b, cap, sz, rfl, hrow, hcap⟩ := h8
    rw [S8.cells_eq] at hrow
    have hqM := kk.row hq2 (by simp)
    have hKM := kk.row hK2 (by simp)
    simp -implicitDefEqProofs (disch := (first | omega | (simp only [lenB, wS_len] <;> omega) | fail)) only [admQ, lenB, wS_len, aFill, AK.cls, implies_true, ↓reduceIte, reduceCtorEq, if_true, if_false, Nat.reduceAdd, Nat.reduceEqDiff, Nat.reduceMod, Nat.reduceLT, Nat.reduceLeDiff, Nat.reduceSub, Nat.reduceMul, Nat.reduceBEq, Int.reduceAdd, Int.reduceSub, Int.reduceMul, Int.reduceNeg, Int.reduceLT, Int.reduceLE, Int.reduceToNat, Int.reduceEq, Int.reduceBEq, u32R, hrow, hqM, hKM, hw, hkT]
    refine (ans_rsrot _ 6 (by omega) _).mono ?_
    rintro _ _ ⟨rfl, rfl⟩
    simp -implicitDefEqProofs (disch := (first | omega | (simp only [lenB, wS_len] <;> omega) | fail)) only [admQ, lenB, wS_len, aFill, AK.cls, implies_true, ↓reduceIte, reduceCtorEq, if_true, if_false, Nat.reduceAdd, Nat.reduceEqDiff, Nat.reduceMod, Nat.reduceLT, Nat.reduceLeDiff, Nat.reduceSub, Nat.reduceMul, Nat.reduceBEq, Int.reduceAdd, Int.reduceSub, Int.reduceMul, Int.reduceNeg, Int.reduceLT, Int.reduceLE, Int.reduceToNat, Int.reduceEq, Int.reduceBEq, u32R, hrow, hqM, hKM, hw, hkT]
    refine (ans_rsrot _ 11 (by omega) _).mono ?_
    rintro _ _ ⟨rfl, rfl⟩
    simp -implicitDefEqProofs (disch := (first | omega | (simp only [lenB, wS_len] <;> omega) | fail)) only [admQ, lenB, wS_len, aFill, AK.cls, implies_true, ↓reduceIte, reduceCtorEq, if_true, if_false, Nat.reduceAdd, Nat.reduceEqDiff, Nat.reduceMod, Nat.reduceLT, Nat.reduceLeDiff, Nat.reduceSub, Nat.reduceMul, Nat.reduceBEq, Int.reduceAdd, Int.reduceSub, Int.reduceMul, Int.reduceNeg, Int.reduceLT, Int.reduceLE, Int.reduceToNat, Int.reduceEq, Int.reduceBEq, u32R, hrow, hqM, hKM, hw, hkT]
    refine (ans_rsrot _ 25 (by omega) _).mono ?_
    rintro _ _ ⟨rfl, rfl⟩
    simp -implicitDefEqProofs (disch := (first | omega | (simp only [lenB, wS_len] <;> omega) | fail)) only [admQ, lenB, wS_len, aFill, AK.cls, implies_true, ↓reduceIte, reduceCtorEq, if_true, if_false, Nat.reduceAdd, Nat.reduceEqDiff, Nat.reduceMod, Nat.reduceLT, Nat.reduceLeDiff, Nat.reduceSub, Nat.reduceMul, Nat.reduceBEq, Int.reduceAdd, Int.reduceSub, Int.reduceMul, Int.reduceNeg, Int.reduceLT, Int.reduceLE, Int.reduceToNat, Int.reduceEq, Int.reduceBEq, u32R, hrow, hqM, hKM, hw, hkT]
    refine (ans_rsrot _ 2 (by omega) _).mono ?_
    rintro _ _ ⟨rfl, rfl⟩
    simp -implicitDefEqProofs (disch := (first | omega | (simp only [lenB, wS_len] <;> omega) | fail)) only [admQ, lenB, wS_len, aFill, AK.cls, implies_true, ↓reduceIte, reduceCtorEq, if_true, if_false, Nat.reduceAdd, Nat.reduceEqDiff, Nat.reduceMod, Nat.reduceLT, Nat.reduceLeDiff, Nat.reduceSub, Nat.reduceMul, Nat.reduceBEq, Int.reduceAdd, Int.reduceSub, Int.reduceMul, Int.reduceNeg, Int.reduceLT, Int.reduceLE, Int.reduceToNat, Int.reduceEq, Int.reduceBEq, u32R, hrow, hqM, hKM, hw, hkT]
    refine (ans_rsrot _ 13 (by omega) _).mono ?_
    rintro _ _ ⟨rfl, rfl⟩
    simp -implicitDefEqProofs (disch := (first | omega | (simp only [lenB, wS_len] <;> omega) | fail)) only [admQ, lenB, wS_len, aFill, AK.cls, implies_true, ↓reduceIte, reduceCtorEq, if_true, if_false, Nat.reduceAdd, Nat.reduceEqDiff, Nat.reduceMod, Nat.reduceLT, Nat.reduceLeDiff, Nat.reduceSub, Nat.reduceMul, Nat.reduceBEq, Int.reduceAdd, Int.reduceSub, Int.reduceMul, Int.reduceNeg, Int.reduceLT, Int.reduceLE, Int.reduceToNat, Int.reduceEq, Int.reduceBEq, u32R, hrow, hqM, hKM, hw, hkT]
    refine (ans_rsrot _ 22 (by omega) _).mono ?_
    rintro _ _ ⟨rfl, rfl⟩
    simp -implicitDefEqProofs (disch := (first | omega | (simp only [lenB, wS_len] <;> omega) | fail)) only [admQ, lenB, wS_len, aFill, AK.cls, implies_true, ↓reduceIte, reduceCtorEq, if_true, if_false, Nat.reduceAdd, Nat.reduceEqDiff, Nat.reduceMod, Nat.reduceLT, Nat.reduceLeDiff, Nat.reduceSub, Nat.reduceMul, Nat.reduceBEq, Int.reduceAdd, Int.reduceSub, Int.reduceMul, Int.reduceNeg, Int.reduceLT, Int.reduceLE, Int.reduceToNat, Int.reduceEq, Int.reduceBEq, u32R, hrow, hqM, hKM, hw, hkT]
    refine hX (i + 1, .sl _ 0 8 8 0) _ _ rfl (by simp only; omega) ⟨by simp only; omega, kk.more_app _, _, 8, 0, rfl, ?_, Nat.le_refl _⟩
    simp only
    rw [rowOf_app_at0, S8.rnds, hr, rnd_cells]; rfl
  · obtain rfl : i = 64 := by omega
    simp -implicitDefEqProofs (disch := (first | omega | (simp only [lenB, wS_len] <;> omega) | fail)) only [admQ, lenB, wS_len, aFill, AK.cls, implies_true, ↓reduceIte, reduceCtorEq, if_true, if_false, Nat.reduceAdd, Nat.reduceEqDiff, Nat.reduceMod, Nat.reduceLT, Nat.reduceLeDiff, Nat.reduceSub, Nat.reduceMul, Nat.reduceBEq, Int.reduceAdd, Int.reduceSub, Int.reduceMul, Int.reduceNeg, Int.reduceLT, Int.reduceLE, Int.reduceToNat, Int.reduceEq, Int.reduceBEq]
    clear hX X
    have KM := K2.trans kk
    have hsM := hxs.kept0 kk
    clear hK hx hB k1 hw64 K2 hq2 hx2 hK2 hxs hkT hw kk hi hlt
    have htk : s.take B = s.add r := by rw [S8.take, hr]
    rw [htk]
    clear htk hr
    have hsl : ∀ j, j < 8 → (wds s.l)[j]? = some (b32 (gw s.l j)) := fun j hj => wds_at (show j < 8 from hj)
    have hrl : ∀ j, j < 8 → (wds r.l)[j]? = some (b32 (gw r.l j)) := fun j hj => wds_at (show j < 8 from hj)
    refine LoopW.on (fun t : Nat × AV => [(0, x), (6, z), (13, t.2), (14, .int .i64 t.1)]) (fun t => 8 - t.1) (fun t N => t.1 ≤ 8 ∧ Kept [] M N ∧ Kept [] m N ∧ GrA 1 M.length N t.2 (wds ((s.add r).l.take t.1))) ?_ (0, .nils) _ _ rfl ⟨by simp, .refl _ _, KM, .nils ..⟩
    rintro ⟨i, v⟩ N X ⟨hi, kN, kmN, g⟩ hX
    change GrA 1 M.length N v (wds ((s.add r).l.take i)) at g
    simp only at hi
    have hal : (s.add r).l.length = 8 := rfl
    by_cases hlt : i < 8
    · obtain ⟨b1, c1, z1, rfl, hr1, hc1⟩ := hsM.kept0 kN
      obtain ⟨b2, c2, z2, rfl, hr2, hc2⟩ := h8.kept0 kN
      rw [S8.cells] at hr1 hr2
      simp -implicitDefEqProofs (disch := (first | omega | (simp only [lenB, wS_len] <;> omega) | fail)) only [admQ, lenB, wS_len, aFill, AK.cls, implies_true, ↓reduceIte, reduceCtorEq, if_true, if_false, Nat.reduceAdd, Nat.reduceEqDiff, Nat.reduceMod, Nat.reduceLT, Nat.reduceLeDiff, Nat.reduceSub, Nat.reduceMul, Nat.reduceBEq, Int.reduceAdd, Int.reduceSub, Int.reduceMul, Int.reduceNeg, Int.reduceLT, Int.reduceLE, Int.reduceToNat, Int.reduceEq, Int.reduceBEq, u32R, hr1, hr2, hsl, hrl]
      obtain ⟨x3, m3, e3, g3, k3, a3⟩ := g.push (bytes := 4) (by omega) (l := [b32 (gw s.l i + gw r.l i)]) rfl (by simp; omega) kN.len
      refine someW_eq e3 ?_
      simp -implicitDefEqProofs (disch := (first | omega | (simp only [lenB, wS_len] <;> omega) | fail)) only [admQ, lenB, wS_len, aFill, AK.cls, implies_true, ↓reduceIte, reduceCtorEq, if_true, if_false, Nat.reduceAdd, Nat.reduceEqDiff, Nat.reduceMod, Nat.reduceLT, Nat.reduceLeDiff, Nat.reduceSub, Nat.reduceMul, Nat.reduceBEq, Int.reduceAdd, Int.reduceSub, Int.reduceMul, Int.reduceNeg, Int.reduceLT, Int.reduceLE, Int.reduceToNat, Int.reduceEq, Int.reduceBEq]
      refine hX (i + 1, x3) _ _ rfl (by simp only; omega) ⟨by simp only; omega, a3 _ _ kN (Nat.le_refl _), a3 _ _ kmN KM.len, ?_⟩
      show GrA 1 M.length m3 x3 (wds ((s.add r).l.take (i + 1)))
      rw [take_gw (by omega), wds, List.map_append, ← add_gw _ _ hlt]; exact g3
    · obtain rfl : i = 8 := by omega
      simp -implicitDefEqProofs (disch := (first | omega | (simp only [lenB, wS_len] <;> omega) | fail)) only [admQ, lenB, wS_len, aFill, AK.cls, implies_true, ↓reduceIte, reduceCtorEq, if_true, if_false, Nat.reduceAdd, Nat.reduceEqDiff, Nat.reduceMod, Nat.reduceLT, Nat.reduceLeDiff, Nat.reduceSub, Nat.reduceMul, Nat.reduceBEq, Int.reduceAdd, Int.reduceSub, Int.reduceMul, Int.reduceNeg, Int.reduceLT, Int.reduceLE, Int.reduceToNat, Int.reduceEq, Int.reduceBEq]
      exact ⟨kmN, g.low KM.len⟩
end Go.Proofs.YtmnlmjlmbceimaaGreatDoor
end
section
/- Digests as the document has them: rows, and the sum. -/
namespace Go.Proofs.YtmnlmjlmbceimaaGreatDoor
open Go Go.Adm
set_option linter.unusedSimpArgs false
set_option linter.unusedVariables false
set_option maxRecDepth 100000
theorem take_gb2 {l : List B8} {i : Nat} (h : i < l.length) : l.take (i + 1) = l.take i ++ [gb l i] := by
  rw [List.take_add_one]; simp [gb, h]
theorem ans_rsrows {m : Mem} {x : AV} {l : List B8} (hx : RdB m x l) (hl : l.length ≤ 1000000000) :
    Ans Tryz.prog 73 [x] m fun r m' => Kept [] m m' ∧ GrB m.length m' r (l ++ pad l.length) := by
  refine ans_ret mixed ok73 ?_
  simp -implicitDefEqProofs (disch := (first | omega | (simp only [lenB, wS_len] <;> omega) | fail)) only [admQ, lenB, wS_len, aFill, AK.cls, implies_true, ↓reduceIte, reduceCtorEq, if_true, if_false, Nat.reduceAdd, Nat.reduceEqDiff, Nat.reduceMod, Nat.reduceLT, Nat.reduceLeDiff, Nat.reduceSub, Nat.reduceMul, Nat.reduceBEq, Int.reduceAdd, Int.reduceSub, Int.reduceMul, Int.reduceNeg, Int.reduceLT, Int.reduceLE, Int.reduceToNat, Int.reduceEq, Int.reduceBEq, c73, r73]
  refine LoopW.on (fun t : Nat × AV => [(0, x), (3, t.2), (4, .int .i64 t.1)]) (fun t => l.length - t.1) (fun t M => t.1 ≤ l.length ∧ Kept [] m M ∧ GrB m.length M t.2 (l.take t.1)) ?_ (0, .nils) _ _ rfl ⟨by simp, .refl _ _, .nils ..⟩
  rintro ⟨i, y⟩ M X ⟨hi, kk, g⟩ hX
  change GrB m.length M y (l.take i) at g
  simp only at hi
  by_cases hlt : i < l.length
  · have hlen := hx.len
    obtain ⟨b, o, cap, s, c, rfl, hrow, hat, _⟩ := hx.cons hlt
    have hr := kk.row hrow (by simp)
    have e := hat i hlt
    simp -implicitDefEqProofs (disch := (first | omega | (simp only [lenB, wS_len] <;> omega) | fail)) only [admQ, lenB, wS_len, aFill, AK.cls, implies_true, ↓reduceIte, reduceCtorEq, if_true, if_false, Nat.reduceAdd, Nat.reduceEqDiff, Nat.reduceMod, Nat.reduceLT, Nat.reduceLeDiff, Nat.reduceSub, Nat.reduceMul, Nat.reduceBEq, Int.reduceAdd, Int.reduceSub, Int.reduceMul, Int.reduceNeg, Int.reduceLT, Int.reduceLE, Int.reduceToNat, Int.reduceEq, Int.reduceBEq, hlen, hr, e]
    obtain ⟨x3, m3, e3, g3, k3, a3⟩ := g.push (gb l i) (by simp; omega) kk.len
    refine someW_eq e3 ?_
    simp -implicitDefEqProofs (disch := (first | omega | (simp only [lenB, wS_len] <;> omega) | fail)) only [admQ, lenB, wS_len, aFill, AK.cls, implies_true, ↓reduceIte, reduceCtorEq, if_true, if_false, Nat.reduceAdd, Nat.reduceEqDiff, Nat.reduceMod, Nat.reduceLT, Nat.reduceLeDiff, Nat.reduceSub, Nat.reduceMul, Nat.reduceBEq, Int.reduceAdd, Int.reduceSub, Int.reduceMul, Int.reduceNeg, Int.reduceLT, Int.reduceLE, Int.reduceToNat, Int.reduceEq, Int.reduceBEq]
    refine hX (i + 1, x3) _ _ rfl (by simp only; omega) ⟨by simp only; omega, a3 _ _ kk (Nat.le_refl _), ?_⟩
    show GrB m.length m3 x3 (l.take (i + 1))
    rw [take_gb2 hlt]; exact g3
  · obtain rfl : i = l.length := by omega
    rw [List.take_length] at g
    simp -implicitDefEqProofs (disch := (first | omega | (simp only [lenB, wS_len] <;> omega) | fail)) only [admQ, lenB, wS_len, aFill, AK.cls, implies_true, ↓reduceIte, reduceCtorEq, if_true, if_false, Nat.reduceAdd, Nat.reduceEqDiff, Nat.reduceMod, Nat.reduceLT, Nat.reduceLeDiff, Nat.reduceSub, Nat.reduceMul, Nat.reduceBEq, Int.reduceAdd, Int.reduceSub, Int.reduceMul, Int.reduceNeg, Int.reduceLT, Int.reduceLE, Int.reduceToNat, Int.reduceEq, Int.reduceBEq, hx.len]
    clear hX X
    obtain ⟨x3, m3, e3, g3, k3, a3⟩ := g.push 0x80#8 (by omega) kk.len
    refine someW_eq e3 ?_
    have kk3 := a3 _ _ kk (Nat.le_refl _)
    simp -implicitDefEqProofs (disch := (first | omega | (simp only [lenB, wS_len] <;> omega) | fail)) only [admQ, lenB, wS_len, aFill, AK.cls, implies_true, ↓reduceIte, reduceCtorEq, if_true, if_false, Nat.reduceAdd, Nat.reduceEqDiff, Nat.reduceMod, Nat.reduceLT, Nat.reduceLeDiff, Nat.reduceSub, Nat.reduceMul, Nat.reduceBEq, Int.reduceAdd, Int.reduceSub, Int.reduceMul, Int.reduceNeg, Int.reduceLT, Int.reduceLE, Int.reduceToNat, Int.reduceEq, Int.reduceBEq]
    clear e3 k3 a3 kk g hlt hi
    refine LoopW.on (fun t : Nat × AV => [(0, x), (3, t.2)]) (fun t => padZ l.length - t.1)
      (fun t m' => t.1 ≤ padZ l.length ∧ Kept [] m m' ∧ GrB m.length m' t.2 (l ++ [0x80#8] ++ List.replicate t.1 0#8)) ?_ (0, x3) _ _ rfl ⟨by omega, kk3, by simpa using g3⟩
    clear kk3 g3 M m3
    rintro ⟨j, x1⟩ M X ⟨hj, kk, g⟩ hX
    change GrB m.length M x1 (l ++ [0x80#8] ++ List.replicate j 0#8) at g
    simp only at hj
    have hpz : padZ l.length < 64 := Nat.mod_lt _ (by omega)
    have hfl : (l ++ [0x80#8] ++ List.replicate j 0#8).length = l.length + 1 + j := by simp; omega
    by_cases hlt : j < padZ l.length
    · have hne : (l.length + 1 + j) % 64 ≠ 56 := by unfold padZ at *; omega
      simp -implicitDefEqProofs (disch := (first | omega | (simp only [lenB, wS_len] <;> omega) | fail)) only [admQ, lenB, wS_len, aFill, AK.cls, implies_true, ↓reduceIte, reduceCtorEq, if_true, if_false, Nat.reduceAdd, Nat.reduceEqDiff, Nat.reduceMod, Nat.reduceLT, Nat.reduceLeDiff, Nat.reduceSub, Nat.reduceMul, Nat.reduceBEq, Int.reduceAdd, Int.reduceSub, Int.reduceMul, Int.reduceNeg, Int.reduceLT, Int.reduceLE, Int.reduceToNat, Int.reduceEq, Int.reduceBEq, g.len, hfl]
      obtain ⟨x2, m2, e2, g2, k2, a2⟩ := g.push 0#8 (by omega) kk.len
      refine someW_eq e2 ?_
      simp -implicitDefEqProofs (disch := (first | omega | (simp only [lenB, wS_len] <;> omega) | fail)) only [admQ, lenB, wS_len, aFill, AK.cls, implies_true, ↓reduceIte, reduceCtorEq, if_true, if_false, Nat.reduceAdd, Nat.reduceEqDiff, Nat.reduceMod, Nat.reduceLT, Nat.reduceLeDiff, Nat.reduceSub, Nat.reduceMul, Nat.reduceBEq, Int.reduceAdd, Int.reduceSub, Int.reduceMul, Int.reduceNeg, Int.reduceLT, Int.reduceLE, Int.reduceToNat, Int.reduceEq, Int.reduceBEq]
      refine hX (j + 1, x2) _ _ rfl (by simp only; omega) ⟨by simp only; omega, a2 _ _ kk (Nat.le_refl _), ?_⟩
      rw [List.replicate_succ', ← List.append_assoc]; exact g2
    · obtain rfl : j = padZ l.length := by omega
      have hne : (l.length + 1 + padZ l.length) % 64 = 56 := by unfold padZ; omega
      simp -implicitDefEqProofs (disch := (first | omega | (simp only [lenB, wS_len] <;> omega) | fail)) only [admQ, lenB, wS_len, aFill, AK.cls, implies_true, ↓reduceIte, reduceCtorEq, if_true, if_false, Nat.reduceAdd, Nat.reduceEqDiff, Nat.reduceMod, Nat.reduceLT, Nat.reduceLeDiff, Nat.reduceSub, Nat.reduceMul, Nat.reduceBEq, Int.reduceAdd, Int.reduceSub, Int.reduceMul, Int.reduceNeg, Int.reduceLT, Int.reduceLE, Int.reduceToNat, Int.reduceEq, Int.reduceBEq, g.len, hfl, hx.len, @w64]
      rw [Nat.mul_comm l.length 8]
      have hv : 8 * l.length < 18446744073709551616 := by omega
      have hfin : l ++ [0x80#8] ++ List.replicate (padZ l.length) 0#8 ++ tab 8 (fun i => byV (8 * l.length) (7 - i)) = l ++ pad l.length := by
        simp [pad, lowB]
      generalize l ++ [0x80#8] ++ List.replicate (padZ l.length) 0#8 = P at g hfl hfin
      generalize 8 * l.length = v at hv hfin
      clear hX X
      refine LoopW.on (fun t : Nat × AV => [(3, t.2), (5, .int .u64 v), (6, .int .i64 (7 - (t.1 : Int)))]) (fun t => 8 - t.1)
        (fun t m' => t.1 ≤ 8 ∧ Kept [] m m' ∧ GrB m.length m' t.2 (P ++ tab t.1 (fun i => byV v (7 - i)))) ?_ (0, x1) _ _ rfl ⟨by simp, kk, by simpa [tab] using g⟩
      clear kk g
      rintro ⟨k, x2⟩ m2 X ⟨hk, kk, g⟩ hX
      change GrB m.length m2 x2 (P ++ tab k (fun i => byV v (7 - i))) at g
      simp only at hk
      by_cases hlt : k < 8
      · rw [show (7 - (k : Int)) = ((7 - k : Nat) : Int) by omega]
        have hw : IntKind.u8.wrap ((v >>> (8 * (7 - k)) : Nat) : Int) = ((byV v (7 - k)).toNat : Int) := wrap_u8 _
        simp -implicitDefEqProofs (disch := (first | omega | (simp only [lenB, wS_len] <;> omega) | fail)) only [admQ, lenB, wS_len, aFill, AK.cls, implies_true, ↓reduceIte, reduceCtorEq, if_true, if_false, Nat.reduceAdd, Nat.reduceEqDiff, Nat.reduceMod, Nat.reduceLT, Nat.reduceLeDiff, Nat.reduceSub, Nat.reduceMul, Nat.reduceBEq, Int.reduceAdd, Int.reduceSub, Int.reduceMul, Int.reduceNeg, Int.reduceLT, Int.reduceLE, Int.reduceToNat, Int.reduceEq, Int.reduceBEq, fdiv_nat, hw, @w64]
        obtain ⟨x3, m3, e3, g3, k3, a3⟩ := g.push (byV v (7 - k)) (by simp [tab_len]; omega) kk.len
        refine someW_eq e3 ?_
        simp -implicitDefEqProofs (disch := (first | omega | (simp only [lenB, wS_len] <;> omega) | fail)) only [admQ, lenB, wS_len, aFill, AK.cls, implies_true, ↓reduceIte, reduceCtorEq, if_true, if_false, Nat.reduceAdd, Nat.reduceEqDiff, Nat.reduceMod, Nat.reduceLT, Nat.reduceLeDiff, Nat.reduceSub, Nat.reduceMul, Nat.reduceBEq, Int.reduceAdd, Int.reduceSub, Int.reduceMul, Int.reduceNeg, Int.reduceLT, Int.reduceLE, Int.reduceToNat, Int.reduceEq, Int.reduceBEq]
        rw [show ((7 - k : Nat) : Int) - 1 = 7 - ((k + 1 : Nat) : Int) by omega]
        refine hX (k + 1, x3) _ _ rfl (by simp only; omega) ⟨by simp only; omega, a3 _ _ kk (Nat.le_refl _), ?_⟩
        show GrB m.length m3 x3 (P ++ tab (k + 1) _)
        rw [tab_succ, ← List.append_assoc]; exact g3
      · obtain rfl : k = 8 := by omega
        rw [hfin] at g
        simp -implicitDefEqProofs (disch := (first | omega | (simp only [lenB, wS_len] <;> omega) | fail)) only [admQ, lenB, wS_len, aFill, AK.cls, implies_true, ↓reduceIte, reduceCtorEq, if_true, if_false, Nat.reduceAdd, Nat.reduceEqDiff, Nat.reduceMod, Nat.reduceLT, Nat.reduceLeDiff, Nat.reduceSub, Nat.reduceMul, Nat.reduceBEq, Int.reduceAdd, Int.reduceSub, Int.reduceMul, Int.reduceNeg, Int.reduceLT, Int.reduceLE, Int.reduceToNat, Int.reduceEq, Int.reduceBEq]
        exact ⟨kk, g⟩
theorem ans_rsfirst (m : Mem) : Ans Tryz.prog 74 [] m fun r m' => Kept [] m m' ∧ St8 m' r S8.first := by
  refine ans_ret mixed ok74 ?_
  simp -implicitDefEqProofs (disch := (first | omega | (simp only [lenB, wS_len] <;> omega) | fail)) only [admQ, lenB, wS_len, aFill, AK.cls, implies_true, ↓reduceIte, reduceCtorEq, if_true, if_false, Nat.reduceAdd, Nat.reduceEqDiff, Nat.reduceMod, Nat.reduceLT, Nat.reduceLeDiff, Nat.reduceSub, Nat.reduceMul, Nat.reduceBEq, Int.reduceAdd, Int.reduceSub, Int.reduceMul, Int.reduceNeg, Int.reduceLT, Int.reduceLE, Int.reduceToNat, Int.reduceEq, Int.reduceBEq, c74, r74]
  exact ⟨.app _ _ _, m.length, 8, 0, rfl, by rw [rowOf_app_at0]; rfl, Nat.le_refl _⟩
theorem ans_rsof {m : Mem} {x : AV} {l : List B8} (hK : rowOf m 1 = some (wds kT)) (hx : RdB m x l) (hl : l.length ≤ 900000000) :
    Ans Tryz.prog 67 [x] m fun r m' => r = .agg (bys (shaB l)) ∧ Kept [] m m' := by
  refine ans_ret mixed ok67 ?_
  simp -implicitDefEqProofs (disch := (first | omega | (simp only [lenB, wS_len] <;> omega) | fail)) only [admQ, lenB, wS_len, aFill, AK.cls, implies_true, ↓reduceIte, reduceCtorEq, if_true, if_false, Nat.reduceAdd, Nat.reduceEqDiff, Nat.reduceMod, Nat.reduceLT, Nat.reduceLeDiff, Nat.reduceSub, Nat.reduceMul, Nat.reduceBEq, Int.reduceAdd, Int.reduceSub, Int.reduceMul, Int.reduceNeg, Int.reduceLT, Int.reduceLE, Int.reduceToNat, Int.reduceEq, Int.reduceBEq, c67, r67]
  have k0 := Kept.app [] m [Blk.row (bys (List.replicate 32 0#8)) false]
  have o0 : own (m ++ [Blk.row (bys (List.replicate 32 0#8)) false]) m.length = some (bys (List.replicate 32 0#8)) := by rw [own_app_at0]; rfl
  generalize m ++ [Blk.row (bys (List.replicate 32 0#8)) false] = A at k0 o0
  refine (ans_rsrows (hx.kept0 k0) (by omega)).mono ?_
  rintro y m1 ⟨k1, g1⟩
  simp -implicitDefEqProofs (disch := (first | omega | (simp only [lenB, wS_len] <;> omega) | fail)) only [admQ, lenB, wS_len, aFill, AK.cls, implies_true, ↓reduceIte, reduceCtorEq, if_true, if_false, Nat.reduceAdd, Nat.reduceEqDiff, Nat.reduceMod, Nat.reduceLT, Nat.reduceLeDiff, Nat.reduceSub, Nat.reduceMul, Nat.reduceBEq, Int.reduceAdd, Int.reduceSub, Int.reduceMul, Int.reduceNeg, Int.reduceLT, Int.reduceLE, Int.reduceToNat, Int.reduceEq, Int.reduceBEq]
  refine (ans_rsfirst _).mono ?_
  rintro z m2 ⟨k2, h8⟩
  simp -implicitDefEqProofs (disch := (first | omega | (simp only [lenB, wS_len] <;> omega) | fail)) only [admQ, lenB, wS_len, aFill, AK.cls, implies_true, ↓reduceIte, reduceCtorEq, if_true, if_false, Nat.reduceAdd, Nat.reduceEqDiff, Nat.reduceMod, Nat.reduceLT, Nat.reduceLeDiff, Nat.reduceSub, Nat.reduceMul, Nat.reduceBEq, Int.reduceAdd, Int.reduceSub, Int.reduceMul, Int.reduceNeg, Int.reduceLT, Int.reduceLE, Int.reduceToNat, Int.reduceEq, Int.reduceBEq]
  have hpl := pad_len l.length
  have hpm := pad_mod l.length
  have hpz : padZ l.length < 64 := Nat.mod_lt _ (by omega)
  have hFl : (l ++ pad l.length).length = l.length + (pad l.length).length := List.length_append ..
  have hres : ∀ n, n = (l.length + (pad l.length).length) / 64 → (S8.first.takes (l ++ pad l.length) n).out = shaB l := by rintro n rfl; rfl
  have hA : ∀ n, 64 * n = (l ++ pad l.length).length → (S8.first.takes (l ++ pad l.length) n).out = shaB l := fun n hn => hres n (by omega)
  clear hres
  have gF := g1.kept0 k2
  have KA := k0.trans (k1.trans k2)
  have o2 := (k1.trans k2).own o0 (by simp)
  have hFn : (l ++ pad l.length).length % 64 = 0 := by omega
  have hF0 : 0 < (l ++ pad l.length).length := by omega
  have hFb : (l ++ pad l.length).length ≤ 1000000000 := by omega
  clear g1 k0 o0 k1 k2 hpl hpm hFl
  generalize l ++ pad l.length = F at gF hA hFn hF0 hFb
  obtain ⟨b, n, rfl, hn0, hn, hb, hb0⟩ := gF.sl (by intro e; have : F = [] := List.map_eq_nil_iff.mp e; simp [this] at hF0)
  rw [List.length_map, Nat.mul_one] at hn
  subst hn
  refine LoopW.on (fun t : Nat × AV => [(2, .ptr m.length 0), (3, .sl b 0 F.length F.length 1), (4, t.2), (5, .int .i64 ((64 * t.1 : Nat) : Int))]) (fun t => F.length - 64 * t.1)
    (fun t M => 64 * t.1 ≤ F.length ∧ Kept [] m2 M ∧ St8 M t.2 (S8.first.takes F t.1)) ?_ (0, z) _ _ rfl ⟨by simp, .refl _ _, h8⟩
  rintro ⟨i, z⟩ M X ⟨hi, kk, h8⟩ hX
  change St8 M z (S8.first.takes F i) at h8
  simp only at hi
  by_cases hlt : 64 * i < F.length
  · have hrd := ((RdB.row F.length 1 (kk.row (rowOf_own hb) (by simp)) (Nat.le_refl _)).drop (k := 64 * i) (by omega)).take (k := 64) (by omega)
    rw [Nat.zero_add] at hrd
    simp -implicitDefEqProofs (disch := (first | omega | (simp only [lenB, wS_len] <;> omega) | fail)) only [admQ, lenB, wS_len, aFill, AK.cls, implies_true, ↓reduceIte, reduceCtorEq, if_true, if_false, Nat.reduceAdd, Nat.reduceEqDiff, Nat.reduceMod, Nat.reduceLT, Nat.reduceLeDiff, Nat.reduceSub, Nat.reduceMul, Nat.reduceBEq, Int.reduceAdd, Int.reduceSub, Int.reduceMul, Int.reduceNeg, Int.reduceLT, Int.reduceLE, Int.reduceToNat, Int.reduceEq, Int.reduceBEq]
    rw [show 64 * i + 64 - 64 * i = 64 by omega]
    refine (ans_rstake _ ((KA.trans kk).row hK (by simp)) h8 hrd (by simp; omega)).mono ?_
    rintro z3 m3 ⟨k3, g3⟩
    simp -implicitDefEqProofs (disch := (first | omega | (simp only [lenB, wS_len] <;> omega) | fail)) only [admQ, lenB, wS_len, aFill, AK.cls, implies_true, ↓reduceIte, reduceCtorEq, if_true, if_false, Nat.reduceAdd, Nat.reduceEqDiff, Nat.reduceMod, Nat.reduceLT, Nat.reduceLeDiff, Nat.reduceSub, Nat.reduceMul, Nat.reduceBEq, Int.reduceAdd, Int.reduceSub, Int.reduceMul, Int.reduceNeg, Int.reduceLT, Int.reduceLE, Int.reduceToNat, Int.reduceEq, Int.reduceBEq]
    exact hX (i + 1, z3) _ _ rfl (by simp only; omega) ⟨by simp only; omega, kk.trans k3, .of_gr g3⟩
  · have hq := hA i (by omega)
    generalize S8.first.takes F i = r at h8 hq
    simp -implicitDefEqProofs (disch := (first | omega | (simp only [lenB, wS_len] <;> omega) | fail)) only [admQ, lenB, wS_len, aFill, AK.cls, implies_true, ↓reduceIte, reduceCtorEq, if_true, if_false, Nat.reduceAdd, Nat.reduceEqDiff, Nat.reduceMod, Nat.reduceLT, Nat.reduceLeDiff, Nat.reduceSub, Nat.reduceMul, Nat.reduceBEq, Int.reduceAdd, Int.reduceSub, Int.reduceMul, Int.reduceNeg, Int.reduceLT, Int.reduceLE, Int.reduceToNat, Int.reduceEq, Int.reduceBEq]
    clear hX X
    have kM := KA.trans kk
    have oM := kk.own o2 (by simp)
    have hrl : ∀ j, j < 32 → (r.cells)[j / 4]? = some (b32 (gw r.l (j / 4))) := fun j hj => wds_at (show j / 4 < 8 by omega)
    obtain ⟨b1, c1, z1, rfl, hr1, hc1⟩ := h8
    have hb1 := rowOf_lt hr1
    rw [← tab_const, ← upTo_zero 32 (fun j => (gw r.l (j / 4) >>> (24 - 8 * (j % 4))).setWidth 8) (fun _ => 0#8)]
    refine LoopW.on (fun i : Nat => [(2, .ptr m.length 0), (4, .sl b1 0 8 c1 z1), (6, .ptr M.length 0), (7, .int .i64 i)]) (fun i => 32 - i)
      (fun i M' => i ≤ 32 ∧ Kept [] M M' ∧ own M' M.length = some (bys (upTo 32 (fun j => (gw r.l (j / 4) >>> (24 - 8 * (j % 4))).setWidth 8) (fun _ => 0#8) i))) ?_ 0 _ _ rfl ⟨by omega, .app _ _ _, by rw [own_app_at0]; rfl⟩
    rintro j M' X ⟨hj, w, op⟩ hX
    have hrM := w.row hr1 (by simp)
    by_cases hlt : j < 32
    · have hu := upTo_set (n := 32) (i := j) (f := fun j => (gw r.l (j / 4) >>> (24 - 8 * (j % 4))).setWidth 8) (g := fun _ => 0#8)
      have hca := hrl j hlt
      have hlp := own_lt op
      simp -implicitDefEqProofs (disch := (first | omega | (simp only [lenB, wS_len] <;> omega) | fail)) only [admQ, lenB, wS_len, aFill, AK.cls, implies_true, ↓reduceIte, reduceCtorEq, if_true, if_false, Nat.reduceAdd, Nat.reduceEqDiff, Nat.reduceMod, Nat.reduceLT, Nat.reduceLeDiff, Nat.reduceSub, Nat.reduceMul, Nat.reduceBEq, Int.reduceAdd, Int.reduceSub, Int.reduceMul, Int.reduceNeg, Int.reduceLT, Int.reduceLE, Int.reduceToNat, Int.reduceEq, Int.reduceBEq, hrM, op, hca, u32R, @w64, splice_byte, hu]
      refine hX (j + 1) _ _ rfl (by omega) ⟨by omega, w.write (.inr (Nat.le_refl _)) _, own_set hlp _⟩
    · obtain rfl : j = 32 := by omega
      rw [upTo_all] at op
      have oA' := w.own oM (by simp)
      have hdef : r.out = tab 32 fun j => (gw r.l (j / 4) >>> (24 - 8 * (j % 4))).setWidth 8 := rfl
      rw [← hdef, hq] at op
      have hsl := shaB_len l
      simp -implicitDefEqProofs (disch := (first | omega | (simp only [lenB, wS_len] <;> omega) | fail)) only [admQ, lenB, wS_len, aFill, AK.cls, implies_true, ↓reduceIte, reduceCtorEq, if_true, if_false, Nat.reduceAdd, Nat.reduceEqDiff, Nat.reduceMod, Nat.reduceLT, Nat.reduceLeDiff, Nat.reduceSub, Nat.reduceMul, Nat.reduceBEq, Int.reduceAdd, Int.reduceSub, Int.reduceMul, Int.reduceNeg, Int.reduceLT, Int.reduceLE, Int.reduceToNat, Int.reduceEq, Int.reduceBEq, rowOf_own op, op, oA', own_set (own_lt oA'), rowOf_own (own_set (own_lt oA') _)]
      exact (kM.trans w).write (.inr (Nat.le_refl _)) _
end Go.Proofs.YtmnlmjlmbceimaaGreatDoor
end
section
/- Sums under a key, as the document has them. -/
namespace Go.Proofs.YtmnlmjlmbceimaaGreatDoor
open Go Go.Adm
set_option linter.unusedSimpArgs false
set_option linter.unusedVariables false
set_option maxRecDepth 100000
def keyK (key : List B8) : List B8 := if 64 < key.length then shaB key else key
theorem keyK_le (key : List B8) : (keyK key).length ≤ 64 := by
  unfold keyK; split
  · rw [shaB_len]; omega
  · omega
theorem keyB_K (key : List B8) : keyB key = keyK key ++ List.replicate (64 - (keyK key).length) 0#8 := by
  unfold keyB keyK; split
  · rw [shaB_len]
  · rfl
theorem ans_rsblk {m : Mem} {y : AV} {key : List B8} (x : B8) (hK : rowOf m 1 = some (wds kT)) (hB : RdB m y key) (hlen : key.length ≤ 900000000) :
    Ans Tryz.prog 66 [y, b8 x] m fun r m' => Kept [] m m' ∧ GrB m.length m' r (blkX key x) := by
  refine ans_ret mixed ok66 ?_
  simp -implicitDefEqProofs (disch := (first | omega | (simp only [lenB, shaB_len, macB_len] <;> omega) | fail)) only [admQ, lenB, shaB_len, macB_len, aFill, AK.cls, implies_true, ↓reduceIte, reduceCtorEq, if_true, if_false, Nat.reduceAdd, Nat.reduceEqDiff, Nat.reduceMod, Nat.reduceLT, Nat.reduceLeDiff, Nat.reduceSub, Nat.reduceMul, Nat.reduceBEq, Int.reduceAdd, Int.reduceSub, Int.reduceMul, Int.reduceNeg, Int.reduceLT, Int.reduceLE, Int.reduceToNat, Int.reduceEq, Int.reduceBEq, p66, r66, hB.len]
  refine LoopW.on (fun t : Nat × AV => [(0, y), (1, b8 x), (5, t.2), (6, .int .i64 t.1)]) (fun t => key.length - t.1) (fun t M => t.1 ≤ key.length ∧ (64 < key.length → t.1 = 0) ∧ Kept [] m M ∧ GrB m.length M t.2 (key.take t.1)) ?_ (0, .nils) _ _ rfl ⟨by simp, fun _ => rfl, .refl _ _, .nils ..⟩
  rintro ⟨i, v⟩ M X ⟨hi, h0, kk, g⟩ hX
  change GrB m.length M v (key.take i) at g
  simp only at hi h0
  have exit : ∀ (w : AV), (64 < key.length → GrB m.length M w []) → (¬ 64 < key.length → GrB m.length M w key) → wpA Tryz.prog c66_1 [(0, y), (1, b8 x), (5, w)] M (seqK Tryz.prog c66_2 (retQ [.tmp 4] fun r m' => Kept [] m m' ∧ GrB m.length m' r (blkX key x))) := by
    intro w gl gs
    clear hX X g h0 hi
    refine wp_joinL [1, 5] (fun v : AV => [(1, b8 x), (5, v)]) (fun v M => Kept [] m M ∧ GrB m.length M v (keyK key)) rfl ?_ ?_
    · by_cases h64 : 64 < key.length
      · replace gl := gl h64
        simp -implicitDefEqProofs (disch := (first | omega | (simp only [lenB, shaB_len, macB_len] <;> omega) | fail)) only [admQ, lenB, shaB_len, macB_len, aFill, AK.cls, implies_true, ↓reduceIte, reduceCtorEq, if_true, if_false, Nat.reduceAdd, Nat.reduceEqDiff, Nat.reduceMod, Nat.reduceLT, Nat.reduceLeDiff, Nat.reduceSub, Nat.reduceMul, Nat.reduceBEq, Int.reduceAdd, Int.reduceSub, Int.reduceMul, Int.reduceNeg, Int.reduceLT, Int.reduceLE, Int.reduceToNat, Int.reduceEq, Int.reduceBEq, c66_1, joins, hB.len]
        refine (ans_rsof (kk.row hK (by simp)) (hB.kept0 kk) hlen).mono ?_
        rintro _ m1 ⟨rfl, k1⟩
        have hsl := shaB_len key
        have hkK : keyK key = shaB key := by rw [keyK, if_pos h64]
        rw [hkK]
        generalize shaB key = S at hsl
        simp -implicitDefEqProofs (disch := (first | omega | (simp only [lenB, shaB_len, macB_len] <;> omega) | fail)) only [admQ, lenB, shaB_len, macB_len, aFill, AK.cls, implies_true, ↓reduceIte, reduceCtorEq, if_true, if_false, Nat.reduceAdd, Nat.reduceEqDiff, Nat.reduceMod, Nat.reduceLT, Nat.reduceLeDiff, Nat.reduceSub, Nat.reduceMul, Nat.reduceBEq, Int.reduceAdd, Int.reduceSub, Int.reduceMul, Int.reduceNeg, Int.reduceLT, Int.reduceLE, Int.reduceToNat, Int.reduceEq, Int.reduceBEq, joins]
        have k0 := (kk.trans k1).more_app [Blk.row (bys S) false]
        have o0 : own (m1 ++ [Blk.row (bys S) false]) m1.length = some (bys S) := by rw [own_app_at0]; rfl
        have g0 := (gl.kept0 k1).kept0 (.app [] m1 [Blk.row (bys S) false])
        have hw : ∀ b ∈ blkOf w, b < m1.length := fun b hb => by have := g0.lt; exact ((gl.kept0 k1).lt b hb)
        generalize m1 ++ [Blk.row (bys S) false] = A at k0 o0 g0
        refine LoopW.on (fun t : Nat × AV => [(1, b8 x), (5, t.2), (7, .ptr m1.length 0), (8, .int .i64 t.1)]) (fun t => 32 - t.1) (fun t M => t.1 ≤ 32 ∧ Kept [] m M ∧ own M m1.length = some (bys S) ∧ m1.length ∉ blkOf t.2 ∧ GrB m.length M t.2 (S.take t.1)) ?_ (0, w) _ _ rfl ⟨by simp, k0, o0, fun h => by have := hw _ h; omega, by simpa using g0⟩
        clear gl gs g0 o0 k0 hw kk k1
        rintro ⟨i, v⟩ M X ⟨hi, kk, o, hnb, g⟩ hX
        change GrB m.length M v (S.take i) at g
        simp only at hi hnb
        by_cases hlt : i < 32
        · have e : (bys S)[i]? = some (b8 (gb S i)) := bys_at (by omega)
          simp -implicitDefEqProofs (disch := (first | omega | (simp only [lenB, shaB_len, macB_len] <;> omega) | fail)) only [admQ, lenB, shaB_len, macB_len, aFill, AK.cls, implies_true, ↓reduceIte, reduceCtorEq, if_true, if_false, Nat.reduceAdd, Nat.reduceEqDiff, Nat.reduceMod, Nat.reduceLT, Nat.reduceLeDiff, Nat.reduceSub, Nat.reduceMul, Nat.reduceBEq, Int.reduceAdd, Int.reduceSub, Int.reduceMul, Int.reduceNeg, Int.reduceLT, Int.reduceLE, Int.reduceToNat, Int.reduceEq, Int.reduceBEq, rowOf_own o, e, joins]
          obtain ⟨x3, m3, e3, g3, k3, a3, n3⟩ := GrA.push5 (bytes := 1) g (by omega) (l := [b8 (gb S i)]) rfl (by simp; omega) kk.len
          refine someW_eq e3 ?_
          simp -implicitDefEqProofs (disch := (first | omega | (simp only [lenB, shaB_len, macB_len] <;> omega) | fail)) only [admQ, lenB, shaB_len, macB_len, aFill, AK.cls, implies_true, ↓reduceIte, reduceCtorEq, if_true, if_false, Nat.reduceAdd, Nat.reduceEqDiff, Nat.reduceMod, Nat.reduceLT, Nat.reduceLeDiff, Nat.reduceSub, Nat.reduceMul, Nat.reduceBEq, Int.reduceAdd, Int.reduceSub, Int.reduceMul, Int.reduceNeg, Int.reduceLT, Int.reduceLE, Int.reduceToNat, Int.reduceEq, Int.reduceBEq, joins]
          refine hX (i + 1, x3) _ _ rfl (by simp only; omega) ⟨by simp only; omega, a3 _ _ kk (Nat.le_refl _), k3.own o hnb, fun h => ?_, ?_⟩
          · have := n3 _ h; have := own_lt o; omega
          · show GrA 1 m.length m3 x3 (bys (S.take (i + 1)))
            rw [take_gb2 (by omega), bys, List.map_append]; exact g3
        · obtain rfl : i = 32 := by omega
          rw [List.take_of_length_le (by omega)] at g
          simp -implicitDefEqProofs (disch := (first | omega | (simp only [lenB, shaB_len, macB_len] <;> omega) | fail)) only [admQ, lenB, shaB_len, macB_len, aFill, AK.cls, implies_true, ↓reduceIte, reduceCtorEq, if_true, if_false, Nat.reduceAdd, Nat.reduceEqDiff, Nat.reduceMod, Nat.reduceLT, Nat.reduceLeDiff, Nat.reduceSub, Nat.reduceMul, Nat.reduceBEq, Int.reduceAdd, Int.reduceSub, Int.reduceMul, Int.reduceNeg, Int.reduceLT, Int.reduceLE, Int.reduceToNat, Int.reduceEq, Int.reduceBEq, joins]
          exact ⟨v, rfl, kk, g⟩
      · replace gs := gs h64
        have hkK : keyK key = key := by rw [keyK, if_neg h64]
        rw [hkK]
        simp -implicitDefEqProofs (disch := (first | omega | (simp only [lenB, shaB_len, macB_len] <;> omega) | fail)) only [admQ, lenB, shaB_len, macB_len, aFill, AK.cls, implies_true, ↓reduceIte, reduceCtorEq, if_true, if_false, Nat.reduceAdd, Nat.reduceEqDiff, Nat.reduceMod, Nat.reduceLT, Nat.reduceLeDiff, Nat.reduceSub, Nat.reduceMul, Nat.reduceBEq, Int.reduceAdd, Int.reduceSub, Int.reduceMul, Int.reduceNeg, Int.reduceLT, Int.reduceLE, Int.reduceToNat, Int.reduceEq, Int.reduceBEq, c66_1, joins, hB.len]
        exact ⟨w, rfl, kk, gs⟩
    · clear gl gs kk
      rintro v M ⟨kk, g⟩
      simp -implicitDefEqProofs (disch := (first | omega | (simp only [lenB, shaB_len, macB_len] <;> omega) | fail)) only [admQ, lenB, shaB_len, macB_len, aFill, AK.cls, implies_true, ↓reduceIte, reduceCtorEq, if_true, if_false, Nat.reduceAdd, Nat.reduceEqDiff, Nat.reduceMod, Nat.reduceLT, Nat.reduceLeDiff, Nat.reduceSub, Nat.reduceMul, Nat.reduceBEq, Int.reduceAdd, Int.reduceSub, Int.reduceMul, Int.reduceNeg, Int.reduceLT, Int.reduceLE, Int.reduceToNat, Int.reduceEq, Int.reduceBEq, c66_2]
      have hle := keyK_le key
      have hbk := keyB_K key
      have hbl := keyB_len key
      have hfin : blkX key x = tab 64 fun j => gb (keyB key) j ^^^ x := rfl
      rw [hfin]
      clear hfin
      generalize keyB key = Kb at hbk hbl
      generalize keyK key = k at g hle hbk
      refine LoopW.on (fun t : Nat × AV => [(1, b8 x), (5, t.2)]) (fun t => 64 - k.length - t.1) (fun t M => t.1 ≤ 64 - k.length ∧ Kept [] m M ∧ GrB m.length M t.2 (k ++ List.replicate t.1 0#8)) ?_ (0, v) _ _ rfl ⟨by simp, kk, by simpa using g⟩
      clear g kk
      rintro ⟨j, v⟩ M X ⟨hj, kk, g⟩ hX
      change GrB m.length M v (k ++ List.replicate j 0#8) at g
      simp only at hj
      have hgl : (k ++ List.replicate j 0#8).length = k.length + j := by simp
      by_cases hlt : j < 64 - k.length
      · simp -implicitDefEqProofs (disch := (first | omega | (simp only [lenB, shaB_len, macB_len] <;> omega) | fail)) only [admQ, lenB, shaB_len, macB_len, aFill, AK.cls, implies_true, ↓reduceIte, reduceCtorEq, if_true, if_false, Nat.reduceAdd, Nat.reduceEqDiff, Nat.reduceMod, Nat.reduceLT, Nat.reduceLeDiff, Nat.reduceSub, Nat.reduceMul, Nat.reduceBEq, Int.reduceAdd, Int.reduceSub, Int.reduceMul, Int.reduceNeg, Int.reduceLT, Int.reduceLE, Int.reduceToNat, Int.reduceEq, Int.reduceBEq, g.len, hgl]
        obtain ⟨x3, m3, e3, g3, k3, a3⟩ := g.push 0#8 (by omega) kk.len
        refine someW_eq e3 ?_
        simp -implicitDefEqProofs (disch := (first | omega | (simp only [lenB, shaB_len, macB_len] <;> omega) | fail)) only [admQ, lenB, shaB_len, macB_len, aFill, AK.cls, implies_true, ↓reduceIte, reduceCtorEq, if_true, if_false, Nat.reduceAdd, Nat.reduceEqDiff, Nat.reduceMod, Nat.reduceLT, Nat.reduceLeDiff, Nat.reduceSub, Nat.reduceMul, Nat.reduceBEq, Int.reduceAdd, Int.reduceSub, Int.reduceMul, Int.reduceNeg, Int.reduceLT, Int.reduceLE, Int.reduceToNat, Int.reduceEq, Int.reduceBEq]
        refine hX (j + 1, x3) _ _ rfl (by simp only; omega) ⟨by simp only; omega, a3 _ _ kk (Nat.le_refl _), ?_⟩
        show GrB m.length m3 x3 (k ++ List.replicate (j + 1) 0#8)
        rw [List.replicate_succ', ← List.append_assoc]; exact g3
      · obtain rfl : j = 64 - k.length := by omega
        simp -implicitDefEqProofs (disch := (first | omega | (simp only [lenB, shaB_len, macB_len] <;> omega) | fail)) only [admQ, lenB, shaB_len, macB_len, aFill, AK.cls, implies_true, ↓reduceIte, reduceCtorEq, if_true, if_false, Nat.reduceAdd, Nat.reduceEqDiff, Nat.reduceMod, Nat.reduceLT, Nat.reduceLeDiff, Nat.reduceSub, Nat.reduceMul, Nat.reduceBEq, Int.reduceAdd, Int.reduceSub, Int.reduceMul, Int.reduceNeg, Int.reduceLT, Int.reduceLE, Int.reduceToNat, Int.reduceEq, Int.reduceBEq, g.len, hgl]
        clear hX X
        rw [← hbk] at g
        obtain ⟨b, n, rfl, hn0, hn, hb, hb0⟩ := g.sl (by intro e; have : Kb = [] := List.map_eq_nil_iff.mp e; simp [this] at hbl)
        rw [List.length_map, Nat.mul_one, hbl] at hn
        subst hn
        refine LoopW.on (fun i : Nat => [(1, b8 x), (5, .sl b 0 64 64 1), (9, .int .i64 i)]) (fun i => 64 - i) (fun i M => i ≤ 64 ∧ Kept [] m M ∧ own M b = some (bys (upTo 64 (fun j => gb Kb j ^^^ x) (gb Kb) i))) ?_ 0 _ _ rfl ⟨by omega, kk, by rw [upTo_zero, tab_gb hbl]; exact hb⟩
        clear g kk hb
        rintro i M X ⟨hi, kk, o⟩ hX
        by_cases hlt : i < 64
        · have hu := upTo_set (n := 64) (i := i) (f := fun j => gb Kb j ^^^ x) (g := gb Kb)
          have hlo := own_lt o
          simp -implicitDefEqProofs (disch := (first | omega | (simp only [lenB, shaB_len, macB_len] <;> omega) | fail)) only [admQ, lenB, shaB_len, macB_len, aFill, AK.cls, implies_true, ↓reduceIte, reduceCtorEq, if_true, if_false, Nat.reduceAdd, Nat.reduceEqDiff, Nat.reduceMod, Nat.reduceLT, Nat.reduceLeDiff, Nat.reduceSub, Nat.reduceMul, Nat.reduceBEq, Int.reduceAdd, Int.reduceSub, Int.reduceMul, Int.reduceNeg, Int.reduceLT, Int.reduceLE, Int.reduceToNat, Int.reduceEq, Int.reduceBEq, rowOf_own o, o, splice_byte, hu]
          exact hX (i + 1) _ _ rfl (by omega) ⟨by omega, kk.write (.inr (by omega)) _, own_set hlo _⟩
        · obtain rfl : i = 64 := by omega
          rw [upTo_all] at o
          simp -implicitDefEqProofs (disch := (first | omega | (simp only [lenB, shaB_len, macB_len] <;> omega) | fail)) only [admQ, lenB, shaB_len, macB_len, aFill, AK.cls, implies_true, ↓reduceIte, reduceCtorEq, if_true, if_false, Nat.reduceAdd, Nat.reduceEqDiff, Nat.reduceMod, Nat.reduceLT, Nat.reduceLeDiff, Nat.reduceSub, Nat.reduceMul, Nat.reduceBEq, Int.reduceAdd, Int.reduceSub, Int.reduceMul, Int.reduceNeg, Int.reduceLT, Int.reduceLE, Int.reduceToNat, Int.reduceEq, Int.reduceBEq]
          exact ⟨kk, .inr ⟨b, 64, by omega, by simp [tab_len], rfl, o, hb0⟩⟩
  by_cases h64 : 64 < key.length
  · obtain rfl := h0 h64
    have d1 : decide ((0 : Int) < (key.length : Int)) = true := dec_t (by omega)
    simp -implicitDefEqProofs (disch := (first | omega | (simp only [lenB, shaB_len, macB_len] <;> omega) | fail)) only [admQ, lenB, shaB_len, macB_len, aFill, AK.cls, implies_true, ↓reduceIte, reduceCtorEq, if_true, if_false, Nat.reduceAdd, Nat.reduceEqDiff, Nat.reduceMod, Nat.reduceLT, Nat.reduceLeDiff, Nat.reduceSub, Nat.reduceMul, Nat.reduceBEq, Int.reduceAdd, Int.reduceSub, Int.reduceMul, Int.reduceNeg, Int.reduceLT, Int.reduceLE, Int.reduceToNat, Int.reduceEq, Int.reduceBEq, d1, hB.len]
    exact exit v (fun _ => by simpa using g) (fun h => absurd h64 h)
  · by_cases hlt : i < key.length
    · have d1 : decide ((i : Int) < (key.length : Int)) = true := dec_t (by omega)
      have hl := hB.len
      obtain ⟨b, o, cap, s, c, rfl, hrow, hat, _⟩ := hB.cons hlt
      have hr := kk.row hrow (by simp)
      have e := hat i hlt
      clear exit
      simp -implicitDefEqProofs (disch := (first | omega | (simp only [lenB, shaB_len, macB_len] <;> omega) | fail)) only [admQ, lenB, shaB_len, macB_len, aFill, AK.cls, implies_true, ↓reduceIte, reduceCtorEq, if_true, if_false, Nat.reduceAdd, Nat.reduceEqDiff, Nat.reduceMod, Nat.reduceLT, Nat.reduceLeDiff, Nat.reduceSub, Nat.reduceMul, Nat.reduceBEq, Int.reduceAdd, Int.reduceSub, Int.reduceMul, Int.reduceNeg, Int.reduceLT, Int.reduceLE, Int.reduceToNat, Int.reduceEq, Int.reduceBEq, d1, hl, hr, e]
      obtain ⟨x3, m3, e3, g3, k3, a3⟩ := g.push (gb key i) (by simp; omega) kk.len
      refine someW_eq e3 ?_
      simp -implicitDefEqProofs (disch := (first | omega | (simp only [lenB, shaB_len, macB_len] <;> omega) | fail)) only [admQ, lenB, shaB_len, macB_len, aFill, AK.cls, implies_true, ↓reduceIte, reduceCtorEq, if_true, if_false, Nat.reduceAdd, Nat.reduceEqDiff, Nat.reduceMod, Nat.reduceLT, Nat.reduceLeDiff, Nat.reduceSub, Nat.reduceMul, Nat.reduceBEq, Int.reduceAdd, Int.reduceSub, Int.reduceMul, Int.reduceNeg, Int.reduceLT, Int.reduceLE, Int.reduceToNat, Int.reduceEq, Int.reduceBEq]
      refine hX (i + 1, x3) _ _ rfl (by simp only; omega) ⟨by simp only; omega, fun h => absurd h h64, a3 _ _ kk (Nat.le_refl _), ?_⟩
      show GrB m.length m3 x3 (key.take (i + 1))
      rw [take_gb2 hlt]; exact g3
    · obtain rfl : i = key.length := by omega
      rw [List.take_length] at g
      have d1 : decide ((key.length : Int) < (key.length : Int)) = false := dec_f (by omega)
      simp -implicitDefEqProofs (disch := (first | omega | (simp only [lenB, shaB_len, macB_len] <;> omega) | fail)) only [admQ, lenB, shaB_len, macB_len, aFill, AK.cls, implies_true, ↓reduceIte, reduceCtorEq, if_true, if_false, Nat.reduceAdd, Nat.reduceEqDiff, Nat.reduceMod, Nat.reduceLT, Nat.reduceLeDiff, Nat.reduceSub, Nat.reduceMul, Nat.reduceBEq, Int.reduceAdd, Int.reduceSub, Int.reduceMul, Int.reduceNeg, Int.reduceLT, Int.reduceLE, Int.reduceToNat, Int.reduceEq, Int.reduceBEq, d1, hB.len]
      exact exit v (fun h => absurd h h64) (fun _ => g)
theorem ans_rsmac {m : Mem} {x y : AV} {key B : List B8} (hK : rowOf m 1 = some (wds kT)) (hx : RdB m x key) (hB : RdB m y B) (hkl : key.length ≤ 900000000) (hlen : B.length ≤ 800000000) :
    Ans Tryz.prog 54 [x, y] m fun r m' => r = .agg (bys (macB key B)) ∧ Kept [] m m' := by
  refine ans_ret mixed ok54 ?_
  simp -implicitDefEqProofs (disch := (first | omega | (simp only [lenB, shaB_len, macB_len] <;> omega) | fail)) only [admQ, lenB, shaB_len, macB_len, aFill, AK.cls, implies_true, ↓reduceIte, reduceCtorEq, if_true, if_false, Nat.reduceAdd, Nat.reduceEqDiff, Nat.reduceMod, Nat.reduceLT, Nat.reduceLeDiff, Nat.reduceSub, Nat.reduceMul, Nat.reduceBEq, Int.reduceAdd, Int.reduceSub, Int.reduceMul, Int.reduceNeg, Int.reduceLT, Int.reduceLE, Int.reduceToNat, Int.reduceEq, Int.reduceBEq, c54, r54]
  have k0 := Kept.app [] m [Blk.row (bys (List.replicate 32 0#8)) false]
  have o0 : own (m ++ [Blk.row (bys (List.replicate 32 0#8)) false]) m.length = some (bys (List.replicate 32 0#8)) := by rw [own_app_at0]; rfl
  generalize m ++ [Blk.row (bys (List.replicate 32 0#8)) false] = A at k0 o0
  refine (ans_rsblk 54#8 (k0.row hK (by simp)) (hx.kept0 k0) hkl).mono ?_
  rintro z m1 ⟨k1, g1⟩
  have li := blkX_len key 54#8
  have lo := blkX_len key 92#8
  simp -implicitDefEqProofs (disch := (first | omega | (simp only [lenB, shaB_len, macB_len] <;> omega) | fail)) only [admQ, lenB, shaB_len, macB_len, aFill, AK.cls, implies_true, ↓reduceIte, reduceCtorEq, if_true, if_false, Nat.reduceAdd, Nat.reduceEqDiff, Nat.reduceMod, Nat.reduceLT, Nat.reduceLeDiff, Nat.reduceSub, Nat.reduceMul, Nat.reduceBEq, Int.reduceAdd, Int.reduceSub, Int.reduceMul, Int.reduceNeg, Int.reduceLT, Int.reduceLE, Int.reduceToNat, Int.reduceEq, Int.reduceBEq]
  have hl0 := k0.len
  refine LoopW.on (fun t : Nat × AV => [(0, x), (1, y), (4, .ptr m.length 0), (5, t.2), (6, .int .i64 t.1)]) (fun t => B.length - t.1) (fun t M => t.1 ≤ B.length ∧ Kept [] A M ∧ GrB A.length M t.2 (blkX key 54#8 ++ B.take t.1)) ?_ (0, z) _ _ rfl ⟨by simp, k1, by simpa using g1⟩
  rintro ⟨i, v⟩ M X ⟨hi, kk, g⟩ hX
  change GrB A.length M v (blkX key 54#8 ++ B.take i) at g
  simp only at hi
  by_cases hlt : i < B.length
  · have hl := hB.len
    obtain ⟨b, o, cap, s, c, rfl, hrow, hat, _⟩ := hB.cons hlt
    have hr := (k0.trans kk).row hrow (by simp)
    have e := hat i hlt
    simp -implicitDefEqProofs (disch := (first | omega | (simp only [lenB, shaB_len, macB_len] <;> omega) | fail)) only [admQ, lenB, shaB_len, macB_len, aFill, AK.cls, implies_true, ↓reduceIte, reduceCtorEq, if_true, if_false, Nat.reduceAdd, Nat.reduceEqDiff, Nat.reduceMod, Nat.reduceLT, Nat.reduceLeDiff, Nat.reduceSub, Nat.reduceMul, Nat.reduceBEq, Int.reduceAdd, Int.reduceSub, Int.reduceMul, Int.reduceNeg, Int.reduceLT, Int.reduceLE, Int.reduceToNat, Int.reduceEq, Int.reduceBEq, hl, hr, e]
    obtain ⟨x3, m3, e3, g3, k3, a3⟩ := g.push (gb B i) (by simp; omega) kk.len
    refine someW_eq e3 ?_
    simp -implicitDefEqProofs (disch := (first | omega | (simp only [lenB, shaB_len, macB_len] <;> omega) | fail)) only [admQ, lenB, shaB_len, macB_len, aFill, AK.cls, implies_true, ↓reduceIte, reduceCtorEq, if_true, if_false, Nat.reduceAdd, Nat.reduceEqDiff, Nat.reduceMod, Nat.reduceLT, Nat.reduceLeDiff, Nat.reduceSub, Nat.reduceMul, Nat.reduceBEq, Int.reduceAdd, Int.reduceSub, Int.reduceMul, Int.reduceNeg, Int.reduceLT, Int.reduceLE, Int.reduceToNat, Int.reduceEq, Int.reduceBEq]
    refine hX (i + 1, x3) _ _ rfl (by simp only; omega) ⟨by simp only; omega, a3 _ _ kk (Nat.le_refl _), ?_⟩
    show GrB A.length m3 x3 (blkX key 54#8 ++ B.take (i + 1))
    rw [take_gb2 hlt, ← List.append_assoc]; exact g3
  · obtain rfl : i = B.length := by omega
    rw [List.take_length] at g
    simp -implicitDefEqProofs (disch := (first | omega | (simp only [lenB, shaB_len, macB_len] <;> omega) | fail)) only [admQ, lenB, shaB_len, macB_len, aFill, AK.cls, implies_true, ↓reduceIte, reduceCtorEq, if_true, if_false, Nat.reduceAdd, Nat.reduceEqDiff, Nat.reduceMod, Nat.reduceLT, Nat.reduceLeDiff, Nat.reduceSub, Nat.reduceMul, Nat.reduceBEq, Int.reduceAdd, Int.reduceSub, Int.reduceMul, Int.reduceNeg, Int.reduceLT, Int.reduceLE, Int.reduceToNat, Int.reduceEq, Int.reduceBEq, hB.len]
    clear hX X hlt hi
    refine (ans_rsof ((k0.trans kk).row hK (by simp)) g.rd (by simp; omega)).mono ?_
    rintro _ m2 ⟨rfl, k2⟩
    generalize hS : shaB (blkX key 54#8 ++ B) = S
    have hSl : S.length = 32 := by rw [← hS]; exact shaB_len _
    simp -implicitDefEqProofs (disch := (first | omega | (simp only [lenB, shaB_len, macB_len] <;> omega) | fail)) only [admQ, lenB, shaB_len, macB_len, aFill, AK.cls, implies_true, ↓reduceIte, reduceCtorEq, if_true, if_false, Nat.reduceAdd, Nat.reduceEqDiff, Nat.reduceMod, Nat.reduceLT, Nat.reduceLeDiff, Nat.reduceSub, Nat.reduceMul, Nat.reduceBEq, Int.reduceAdd, Int.reduceSub, Int.reduceMul, Int.reduceNeg, Int.reduceLT, Int.reduceLE, Int.reduceToNat, Int.reduceEq, Int.reduceBEq]
    have K2 := (k0.trans (kk.trans k2)).more_app [Blk.row (bys S) false]
    have o2 := ((kk.trans k2).more_app [Blk.row (bys S) false]).own o0 (by simp)
    have oS : own (m2 ++ [Blk.row (bys S) false]) m2.length = some (bys S) := by rw [own_app_at0]; rfl
    clear k2 g kk k1 g1 k0 o0
    generalize m2 ++ [Blk.row (bys S) false] = C at K2 o2 oS
    refine (ans_rsblk 92#8 (K2.row hK (by simp)) (hx.kept0 K2) hkl).mono ?_
    rintro z m4 ⟨k4, g4⟩
    simp -implicitDefEqProofs (disch := (first | omega | (simp only [lenB, shaB_len, macB_len] <;> omega) | fail)) only [admQ, lenB, shaB_len, macB_len, aFill, AK.cls, implies_true, ↓reduceIte, reduceCtorEq, if_true, if_false, Nat.reduceAdd, Nat.reduceEqDiff, Nat.reduceMod, Nat.reduceLT, Nat.reduceLeDiff, Nat.reduceSub, Nat.reduceMul, Nat.reduceBEq, Int.reduceAdd, Int.reduceSub, Int.reduceMul, Int.reduceNeg, Int.reduceLT, Int.reduceLE, Int.reduceToNat, Int.reduceEq, Int.reduceBEq]
    refine LoopW.on (fun t : Nat × AV => [(4, .ptr m.length 0), (5, t.2), (7, .ptr m2.length 0), (8, .int .i64 t.1)]) (fun t => 32 - t.1) (fun t M => t.1 ≤ 32 ∧ Kept [] C M ∧ GrB C.length M t.2 (blkX key 92#8 ++ S.take t.1)) ?_ (0, z) _ _ rfl ⟨by simp, k4, by simpa using g4⟩
    rintro ⟨i, v⟩ M X ⟨hi, kk, g⟩ hX
    change GrB C.length M v (blkX key 92#8 ++ S.take i) at g
    simp only at hi
    have oM := kk.own oS (by simp)
    by_cases hlt : i < 32
    · have e : (bys S)[i]? = some (b8 (gb S i)) := bys_at (by omega)
      simp -implicitDefEqProofs (disch := (first | omega | (simp only [lenB, shaB_len, macB_len] <;> omega) | fail)) only [admQ, lenB, shaB_len, macB_len, aFill, AK.cls, implies_true, ↓reduceIte, reduceCtorEq, if_true, if_false, Nat.reduceAdd, Nat.reduceEqDiff, Nat.reduceMod, Nat.reduceLT, Nat.reduceLeDiff, Nat.reduceSub, Nat.reduceMul, Nat.reduceBEq, Int.reduceAdd, Int.reduceSub, Int.reduceMul, Int.reduceNeg, Int.reduceLT, Int.reduceLE, Int.reduceToNat, Int.reduceEq, Int.reduceBEq, rowOf_own oM, e]
      obtain ⟨x3, m3, e3, g3, k3, a3⟩ := g.push (gb S i) (by simp; omega) kk.len
      refine someW_eq e3 ?_
      simp -implicitDefEqProofs (disch := (first | omega | (simp only [lenB, shaB_len, macB_len] <;> omega) | fail)) only [admQ, lenB, shaB_len, macB_len, aFill, AK.cls, implies_true, ↓reduceIte, reduceCtorEq, if_true, if_false, Nat.reduceAdd, Nat.reduceEqDiff, Nat.reduceMod, Nat.reduceLT, Nat.reduceLeDiff, Nat.reduceSub, Nat.reduceMul, Nat.reduceBEq, Int.reduceAdd, Int.reduceSub, Int.reduceMul, Int.reduceNeg, Int.reduceLT, Int.reduceLE, Int.reduceToNat, Int.reduceEq, Int.reduceBEq]
      refine hX (i + 1, x3) _ _ rfl (by simp only; omega) ⟨by simp only; omega, a3 _ _ kk (Nat.le_refl _), ?_⟩
      show GrB C.length m3 x3 (blkX key 92#8 ++ S.take (i + 1))
      rw [take_gb2 (by omega), ← List.append_assoc]; exact g3
    · obtain rfl : i = 32 := by omega
      rw [List.take_of_length_le (by omega)] at g
      simp -implicitDefEqProofs (disch := (first | omega | (simp only [lenB, shaB_len, macB_len] <;> omega) | fail)) only [admQ, lenB, shaB_len, macB_len, aFill, AK.cls, implies_true, ↓reduceIte, reduceCtorEq, if_true, if_false, Nat.reduceAdd, Nat.reduceEqDiff, Nat.reduceMod, Nat.reduceLT, Nat.reduceLeDiff, Nat.reduceSub, Nat.reduceMul, Nat.reduceBEq, Int.reduceAdd, Int.reduceSub, Int.reduceMul, Int.reduceNeg, Int.reduceLT, Int.reduceLE, Int.reduceToNat, Int.reduceEq, Int.reduceBEq]
      refine (ans_rsof ((K2.trans kk).row hK (by simp)) g.rd (by simp; omega)).mono ?_
      rintro _ m5 ⟨rfl, k5⟩
      have oR := (kk.trans k5).own o2 (by simp)
      have hml := shaB_len (blkX key 92#8 ++ S)
      simp -implicitDefEqProofs (disch := (first | omega | (simp only [lenB, shaB_len, macB_len] <;> omega) | fail)) only [admQ, lenB, shaB_len, macB_len, aFill, AK.cls, implies_true, ↓reduceIte, reduceCtorEq, if_true, if_false, Nat.reduceAdd, Nat.reduceEqDiff, Nat.reduceMod, Nat.reduceLT, Nat.reduceLeDiff, Nat.reduceSub, Nat.reduceMul, Nat.reduceBEq, Int.reduceAdd, Int.reduceSub, Int.reduceMul, Int.reduceNeg, Int.reduceLT, Int.reduceLE, Int.reduceToNat, Int.reduceEq, Int.reduceBEq, oR, own_set (own_lt oR), rowOf_own (own_set (own_lt oR) _)]
      exact ⟨by rw [macB, hS], (K2.trans (kk.trans k5)).write (.inr (Nat.le_refl _)) _⟩
theorem ans_rsderive {m : Mem} {x : AV} {key : List B8} (s : ByteArray) (hK : rowOf m 1 = some (wds kT)) (hx : RdB m x key) (hkl : key.length ≤ 900000000) (hlen : s.size ≤ 1000) :
    Ans Tryz.prog 39 [x, .str s] m fun r m' => r = .agg (bys (macB key (strB s))) ∧ Kept [] m m' := by
  refine ans_ret mixed ok39 ?_
  simp -implicitDefEqProofs (disch := (first | omega | (simp only [lenB, shaB_len, macB_len] <;> omega) | fail)) only [admQ, lenB, shaB_len, macB_len, aFill, AK.cls, implies_true, ↓reduceIte, reduceCtorEq, if_true, if_false, Nat.reduceAdd, Nat.reduceEqDiff, Nat.reduceMod, Nat.reduceLT, Nat.reduceLeDiff, Nat.reduceSub, Nat.reduceMul, Nat.reduceBEq, Int.reduceAdd, Int.reduceSub, Int.reduceMul, Int.reduceNeg, Int.reduceLT, Int.reduceLE, Int.reduceToNat, Int.reduceEq, Int.reduceBEq, c39, r39, opW_s2b, opDW_s2b, mkS2b, strCells_bys]
  have k0 := Kept.app [] m [Blk.row (bys (List.replicate 32 0#8)) false, Blk.row (bys (strB s)) false]
  have o0 : own (m ++ [Blk.row (bys (List.replicate 32 0#8)) false, Blk.row (bys (strB s)) false]) m.length = some (bys (List.replicate 32 0#8)) := by rw [own_app_at0]; rfl
  have o1 : own (m ++ [Blk.row (bys (List.replicate 32 0#8)) false, Blk.row (bys (strB s)) false]) (m.length + 1) = some (bys (strB s)) := by rw [own_app_at]; rfl
  generalize m ++ [Blk.row (bys (List.replicate 32 0#8)) false, Blk.row (bys (strB s)) false] = A0 at k0 o0 o1
  have hr := RdB.row (l := strB s) s.size 1 (rowOf_own o1) (by rw [strB_len]; omega)
  rw [strB_len] at hr
  refine (ans_rsmac (k0.row hK (by simp)) (hx.kept0 k0) hr hkl (by rw [strB_len]; omega)).mono ?_
  rintro _ m1 ⟨rfl, k1⟩
  have o0' := k1.own o0 (by simp)
  have hml := macB_len key (strB s)
  simp -implicitDefEqProofs (disch := (first | omega | (simp only [lenB, shaB_len, macB_len] <;> omega) | fail)) only [admQ, lenB, shaB_len, macB_len, aFill, AK.cls, implies_true, ↓reduceIte, reduceCtorEq, if_true, if_false, Nat.reduceAdd, Nat.reduceEqDiff, Nat.reduceMod, Nat.reduceLT, Nat.reduceLeDiff, Nat.reduceSub, Nat.reduceMul, Nat.reduceBEq, Int.reduceAdd, Int.reduceSub, Int.reduceMul, Int.reduceNeg, Int.reduceLT, Int.reduceLE, Int.reduceToNat, Int.reduceEq, Int.reduceBEq, o0', own_set (own_lt o0'), rowOf_own (own_set (own_lt o0') _)]
  exact (k0.trans k1).write (.inr (Nat.le_refl _)) _
end Go.Proofs.YtmnlmjlmbceimaaGreatDoor
end
section
/- Sealing, as the document has it. -/
namespace Go.Proofs.YtmnlmjlmbceimaaGreatDoor
open Go Go.Adm
set_option linter.unusedSimpArgs false
set_option linter.unusedVariables false
set_option maxRecDepth 100000
theorem ans_rseight (v : Nat) (hv : v < 4611686018427387904) (m : Mem) : Ans Tryz.prog 70 [.int .i64 v] m fun r m' => Kept [] m m' ∧ GrB m.length m' r (lowB v 8) := by
  refine ans_ret mixed ok70 ?_
  simp -implicitDefEqProofs (disch := (first | omega | (simp only [lenB, lowB_len, macB_len, tagB_len, turnB_len] <;> omega) | fail)) only [admQ, lenB, lowB_len, macB_len, tagB_len, turnB_len, aFill, AK.cls, implies_true, ↓reduceIte, reduceCtorEq, if_true, if_false, Nat.reduceAdd, Nat.reduceEqDiff, Nat.reduceMod, Nat.reduceLT, Nat.reduceLeDiff, Nat.reduceSub, Nat.reduceMul, Nat.reduceBEq, Int.reduceAdd, Int.reduceSub, Int.reduceMul, Int.reduceNeg, Int.reduceLT, Int.reduceLE, Int.reduceToNat, Int.reduceEq, Int.reduceBEq, c70, r70]
  refine LoopW.on (fun t : Nat × AV => [(0, .int .i64 v), (3, t.2), (4, .int .i64 (7 - (t.1 : Int)))]) (fun t => 8 - t.1)
    (fun t M => t.1 ≤ 8 ∧ Kept [] m M ∧ GrB m.length M t.2 (tab t.1 (fun i => byV v (7 - i)))) ?_ (0, .nils) _ _ rfl ⟨by simp, .refl _ _, .nils ..⟩
  rintro ⟨k, x⟩ M X ⟨hk, kk, g⟩ hX
  change GrB m.length M x (tab k (fun i => byV v (7 - i))) at g
  simp only at hk
  by_cases hlt : k < 8
  · rw [show (7 - (k : Int)) = ((7 - k : Nat) : Int) by omega]
    have hw : IntKind.u8.wrap ((v >>> (8 * (7 - k)) : Nat) : Int) = ((byV v (7 - k)).toNat : Int) := wrap_u8 _
    have hmin : Nat.min (8 * (7 - k)) 64 = 8 * (7 - k) := Nat.min_eq_left (by omega)
    simp -implicitDefEqProofs (disch := (first | omega | (simp only [lenB, lowB_len, macB_len, tagB_len, turnB_len] <;> omega) | fail)) only [admQ, lenB, lowB_len, macB_len, tagB_len, turnB_len, aFill, AK.cls, implies_true, ↓reduceIte, reduceCtorEq, if_true, if_false, Nat.reduceAdd, Nat.reduceEqDiff, Nat.reduceMod, Nat.reduceLT, Nat.reduceLeDiff, Nat.reduceSub, Nat.reduceMul, Nat.reduceBEq, Int.reduceAdd, Int.reduceSub, Int.reduceMul, Int.reduceNeg, Int.reduceLT, Int.reduceLE, Int.reduceToNat, Int.reduceEq, Int.reduceBEq, fdiv_pow, hmin, hw, @w64]
    obtain ⟨x3, m3, e3, g3, k3, a3⟩ := g.push (byV v (7 - k)) (by simp [tab_len]; omega) kk.len
    refine someW_eq e3 ?_
    simp -implicitDefEqProofs (disch := (first | omega | (simp only [lenB, lowB_len, macB_len, tagB_len, turnB_len] <;> omega) | fail)) only [admQ, lenB, lowB_len, macB_len, tagB_len, turnB_len, aFill, AK.cls, implies_true, ↓reduceIte, reduceCtorEq, if_true, if_false, Nat.reduceAdd, Nat.reduceEqDiff, Nat.reduceMod, Nat.reduceLT, Nat.reduceLeDiff, Nat.reduceSub, Nat.reduceMul, Nat.reduceBEq, Int.reduceAdd, Int.reduceSub, Int.reduceMul, Int.reduceNeg, Int.reduceLT, Int.reduceLE, Int.reduceToNat, Int.reduceEq, Int.reduceBEq]
    rw [show ((7 - k : Nat) : Int) - 1 = 7 - ((k + 1 : Nat) : Int) by omega]
    refine hX (k + 1, x3) _ _ rfl (by simp only; omega) ⟨by simp only; omega, a3 _ _ kk (Nat.le_refl _), ?_⟩
    show GrB m.length m3 x3 (tab (k + 1) _)
    rw [tab_succ]; exact g3
  · obtain rfl : k = 8 := by omega
    simp -implicitDefEqProofs (disch := (first | omega | (simp only [lenB, lowB_len, macB_len, tagB_len, turnB_len] <;> omega) | fail)) only [admQ, lenB, lowB_len, macB_len, tagB_len, turnB_len, aFill, AK.cls, implies_true, ↓reduceIte, reduceCtorEq, if_true, if_false, Nat.reduceAdd, Nat.reduceEqDiff, Nat.reduceMod, Nat.reduceLT, Nat.reduceLeDiff, Nat.reduceSub, Nat.reduceMul, Nat.reduceBEq, Int.reduceAdd, Int.reduceSub, Int.reduceMul, Int.reduceNeg, Int.reduceLT, Int.reduceLE, Int.reduceToNat, Int.reduceEq, Int.reduceBEq]
    exact ⟨kk, g⟩
theorem ans_rsright (e n : Int) (m : Mem) : Ans Tryz.prog 57 [.int .i64 e, .int .i64 n] m fun r m' => r = .bool (decide (placedP e n)) ∧ m' = m := by
  refine ans_ret mixed ok57 ?_
  by_cases h1 : e ≥ 0
  · by_cases h2 : e ≤ 1099511627776
    · by_cases h3 : n ≥ 0
      · by_cases h4 : n ≤ 1099511627776
        · have hp : placedP e n := ⟨⟨h1, h2⟩, h3, h4⟩
          simp -implicitDefEqProofs (disch := (first | omega | (simp only [lenB, lowB_len, macB_len, tagB_len, turnB_len] <;> omega) | fail)) only [admQ, lenB, lowB_len, macB_len, tagB_len, turnB_len, aFill, AK.cls, implies_true, ↓reduceIte, reduceCtorEq, if_true, if_false, Nat.reduceAdd, Nat.reduceEqDiff, Nat.reduceMod, Nat.reduceLT, Nat.reduceLeDiff, Nat.reduceSub, Nat.reduceMul, Nat.reduceBEq, Int.reduceAdd, Int.reduceSub, Int.reduceMul, Int.reduceNeg, Int.reduceLT, Int.reduceLE, Int.reduceToNat, Int.reduceEq, Int.reduceBEq, c57, r57, dec_t h1, dec_t h2, dec_t h3, dec_t h4, decide_eq_true hp]
        · have hp : ¬ placedP e n := fun h => h4 h.2.2
          simp -implicitDefEqProofs (disch := (first | omega | (simp only [lenB, lowB_len, macB_len, tagB_len, turnB_len] <;> omega) | fail)) only [admQ, lenB, lowB_len, macB_len, tagB_len, turnB_len, aFill, AK.cls, implies_true, ↓reduceIte, reduceCtorEq, if_true, if_false, Nat.reduceAdd, Nat.reduceEqDiff, Nat.reduceMod, Nat.reduceLT, Nat.reduceLeDiff, Nat.reduceSub, Nat.reduceMul, Nat.reduceBEq, Int.reduceAdd, Int.reduceSub, Int.reduceMul, Int.reduceNeg, Int.reduceLT, Int.reduceLE, Int.reduceToNat, Int.reduceEq, Int.reduceBEq, c57, r57, dec_t h1, dec_t h2, dec_t h3, dec_f h4, decide_eq_false hp]
      · have hp : ¬ placedP e n := fun h => h3 h.2.1
        simp -implicitDefEqProofs (disch := (first | omega | (simp only [lenB, lowB_len, macB_len, tagB_len, turnB_len] <;> omega) | fail)) only [admQ, lenB, lowB_len, macB_len, tagB_len, turnB_len, aFill, AK.cls, implies_true, ↓reduceIte, reduceCtorEq, if_true, if_false, Nat.reduceAdd, Nat.reduceEqDiff, Nat.reduceMod, Nat.reduceLT, Nat.reduceLeDiff, Nat.reduceSub, Nat.reduceMul, Nat.reduceBEq, Int.reduceAdd, Int.reduceSub, Int.reduceMul, Int.reduceNeg, Int.reduceLT, Int.reduceLE, Int.reduceToNat, Int.reduceEq, Int.reduceBEq, c57, r57, dec_t h1, dec_t h2, dec_f h3, decide_eq_false hp]
    · have hp : ¬ placedP e n := fun h => h2 h.1.2
      simp -implicitDefEqProofs (disch := (first | omega | (simp only [lenB, lowB_len, macB_len, tagB_len, turnB_len] <;> omega) | fail)) only [admQ, lenB, lowB_len, macB_len, tagB_len, turnB_len, aFill, AK.cls, implies_true, ↓reduceIte, reduceCtorEq, if_true, if_false, Nat.reduceAdd, Nat.reduceEqDiff, Nat.reduceMod, Nat.reduceLT, Nat.reduceLeDiff, Nat.reduceSub, Nat.reduceMul, Nat.reduceBEq, Int.reduceAdd, Int.reduceSub, Int.reduceMul, Int.reduceNeg, Int.reduceLT, Int.reduceLE, Int.reduceToNat, Int.reduceEq, Int.reduceBEq, c57, r57, dec_t h1, dec_f h2, decide_eq_false hp]
  · have hp : ¬ placedP e n := fun h => h1 h.1.1
    simp -implicitDefEqProofs (disch := (first | omega | (simp only [lenB, lowB_len, macB_len, tagB_len, turnB_len] <;> omega) | fail)) only [admQ, lenB, lowB_len, macB_len, tagB_len, turnB_len, aFill, AK.cls, implies_true, ↓reduceIte, reduceCtorEq, if_true, if_false, Nat.reduceAdd, Nat.reduceEqDiff, Nat.reduceMod, Nat.reduceLT, Nat.reduceLeDiff, Nat.reduceSub, Nat.reduceMul, Nat.reduceBEq, Int.reduceAdd, Int.reduceSub, Int.reduceMul, Int.reduceNeg, Int.reduceLT, Int.reduceLE, Int.reduceToNat, Int.reduceEq, Int.reduceBEq, c57, r57, dec_f h1, decide_eq_false hp]
/-- The document's box under a key. -/
structure RBox (m : Mem) (x c : Nat) (key : List B8) : Prop where
  hd : ∃ v, rowOf m x = some [.ptr c 0, v] ∧ RdB m v (authK key)
  ci : RCiph m c 11 (expand (encK key))
  kR : rowOf m 1 = some (wds kT)
theorem RBox.kept0 {m m' : Mem} {x c : Nat} {key : List B8} (h : RBox m x c key) (hk : Kept [] m m') : RBox m' x c key :=
  ⟨let ⟨v, h1, h2⟩ := h.hd; ⟨v, hk.row h1 (by simp), h2.kept0 hk⟩, h.ci.kept0 hk, hk.row h.kR (by simp)⟩
theorem ans_rsnew {m : Mem} {y : AV} {key : List B8} (hK : rowOf m 1 = some (wds kT)) (hy : RdB m y key) (hkl : key.length ≤ 900000000) :
    Ans Tryz.prog 21 [y] m fun r m' => ∃ x c, r = .ptr x 0 ∧ Kept [] m m' ∧ ∀ M : Mem, (∀ q, m.length ≤ q → q < m'.length → M[q]? = m'[q]?) → rowOf M 1 = some (wds kT) → RBox M x c key := by
  refine ans_ret mixed ok21 ?_
  simp -implicitDefEqProofs (disch := (first | omega | (simp only [lenB, lowB_len, macB_len, tagB_len, turnB_len] <;> omega) | fail)) only [admQ, lenB, lowB_len, macB_len, tagB_len, turnB_len, aFill, AK.cls, implies_true, ↓reduceIte, reduceCtorEq, if_true, if_false, Nat.reduceAdd, Nat.reduceEqDiff, Nat.reduceMod, Nat.reduceLT, Nat.reduceLeDiff, Nat.reduceSub, Nat.reduceMul, Nat.reduceBEq, Int.reduceAdd, Int.reduceSub, Int.reduceMul, Int.reduceNeg, Int.reduceLT, Int.reduceLE, Int.reduceToNat, Int.reduceEq, Int.reduceBEq, c21, r21]
  refine (ans_rsderive encS hK hy hkl (by decide)).mono ?_
  rintro _ m1 ⟨rfl, k1⟩
  have h1 := macB_len key (strB encS)
  have h2 := macB_len key (strB authS)
  simp -implicitDefEqProofs (disch := (first | omega | (simp only [lenB, lowB_len, macB_len, tagB_len, turnB_len] <;> omega) | fail)) only [admQ, lenB, lowB_len, macB_len, tagB_len, turnB_len, aFill, AK.cls, implies_true, ↓reduceIte, reduceCtorEq, if_true, if_false, Nat.reduceAdd, Nat.reduceEqDiff, Nat.reduceMod, Nat.reduceLT, Nat.reduceLeDiff, Nat.reduceSub, Nat.reduceMul, Nat.reduceBEq, Int.reduceAdd, Int.reduceSub, Int.reduceMul, Int.reduceNeg, Int.reduceLT, Int.reduceLE, Int.reduceToNat, Int.reduceEq, Int.reduceBEq]
  have kA := k1.more_app [Blk.row (bys (macB key (strB encS))) false]
  have rE : RdB (m1 ++ [Blk.row (bys (macB key (strB encS))) false]) (.sl m1.length 0 16 32 0) (encK key) := by
    have := RdB.row (m := m1 ++ [Blk.row (bys (macB key (strB encS))) false]) (b := m1.length) (l := macB key (strB encS)) 32 0 (by rw [rowOf_app_at0]; rfl) (by omega)
    rw [h1] at this
    exact this.take (k := 16) (by omega)
  generalize m1 ++ [Blk.row (bys (macB key (strB encS))) false] = A at kA rE
  refine (ans_rsderive authS (kA.row hK (by simp)) (hy.kept0 kA) hkl (by decide)).mono ?_
  rintro _ m2 ⟨rfl, k2⟩
  simp -implicitDefEqProofs (disch := (first | omega | (simp only [lenB, lowB_len, macB_len, tagB_len, turnB_len] <;> omega) | fail)) only [admQ, lenB, lowB_len, macB_len, tagB_len, turnB_len, aFill, AK.cls, implies_true, ↓reduceIte, reduceCtorEq, if_true, if_false, Nat.reduceAdd, Nat.reduceEqDiff, Nat.reduceMod, Nat.reduceLT, Nat.reduceLeDiff, Nat.reduceSub, Nat.reduceMul, Nat.reduceBEq, Int.reduceAdd, Int.reduceSub, Int.reduceMul, Int.reduceNeg, Int.reduceLT, Int.reduceLE, Int.reduceToNat, Int.reduceEq, Int.reduceBEq]
  have kB := (kA.trans k2).more_app [Blk.row (bys (macB key (strB authS))) false]
  have oB : own (m2 ++ [Blk.row (bys (macB key (strB authS))) false]) m2.length = some (bys (macB key (strB authS))) := by rw [own_app_at0]; rfl
  have rE2 := (rE.kept0 k2).app [Blk.row (bys (macB key (strB authS))) false]
  generalize m2 ++ [Blk.row (bys (macB key (strB authS))) false] = B at kB oB rE2
  have hel := encK_len key
  refine (ans_rnew rE2 (.inl hel)).mono ?_
  rintro _ m3 ⟨c, rfl, k3, hc, ci⟩
  rw [hel] at ci
  have ci3 := ci m3 (fun _ _ _ => rfl)
  have o3 := k3.own oB (by simp)
  simp -implicitDefEqProofs (disch := (first | omega | (simp only [lenB, lowB_len, macB_len, tagB_len, turnB_len] <;> omega) | fail)) only [admQ, lenB, lowB_len, macB_len, tagB_len, turnB_len, aFill, AK.cls, implies_true, ↓reduceIte, reduceCtorEq, if_true, if_false, Nat.reduceAdd, Nat.reduceEqDiff, Nat.reduceMod, Nat.reduceLT, Nat.reduceLeDiff, Nat.reduceSub, Nat.reduceMul, Nat.reduceBEq, Int.reduceAdd, Int.reduceSub, Int.reduceMul, Int.reduceNeg, Int.reduceLT, Int.reduceLE, Int.reduceToNat, Int.reduceEq, Int.reduceBEq]
  have hau : macB key (strB authS) = authK key := rfl
  rw [hau] at o3 h2
  have hal := h2
  have r3 := RdB.row (m := m3) (l := authK key) 32 0 (rowOf_own o3) (by omega)
  rw [hal] at r3
  have gz : GrB (m3 ++ [Blk.row [] false]).length (m3 ++ [Blk.row [] false]) (.sl m3.length 0 0 0 0) [] := .zero (by rw [own_app_at0]; rfl)
  obtain ⟨x4, m4, e4, g4, k4, a4⟩ := gz.pushs (r3.app [Blk.row [] false]) (by simp only [List.length_nil]; omega) (Nat.le_refl _)
  refine someW_eq e4 ?_
  have K4 : Kept [] m3 m4 := by
    have ha : Kept [] m3 (m3 ++ [Blk.row [] false]) := .app _ _ _
    exact ha.trans (a4 _ _ (.refl _ _) (Nat.le_refl _))
  rw [List.nil_append] at g4
  simp -implicitDefEqProofs (disch := (first | omega | (simp only [lenB, lowB_len, macB_len, tagB_len, turnB_len] <;> omega) | fail)) only [admQ, lenB, lowB_len, macB_len, tagB_len, turnB_len, aFill, AK.cls, implies_true, ↓reduceIte, reduceCtorEq, if_true, if_false, Nat.reduceAdd, Nat.reduceEqDiff, Nat.reduceMod, Nat.reduceLT, Nat.reduceLeDiff, Nat.reduceSub, Nat.reduceMul, Nat.reduceBEq, Int.reduceAdd, Int.reduceSub, Int.reduceMul, Int.reduceNeg, Int.reduceLT, Int.reduceLE, Int.reduceToNat, Int.reduceEq, Int.reduceBEq, (gr_one g4).1, (gr_one g4).2]
  have kZ := (kB.trans (k3.trans K4))
  refine ⟨_, c, rfl, kZ.more_app _, fun M hM hK' => ?_⟩
  have hmB := kB.len
  have hB3 := k3.len
  have h34 := K4.len
  have hcut : ∀ q, m.length ≤ q → q < m4.length → M[q]? = m4[q]? := fun q h1 h2 => by
    rw [hM q h1 (by omega), List.getElem?_append_left h2]
  have hx : rowOf M m4.length = some [.ptr c 0, x4] := rowOf_at (m := m4 ++ [Blk.row [.ptr c 0, x4] false]) (by rw [rowOf_app_at0]; rfl) (hM _ (by omega) (by omega))
  have hne : bys (authK key) ≠ [] := by intro e; have := congrArg List.length e; simp [hal] at this
  refine ⟨⟨x4, hx, g4.rd.at_ fun b hb => hcut b ?_ (g4.lt b hb)⟩, ci M fun q h1 h2 => ?_, hK'⟩
  · have := GrA.blk g4 hne b hb
    rw [List.length_append] at this; omega
  · rw [hcut q (by omega) (by omega)]
    exact K4.eq q h2 (by simp)
theorem ans_rstag {m : Mem} {x c : Nat} {key head b : List B8} {hx bx : AV} {e n : Int} (hs : RBox m x c key) (hh : RdB m hx head) (hb : RdB m bx b) (he : placedP e n) (hl : head.length ≤ 100000000 ∧ b.length ≤ 100000000) :
    Ans Tryz.prog 59 [.ptr x 0, .int .i64 e, .int .i64 n, hx, bx] m fun r m' => r = .agg (bys (tagB key head e n b)) ∧ Kept [] m m' := by
  refine ans_ret mixed ok59 ?_
  obtain ⟨v, hv, hav⟩ := hs.hd
  obtain ⟨⟨e0, e1⟩, n0, n1⟩ := he
  obtain ⟨e, rfl⟩ := Int.eq_ofNat_of_zero_le e0
  obtain ⟨n, rfl⟩ := Int.eq_ofNat_of_zero_le n0
  simp -implicitDefEqProofs (disch := (first | omega | (simp only [lenB, lowB_len, macB_len, tagB_len, turnB_len] <;> omega) | fail)) only [admQ, lenB, lowB_len, macB_len, tagB_len, turnB_len, aFill, AK.cls, implies_true, ↓reduceIte, reduceCtorEq, if_true, if_false, Nat.reduceAdd, Nat.reduceEqDiff, Nat.reduceMod, Nat.reduceLT, Nat.reduceLeDiff, Nat.reduceSub, Nat.reduceMul, Nat.reduceBEq, Int.reduceAdd, Int.reduceSub, Int.reduceMul, Int.reduceNeg, Int.reduceLT, Int.reduceLE, Int.reduceToNat, Int.reduceEq, Int.reduceBEq, c59, r59, hh.len]
  have k0 := Kept.app [] m [Blk.row (bys (List.replicate 32 0#8)) false]
  have o0 : own (m ++ [Blk.row (bys (List.replicate 32 0#8)) false]) m.length = some (bys (List.replicate 32 0#8)) := by rw [own_app_at0]; rfl
  generalize m ++ [Blk.row (bys (List.replicate 32 0#8)) false] = A at k0 o0
  refine (ans_rseight head.length (by omega) _).mono ?_
  rintro r1 m1 ⟨k1, g1⟩
  simp -implicitDefEqProofs (disch := (first | omega | (simp only [lenB, lowB_len, macB_len, tagB_len, turnB_len] <;> omega) | fail)) only [admQ, lenB, lowB_len, macB_len, tagB_len, turnB_len, aFill, AK.cls, implies_true, ↓reduceIte, reduceCtorEq, if_true, if_false, Nat.reduceAdd, Nat.reduceEqDiff, Nat.reduceMod, Nat.reduceLT, Nat.reduceLeDiff, Nat.reduceSub, Nat.reduceMul, Nat.reduceBEq, Int.reduceAdd, Int.reduceSub, Int.reduceMul, Int.reduceNeg, Int.reduceLT, Int.reduceLE, Int.reduceToNat, Int.reduceEq, Int.reduceBEq]
  obtain ⟨x2, m2, e2, g2, k2, a2⟩ := g1.pushs (hh.kept0 (k0.trans k1)) (by simp [lowB_len]; omega) k1.len
  refine someW_eq e2 ?_
  have K2 := a2 _ _ k1 (Nat.le_refl _)
  simp -implicitDefEqProofs (disch := (first | omega | (simp only [lenB, lowB_len, macB_len, tagB_len, turnB_len] <;> omega) | fail)) only [admQ, lenB, lowB_len, macB_len, tagB_len, turnB_len, aFill, AK.cls, implies_true, ↓reduceIte, reduceCtorEq, if_true, if_false, Nat.reduceAdd, Nat.reduceEqDiff, Nat.reduceMod, Nat.reduceLT, Nat.reduceLeDiff, Nat.reduceSub, Nat.reduceMul, Nat.reduceBEq, Int.reduceAdd, Int.reduceSub, Int.reduceMul, Int.reduceNeg, Int.reduceLT, Int.reduceLE, Int.reduceToNat, Int.reduceEq, Int.reduceBEq]
  refine (ans_rseight e (by omega) _).mono ?_
  rintro r3 m3 ⟨k3, g3⟩
  have K3 := K2.trans k3
  have g2' := g2.kept0 k3
  simp -implicitDefEqProofs (disch := (first | omega | (simp only [lenB, lowB_len, macB_len, tagB_len, turnB_len] <;> omega) | fail)) only [admQ, lenB, lowB_len, macB_len, tagB_len, turnB_len, aFill, AK.cls, implies_true, ↓reduceIte, reduceCtorEq, if_true, if_false, Nat.reduceAdd, Nat.reduceEqDiff, Nat.reduceMod, Nat.reduceLT, Nat.reduceLeDiff, Nat.reduceSub, Nat.reduceMul, Nat.reduceBEq, Int.reduceAdd, Int.reduceSub, Int.reduceMul, Int.reduceNeg, Int.reduceLT, Int.reduceLE, Int.reduceToNat, Int.reduceEq, Int.reduceBEq]
  obtain ⟨x4, m4, e4, g4, k4, a4⟩ := g2'.pushs g3.rd (by simp [lowB_len]; omega) K3.len
  refine someW_eq e4 ?_
  have K4 := a4 _ _ K3 (Nat.le_refl _)
  simp -implicitDefEqProofs (disch := (first | omega | (simp only [lenB, lowB_len, macB_len, tagB_len, turnB_len] <;> omega) | fail)) only [admQ, lenB, lowB_len, macB_len, tagB_len, turnB_len, aFill, AK.cls, implies_true, ↓reduceIte, reduceCtorEq, if_true, if_false, Nat.reduceAdd, Nat.reduceEqDiff, Nat.reduceMod, Nat.reduceLT, Nat.reduceLeDiff, Nat.reduceSub, Nat.reduceMul, Nat.reduceBEq, Int.reduceAdd, Int.reduceSub, Int.reduceMul, Int.reduceNeg, Int.reduceLT, Int.reduceLE, Int.reduceToNat, Int.reduceEq, Int.reduceBEq]
  refine (ans_rseight n (by omega) _).mono ?_
  rintro r5 m5 ⟨k5, g5⟩
  have K5 := K4.trans k5
  have g4' := g4.kept0 k5
  simp -implicitDefEqProofs (disch := (first | omega | (simp only [lenB, lowB_len, macB_len, tagB_len, turnB_len] <;> omega) | fail)) only [admQ, lenB, lowB_len, macB_len, tagB_len, turnB_len, aFill, AK.cls, implies_true, ↓reduceIte, reduceCtorEq, if_true, if_false, Nat.reduceAdd, Nat.reduceEqDiff, Nat.reduceMod, Nat.reduceLT, Nat.reduceLeDiff, Nat.reduceSub, Nat.reduceMul, Nat.reduceBEq, Int.reduceAdd, Int.reduceSub, Int.reduceMul, Int.reduceNeg, Int.reduceLT, Int.reduceLE, Int.reduceToNat, Int.reduceEq, Int.reduceBEq]
  obtain ⟨x6, m6, e6, g6, k6, a6⟩ := g4'.pushs g5.rd (by simp [lowB_len]; omega) K5.len
  refine someW_eq e6 ?_
  have K6 := a6 _ _ K5 (Nat.le_refl _)
  have hv6 := (k0.trans K6).row hv (by simp)
  simp -implicitDefEqProofs (disch := (first | omega | (simp only [lenB, lowB_len, macB_len, tagB_len, turnB_len] <;> omega) | fail)) only [admQ, lenB, lowB_len, macB_len, tagB_len, turnB_len, aFill, AK.cls, implies_true, ↓reduceIte, reduceCtorEq, if_true, if_false, Nat.reduceAdd, Nat.reduceEqDiff, Nat.reduceMod, Nat.reduceLT, Nat.reduceLeDiff, Nat.reduceSub, Nat.reduceMul, Nat.reduceBEq, Int.reduceAdd, Int.reduceSub, Int.reduceMul, Int.reduceNeg, Int.reduceLT, Int.reduceLE, Int.reduceToNat, Int.reduceEq, Int.reduceBEq, hv6]
  obtain ⟨x7, m7, e7, g7, k7, a7⟩ := g6.pushs (hb.kept0 (k0.trans K6)) (by simp [lowB_len]; omega) K6.len
  refine someW_eq e7 ?_
  have K7 := a7 _ _ K6 (Nat.le_refl _)
  have hv7 := (k0.trans K7).row hv (by simp)
  have hs7 := hs.kept0 (k0.trans K7)
  simp -implicitDefEqProofs (disch := (first | omega | (simp only [lenB, lowB_len, macB_len, tagB_len, turnB_len] <;> omega) | fail)) only [admQ, lenB, lowB_len, macB_len, tagB_len, turnB_len, aFill, AK.cls, implies_true, ↓reduceIte, reduceCtorEq, if_true, if_false, Nat.reduceAdd, Nat.reduceEqDiff, Nat.reduceMod, Nat.reduceLT, Nat.reduceLeDiff, Nat.reduceSub, Nat.reduceMul, Nat.reduceBEq, Int.reduceAdd, Int.reduceSub, Int.reduceMul, Int.reduceNeg, Int.reduceLT, Int.reduceLE, Int.reduceToNat, Int.reduceEq, Int.reduceBEq, hv7]
  refine (ans_rsmac hs7.kR (hav.kept0 (k0.trans K7)) g7.rd (by rw [authK_len]; omega) (by simp [lowB_len]; omega)).mono ?_
  rintro _ m8 ⟨rfl, k8⟩
  have K8 := K7.trans k8
  have o8 := K8.own o0 (by simp)
  have hml := macB_len (authK key) (lowB head.length 8 ++ head ++ lowB e 8 ++ lowB n 8 ++ b)
  simp -implicitDefEqProofs (disch := (first | omega | (simp only [lenB, lowB_len, macB_len, tagB_len, turnB_len] <;> omega) | fail)) only [admQ, lenB, lowB_len, macB_len, tagB_len, turnB_len, aFill, AK.cls, implies_true, ↓reduceIte, reduceCtorEq, if_true, if_false, Nat.reduceAdd, Nat.reduceEqDiff, Nat.reduceMod, Nat.reduceLT, Nat.reduceLeDiff, Nat.reduceSub, Nat.reduceMul, Nat.reduceBEq, Int.reduceAdd, Int.reduceSub, Int.reduceMul, Int.reduceNeg, Int.reduceLT, Int.reduceLE, Int.reduceToNat, Int.reduceEq, Int.reduceBEq, o8, own_set (own_lt o8), rowOf_own (own_set (own_lt o8) _), (k0.trans K8).row hv (by simp)]
  refine ⟨?_, (k0.trans K8).write (.inr (Nat.le_refl _)) _⟩
  rw [tagB]
  simp
theorem ans_rsseal {m : Mem} {x c : Nat} {key head b : List B8} {hx bx : AV} {e n : Int} (hs : RBox m x c key) (hh : RdB m hx head) (hb : RdB m bx b) (hl : head.length ≤ 100000 ∧ b.length ≤ 100000) :
    Ans Tryz.prog 43 [.ptr x 0, .int .i64 e, .int .i64 n, hx, bx] m fun r m' => Kept [] m m' ∧ (placedP e n → GrB m.length m' r (sealB key head e n b)) ∧ (¬ placedP e n → r = .nils) := by
  refine ans_ret mixed ok43 ?_
  obtain ⟨v, hv, hav⟩ := hs.hd
  simp -implicitDefEqProofs (disch := (first | omega | (simp only [lenB, lowB_len, macB_len, tagB_len, turnB_len] <;> omega) | fail)) only [admQ, lenB, lowB_len, macB_len, tagB_len, turnB_len, aFill, AK.cls, implies_true, ↓reduceIte, reduceCtorEq, if_true, if_false, Nat.reduceAdd, Nat.reduceEqDiff, Nat.reduceMod, Nat.reduceLT, Nat.reduceLeDiff, Nat.reduceSub, Nat.reduceMul, Nat.reduceBEq, Int.reduceAdd, Int.reduceSub, Int.reduceMul, Int.reduceNeg, Int.reduceLT, Int.reduceLE, Int.reduceToNat, Int.reduceEq, Int.reduceBEq, c43, r43]
  refine (ans_rsright e n _).mono ?_
  rintro _ M ⟨rfl, hM⟩
  subst hM
  by_cases hp : placedP e n
  · simp -implicitDefEqProofs (disch := (first | omega | (simp only [lenB, lowB_len, macB_len, tagB_len, turnB_len] <;> omega) | fail)) only [admQ, lenB, lowB_len, macB_len, tagB_len, turnB_len, aFill, AK.cls, implies_true, ↓reduceIte, reduceCtorEq, if_true, if_false, Nat.reduceAdd, Nat.reduceEqDiff, Nat.reduceMod, Nat.reduceLT, Nat.reduceLeDiff, Nat.reduceSub, Nat.reduceMul, Nat.reduceBEq, Int.reduceAdd, Int.reduceSub, Int.reduceMul, Int.reduceNeg, Int.reduceLT, Int.reduceLE, Int.reduceToNat, Int.reduceEq, Int.reduceBEq, decide_eq_true hp, Bool.not_true, hv]
    refine (ans_rctrxor hs.ci e n hb hl.2).mono ?_
    rintro y m1 ⟨k1, g1⟩
    change GrB M.length m1 y (turnB key e n b) at g1
    have htl := turnB_len key e n b
    simp -implicitDefEqProofs (disch := (first | omega | (simp only [lenB, lowB_len, macB_len, tagB_len, turnB_len] <;> omega) | fail)) only [admQ, lenB, lowB_len, macB_len, tagB_len, turnB_len, aFill, AK.cls, implies_true, ↓reduceIte, reduceCtorEq, if_true, if_false, Nat.reduceAdd, Nat.reduceEqDiff, Nat.reduceMod, Nat.reduceLT, Nat.reduceLeDiff, Nat.reduceSub, Nat.reduceMul, Nat.reduceBEq, Int.reduceAdd, Int.reduceSub, Int.reduceMul, Int.reduceNeg, Int.reduceLT, Int.reduceLE, Int.reduceToNat, Int.reduceEq, Int.reduceBEq]
    refine (ans_rstag (hs.kept0 k1) (hh.kept0 k1) g1.rd hp ⟨by omega, by omega⟩).mono ?_
    rintro _ m2 ⟨rfl, k2⟩
    have hgl := tagB_len key head e n (turnB key e n b)
    simp -implicitDefEqProofs (disch := (first | omega | (simp only [lenB, lowB_len, macB_len, tagB_len, turnB_len] <;> omega) | fail)) only [admQ, lenB, lowB_len, macB_len, tagB_len, turnB_len, aFill, AK.cls, implies_true, ↓reduceIte, reduceCtorEq, if_true, if_false, Nat.reduceAdd, Nat.reduceEqDiff, Nat.reduceMod, Nat.reduceLT, Nat.reduceLeDiff, Nat.reduceSub, Nat.reduceMul, Nat.reduceBEq, Int.reduceAdd, Int.reduceSub, Int.reduceMul, Int.reduceNeg, Int.reduceLT, Int.reduceLE, Int.reduceToNat, Int.reduceEq, Int.reduceBEq]
    have kW := (k1.trans k2).more_app [Blk.row (bys (tagB key head e n (turnB key e n b))) false, Blk.row [] false]
    have gW := (g1.rd.kept0 k2).app [Blk.row (bys (tagB key head e n (turnB key e n b))) false, Blk.row [] false]
    have hW : (m2 ++ [Blk.row (bys (tagB key head e n (turnB key e n b))) false, Blk.row [] false])[m2.length + 1]? = some (.row [] false) := by simp
    have oT : own (m2 ++ [Blk.row (bys (tagB key head e n (turnB key e n b))) false, Blk.row [] false]) m2.length = some (bys (tagB key head e n (turnB key e n b))) := by rw [own_app_at0]; rfl
    have hseal : sealB key head e n b = turnB key e n b ++ tagB key head e n (turnB key e n b) := rfl
    rw [hseal]
    generalize turnB key e n b = TU at *
    generalize tagB key head e n TU = TG at *
    have gz : GrB (m2 ++ [Blk.row (bys TG) false, Blk.row [] false]).length (m2 ++ [Blk.row (bys TG) false, Blk.row [] false]) (.sl (m2.length + 1) 0 0 0 0) [] := .zero (by rw [own_app_at]; rfl)
    generalize m2 ++ [Blk.row (bys TG) false, Blk.row [] false] = W at *
    obtain ⟨x4, m4, e4, g4, k4, a4⟩ := gz.pushs gW (by simp only [List.length_nil]; omega) (Nat.le_refl _)
    refine someW_eq e4 ?_
    have K4 := a4 _ _ (.refl [] _) (Nat.le_refl _)
    rw [List.nil_append] at g4
    have hE : m4[m2.length + 1]? = some (.row [] false) := by rw [K4.eq _ (List.getElem?_eq_some_iff.mp hW).1 (by simp)]; exact hW
    have oT4 := K4.own oT (by simp)
    have rT := RdB.row (m := m4) (l := TG) 32 0 (rowOf_own oT4) (by omega)
    rw [hgl] at rT
    simp -implicitDefEqProofs (disch := (first | omega | (simp only [lenB, lowB_len, macB_len, tagB_len, turnB_len] <;> omega) | fail)) only [admQ, lenB, lowB_len, macB_len, tagB_len, turnB_len, aFill, AK.cls, implies_true, ↓reduceIte, reduceCtorEq, if_true, if_false, Nat.reduceAdd, Nat.reduceEqDiff, Nat.reduceMod, Nat.reduceLT, Nat.reduceLeDiff, Nat.reduceSub, Nat.reduceMul, Nat.reduceBEq, Int.reduceAdd, Int.reduceSub, Int.reduceMul, Int.reduceNeg, Int.reduceLT, Int.reduceLE, Int.reduceToNat, Int.reduceEq, Int.reduceBEq, hE, oT4, rowOf_own oT4]
    obtain ⟨x5, m5, e5, g5, k5, a5⟩ := g4.pushs rT (by omega) K4.len
    refine someW_eq e5 ?_
    have K5 := a5 _ _ K4 (Nat.le_refl _)
    have hE5 : m5[m2.length + 1]? = some (.row [] false) := by rw [K5.eq _ (List.getElem?_eq_some_iff.mp hW).1 (by simp)]; exact hW
    simp -implicitDefEqProofs (disch := (first | omega | (simp only [lenB, lowB_len, macB_len, tagB_len, turnB_len] <;> omega) | fail)) only [admQ, lenB, lowB_len, macB_len, tagB_len, turnB_len, aFill, AK.cls, implies_true, ↓reduceIte, reduceCtorEq, if_true, if_false, Nat.reduceAdd, Nat.reduceEqDiff, Nat.reduceMod, Nat.reduceLT, Nat.reduceLeDiff, Nat.reduceSub, Nat.reduceMul, Nat.reduceBEq, Int.reduceAdd, Int.reduceSub, Int.reduceMul, Int.reduceNeg, Int.reduceLT, Int.reduceLE, Int.reduceToNat, Int.reduceEq, Int.reduceBEq, hE5]
    exact ⟨kW.trans K5, fun _ => g5.low kW.len, fun h => absurd hp h⟩
  · simp -implicitDefEqProofs (disch := (first | omega | (simp only [lenB, lowB_len, macB_len, tagB_len, turnB_len] <;> omega) | fail)) only [admQ, lenB, lowB_len, macB_len, tagB_len, turnB_len, aFill, AK.cls, implies_true, ↓reduceIte, reduceCtorEq, if_true, if_false, Nat.reduceAdd, Nat.reduceEqDiff, Nat.reduceMod, Nat.reduceLT, Nat.reduceLeDiff, Nat.reduceSub, Nat.reduceMul, Nat.reduceBEq, Int.reduceAdd, Int.reduceSub, Int.reduceMul, Int.reduceNeg, Int.reduceLT, Int.reduceLE, Int.reduceToNat, Int.reduceEq, Int.reduceBEq, decide_eq_false hp, Bool.not_false]
    exact ⟨.refl _ _, fun h => absurd h hp⟩
theorem ans_rsopen {m : Mem} {x c : Nat} {key head b : List B8} {hx bx : AV} {e n : Int} (hs : RBox m x c key) (hh : RdB m hx head) (hb : RdB m bx b) (hl : head.length ≤ 100000 ∧ b.length ≤ 100000) :
    Ans Tryz.prog 48 [.ptr x 0, .int .i64 e, .int .i64 n, hx, bx] m fun r m' => Kept [] m m' ∧ (openP key head e n b → ∃ v, r = .tup [v, .bool true] ∧ GrB m.length m' v (turnB key e n (b.take (b.length - 32)))) ∧ (¬ openP key head e n b → r = .tup [.nils, .bool false]) := by
  refine ans_ret mixed ok48 ?_
  obtain ⟨v, hv, hav⟩ := hs.hd
  simp -implicitDefEqProofs (disch := (first | omega | (simp only [lenB, lowB_len, macB_len, tagB_len, turnB_len] <;> omega) | fail)) only [admQ, lenB, lowB_len, macB_len, tagB_len, turnB_len, aFill, AK.cls, implies_true, ↓reduceIte, reduceCtorEq, if_true, if_false, Nat.reduceAdd, Nat.reduceEqDiff, Nat.reduceMod, Nat.reduceLT, Nat.reduceLeDiff, Nat.reduceSub, Nat.reduceMul, Nat.reduceBEq, Int.reduceAdd, Int.reduceSub, Int.reduceMul, Int.reduceNeg, Int.reduceLT, Int.reduceLE, Int.reduceToNat, Int.reduceEq, Int.reduceBEq, c48, r48, hb.len]
  refine (ans_rsright e n _).mono ?_
  rintro _ M ⟨rfl, hM⟩
  subst hM
  by_cases hp : placedP e n
  · by_cases h32 : b.length < 32
    · have hno : ¬ openP key head e n b := fun h => by have := h.2.1; omega
      simp -implicitDefEqProofs (disch := (first | omega | (simp only [lenB, lowB_len, macB_len, tagB_len, turnB_len] <;> omega) | fail)) only [admQ, lenB, lowB_len, macB_len, tagB_len, turnB_len, aFill, AK.cls, implies_true, ↓reduceIte, reduceCtorEq, if_true, if_false, Nat.reduceAdd, Nat.reduceEqDiff, Nat.reduceMod, Nat.reduceLT, Nat.reduceLeDiff, Nat.reduceSub, Nat.reduceMul, Nat.reduceBEq, Int.reduceAdd, Int.reduceSub, Int.reduceMul, Int.reduceNeg, Int.reduceLT, Int.reduceLE, Int.reduceToNat, Int.reduceEq, Int.reduceBEq, decide_eq_true hp, Bool.not_true, dec_t (show (b.length : Int) - 32 < 0 by omega)]
      exact ⟨.refl _ _, fun h => absurd h hno⟩
    · rw [show (b.length : Int) - 32 = ((b.length - 32 : Nat) : Int) by omega]
      obtain ⟨q, o, cap, sl, cc, rfl, hrow, hat, hlen, hcap, hsl, htk⟩ := hb.cons (i := 0) (by omega)
      have hrr := hb.drop (k := b.length - 32) (by omega)
      simp -implicitDefEqProofs (disch := (first | omega | (simp only [lenB, lowB_len, macB_len, tagB_len, turnB_len] <;> omega) | fail)) only [admQ, lenB, lowB_len, macB_len, tagB_len, turnB_len, aFill, AK.cls, implies_true, ↓reduceIte, reduceCtorEq, if_true, if_false, Nat.reduceAdd, Nat.reduceEqDiff, Nat.reduceMod, Nat.reduceLT, Nat.reduceLeDiff, Nat.reduceSub, Nat.reduceMul, Nat.reduceBEq, Int.reduceAdd, Int.reduceSub, Int.reduceMul, Int.reduceNeg, Int.reduceLT, Int.reduceLE, Int.reduceToNat, Int.reduceEq, Int.reduceBEq, decide_eq_true hp, Bool.not_true, dec_f (show ¬ ((b.length - 32 : Nat) : Int) < 0 by omega)]
      refine (ans_rstag hs hh (hb.take (k := b.length - 32) (by omega)) hp ⟨by omega, by simp; omega⟩).mono ?_
      rintro _ m1 ⟨rfl, k1⟩
      have hgl := tagB_len key head e n (b.take (b.length - 32))
      simp -implicitDefEqProofs (disch := (first | omega | (simp only [lenB, lowB_len, macB_len, tagB_len, turnB_len] <;> omega) | fail)) only [admQ, lenB, lowB_len, macB_len, tagB_len, turnB_len, aFill, AK.cls, implies_true, ↓reduceIte, reduceCtorEq, if_true, if_false, Nat.reduceAdd, Nat.reduceEqDiff, Nat.reduceMod, Nat.reduceLT, Nat.reduceLeDiff, Nat.reduceSub, Nat.reduceMul, Nat.reduceBEq, Int.reduceAdd, Int.reduceSub, Int.reduceMul, Int.reduceNeg, Int.reduceLT, Int.reduceLE, Int.reduceToNat, Int.reduceEq, Int.reduceBEq]
      have kA := k1.more_app [Blk.row (bys (tagB key head e n (b.take (b.length - 32)))) false]
      have rT : RdB (m1 ++ [Blk.row (bys (tagB key head e n (b.take (b.length - 32)))) false]) (.sl m1.length 0 32 32 0) (tagB key head e n (b.take (b.length - 32))) := by
        have := RdB.row (m := m1 ++ [Blk.row (bys (tagB key head e n (b.take (b.length - 32)))) false]) (b := m1.length) (l := tagB key head e n (b.take (b.length - 32))) 32 0 (by rw [rowOf_app_at0]; rfl) (by omega)
        rwa [hgl] at this
      generalize hTG : tagB key head e n (b.take (b.length - 32)) = TG at *
      generalize m1 ++ [Blk.row (bys TG) false] = A at kA rT
      refine (ans_samebytes rT (hrr.kept0 kA) (by omega)).mono ?_
      rintro _ MM ⟨rfl, hM⟩
      subst hM
      by_cases hok : TG = b.drop (b.length - 32)
      · have hyes : openP key head e n b := ⟨hp, by omega, by rw [hTG]; exact hok⟩
        have hvA := kA.row hv (by simp)
        simp -implicitDefEqProofs (disch := (first | omega | (simp only [lenB, lowB_len, macB_len, tagB_len, turnB_len] <;> omega) | fail)) only [admQ, lenB, lowB_len, macB_len, tagB_len, turnB_len, aFill, AK.cls, implies_true, ↓reduceIte, reduceCtorEq, if_true, if_false, Nat.reduceAdd, Nat.reduceEqDiff, Nat.reduceMod, Nat.reduceLT, Nat.reduceLeDiff, Nat.reduceSub, Nat.reduceMul, Nat.reduceBEq, Int.reduceAdd, Int.reduceSub, Int.reduceMul, Int.reduceNeg, Int.reduceLT, Int.reduceLE, Int.reduceToNat, Int.reduceEq, Int.reduceBEq, beq_iff_eq.mpr hok, Bool.not_true, hvA]
        refine (ans_rctrxor (hs.kept0 kA).ci e n ((hb.kept0 kA).take (k := b.length - 32) (by omega)) (by simp; omega)).mono ?_
        rintro y m3 ⟨k3, g3⟩
        simp -implicitDefEqProofs (disch := (first | omega | (simp only [lenB, lowB_len, macB_len, tagB_len, turnB_len] <;> omega) | fail)) only [admQ, lenB, lowB_len, macB_len, tagB_len, turnB_len, aFill, AK.cls, implies_true, ↓reduceIte, reduceCtorEq, if_true, if_false, Nat.reduceAdd, Nat.reduceEqDiff, Nat.reduceMod, Nat.reduceLT, Nat.reduceLeDiff, Nat.reduceSub, Nat.reduceMul, Nat.reduceBEq, Int.reduceAdd, Int.reduceSub, Int.reduceMul, Int.reduceNeg, Int.reduceLT, Int.reduceLE, Int.reduceToNat, Int.reduceEq, Int.reduceBEq, k3.row hvA (by simp)]
        exact ⟨kA.trans k3, fun _ => ⟨y, rfl, g3.low kA.len⟩, fun h => absurd hyes h⟩
      · have hno : ¬ openP key head e n b := fun h => hok (by rw [← hTG]; exact h.2.2)
        simp -implicitDefEqProofs (disch := (first | omega | (simp only [lenB, lowB_len, macB_len, tagB_len, turnB_len] <;> omega) | fail)) only [admQ, lenB, lowB_len, macB_len, tagB_len, turnB_len, aFill, AK.cls, implies_true, ↓reduceIte, reduceCtorEq, if_true, if_false, Nat.reduceAdd, Nat.reduceEqDiff, Nat.reduceMod, Nat.reduceLT, Nat.reduceLeDiff, Nat.reduceSub, Nat.reduceMul, Nat.reduceBEq, Int.reduceAdd, Int.reduceSub, Int.reduceMul, Int.reduceNeg, Int.reduceLT, Int.reduceLE, Int.reduceToNat, Int.reduceEq, Int.reduceBEq, beq_eq_false_iff_ne.mpr hok, Bool.not_false]
        exact ⟨kA, fun h => absurd h hno⟩
  · have hno : ¬ openP key head e n b := fun h => hp h.1
    simp -implicitDefEqProofs (disch := (first | omega | (simp only [lenB, lowB_len, macB_len, tagB_len, turnB_len] <;> omega) | fail)) only [admQ, lenB, lowB_len, macB_len, tagB_len, turnB_len, aFill, AK.cls, implies_true, ↓reduceIte, reduceCtorEq, if_true, if_false, Nat.reduceAdd, Nat.reduceEqDiff, Nat.reduceMod, Nat.reduceLT, Nat.reduceLeDiff, Nat.reduceSub, Nat.reduceMul, Nat.reduceBEq, Int.reduceAdd, Int.reduceSub, Int.reduceMul, Int.reduceNeg, Int.reduceLT, Int.reduceLE, Int.reduceToNat, Int.reduceEq, Int.reduceBEq, decide_eq_false hp, Bool.not_false]
    exact ⟨.refl _ _, fun h => absurd h hno⟩
end Go.Proofs.YtmnlmjlmbceimaaGreatDoor
end
section
/- Names: numbers as bytes; the library's lists of bytes. -/
namespace Go.Proofs.YtmnlmjlmbceimaaGreatDoor
open Go Go.Adm
set_option linter.unusedSimpArgs false
set_option linter.unusedVariables false
set_option maxRecDepth 100000
theorem nw64 {k : Nat} (h : k < 18446744073709551616) : IntKind.u64.wrap (k : Int) = k := by
  rw [wr_u64, BitVec.ofInt_natCast, BitVec.toNat_ofNat, Nat.mod_eq_of_lt h]
/-- A number's eight bytes. -/
def numB (v : Nat) : List B8 := lowB v 8
theorem numB_len (v : Nat) : (numB v).length = 8 := lowB_len _ _
theorem ans_nnumber (v : Nat) (hv : v < 4611686018427387904) (m : Mem) : Ans Tryz.prog 120 [.int .i64 v] m fun r m' => ∃ p, r = .sl p 0 8 8 0 ∧ Kept [] m m' ∧ m.length ≤ p ∧ own m' p = some (bys (numB v)) := by
  refine ans_ret mixed ok120 ?_
  simp -implicitDefEqProofs (disch := (first | omega | (simp only [lenB, lowB_len, numB_len] <;> omega) | fail)) only [admQ, lenB, lowB_len, numB_len, aFill, AK.cls, implies_true, ↓reduceIte, reduceCtorEq, if_true, if_false, Nat.reduceAdd, Nat.reduceEqDiff, Nat.reduceMod, Nat.reduceLT, Nat.reduceLeDiff, Nat.reduceSub, Nat.reduceMul, Nat.reduceBEq, Int.reduceAdd, Int.reduceSub, Int.reduceMul, Int.reduceNeg, Int.reduceLT, Int.reduceLE, Int.reduceToNat, Int.reduceEq, Int.reduceBEq, c120, r120]
  have hr : rep 8 [AV.int .u8 0] = bys (upTo 8 (fun i => byV v (7 - i)) (fun _ => 0#8) 0) := by rw [upTo_zero, tab_const]; rfl
  simp -implicitDefEqProofs (disch := (first | omega | (simp only [lenB, lowB_len, numB_len] <;> omega) | fail)) only [admQ, lenB, lowB_len, numB_len, aFill, AK.cls, implies_true, ↓reduceIte, reduceCtorEq, if_true, if_false, Nat.reduceAdd, Nat.reduceEqDiff, Nat.reduceMod, Nat.reduceLT, Nat.reduceLeDiff, Nat.reduceSub, Nat.reduceMul, Nat.reduceBEq, Int.reduceAdd, Int.reduceSub, Int.reduceMul, Int.reduceNeg, Int.reduceLT, Int.reduceLE, Int.reduceToNat, Int.reduceEq, Int.reduceBEq, hr]
  refine LoopW.on (fun i : Nat => [(0, .int .i64 v), (3, .sl m.length 0 8 8 0), (7, .int .i64 8), (8, .int .i64 i)]) (fun i => 8 - i)
    (fun i M => i ≤ 8 ∧ M = m ++ [.row (bys (upTo 8 (fun i => byV v (7 - i)) (fun _ => 0#8) i)) false]) ?_ 0 _ _ rfl ⟨by omega, rfl⟩
  rintro i M X ⟨hi, rfl⟩ hX
  by_cases hlt : i < 8
  · have hw : IntKind.u8.wrap ((v >>> (8 * (7 - i)) : Nat) : Int) = ((byV v (7 - i)).toNat : Int) := wrap_u8 _
    have hu := upTo_set (n := 8) (i := i) (f := fun i => byV v (7 - i)) (g := fun _ => 0#8)
    simp -implicitDefEqProofs (disch := (first | omega | (simp only [lenB, lowB_len, numB_len] <;> omega) | fail)) only [admQ, lenB, lowB_len, numB_len, aFill, AK.cls, implies_true, ↓reduceIte, reduceCtorEq, if_true, if_false, Nat.reduceAdd, Nat.reduceEqDiff, Nat.reduceMod, Nat.reduceLT, Nat.reduceLeDiff, Nat.reduceSub, Nat.reduceMul, Nat.reduceBEq, Int.reduceAdd, Int.reduceSub, Int.reduceMul, Int.reduceNeg, Int.reduceLT, Int.reduceLE, Int.reduceToNat, Int.reduceEq, Int.reduceBEq, fdiv_nat, hw, @nw64, splice_byte, hu]
    exact hX (i + 1) _ _ rfl (by omega) ⟨by omega, rfl⟩
  · obtain rfl : i = 8 := by omega
    rw [upTo_all]
    simp -implicitDefEqProofs (disch := (first | omega | (simp only [lenB, lowB_len, numB_len] <;> omega) | fail)) only [admQ, lenB, lowB_len, numB_len, aFill, AK.cls, implies_true, ↓reduceIte, reduceCtorEq, if_true, if_false, Nat.reduceAdd, Nat.reduceEqDiff, Nat.reduceMod, Nat.reduceLT, Nat.reduceLeDiff, Nat.reduceSub, Nat.reduceMul, Nat.reduceBEq, Int.reduceAdd, Int.reduceSub, Int.reduceMul, Int.reduceNeg, Int.reduceLT, Int.reduceLE, Int.reduceToNat, Int.reduceEq, Int.reduceBEq]
    exact ⟨_, rfl, .app _ _ _, Nat.le_refl _, by rw [own_app_at0]; rfl⟩
/-- May an epoch or a number be? -/
def within (e : Int) : Prop := 0 ≤ e ∧ e ≤ 1099511627776
instance (e : Int) : Decidable (within e) := by unfold within; infer_instance
theorem ans_nwithin (e : Int) (m : Mem) : Ans Tryz.prog 122 [.int .i64 e] m fun r m' => r = .bool (decide (within e)) ∧ m' = m := by
  refine ans_ret mixed ok122 ?_
  by_cases h1 : e ≥ 0
  · by_cases h2 : e ≤ 1099511627776
    · simp -implicitDefEqProofs (disch := (first | omega | (simp only [lenB, lowB_len, numB_len] <;> omega) | fail)) only [admQ, lenB, lowB_len, numB_len, aFill, AK.cls, implies_true, ↓reduceIte, reduceCtorEq, if_true, if_false, Nat.reduceAdd, Nat.reduceEqDiff, Nat.reduceMod, Nat.reduceLT, Nat.reduceLeDiff, Nat.reduceSub, Nat.reduceMul, Nat.reduceBEq, Int.reduceAdd, Int.reduceSub, Int.reduceMul, Int.reduceNeg, Int.reduceLT, Int.reduceLE, Int.reduceToNat, Int.reduceEq, Int.reduceBEq, c122, r122, dec_t h1, dec_t h2, dec_t (show within e from ⟨h1, h2⟩)]
    · simp -implicitDefEqProofs (disch := (first | omega | (simp only [lenB, lowB_len, numB_len] <;> omega) | fail)) only [admQ, lenB, lowB_len, numB_len, aFill, AK.cls, implies_true, ↓reduceIte, reduceCtorEq, if_true, if_false, Nat.reduceAdd, Nat.reduceEqDiff, Nat.reduceMod, Nat.reduceLT, Nat.reduceLeDiff, Nat.reduceSub, Nat.reduceMul, Nat.reduceBEq, Int.reduceAdd, Int.reduceSub, Int.reduceMul, Int.reduceNeg, Int.reduceLT, Int.reduceLE, Int.reduceToNat, Int.reduceEq, Int.reduceBEq, c122, r122, dec_t h1, dec_f h2, dec_f (show ¬ within e from fun h => h2 h.2)]
  · simp -implicitDefEqProofs (disch := (first | omega | (simp only [lenB, lowB_len, numB_len] <;> omega) | fail)) only [admQ, lenB, lowB_len, numB_len, aFill, AK.cls, implies_true, ↓reduceIte, reduceCtorEq, if_true, if_false, Nat.reduceAdd, Nat.reduceEqDiff, Nat.reduceMod, Nat.reduceLT, Nat.reduceLeDiff, Nat.reduceSub, Nat.reduceMul, Nat.reduceBEq, Int.reduceAdd, Int.reduceSub, Int.reduceMul, Int.reduceNeg, Int.reduceLT, Int.reduceLE, Int.reduceToNat, Int.reduceEq, Int.reduceBEq, c122, r122, dec_f h1, dec_f (show ¬ within e from fun h => h1 h.1)]
theorem ans_slgrow (n : Nat) (hn : n ≤ 1000000000) (m : Mem) : Ans Tryz.prog 123 [.nils, .int .i64 n] m fun r m' => Kept [] m m' ∧ Room m.length m' r [] n := by
  refine ans_ret mixed ok123 ?_
  by_cases h0 : n = 0
  · subst h0
    simp -implicitDefEqProofs (disch := (first | omega | (simp only [lenB, lowB_len, numB_len] <;> omega) | fail)) only [admQ, lenB, lowB_len, numB_len, aFill, AK.cls, implies_true, ↓reduceIte, reduceCtorEq, if_true, if_false, Nat.reduceAdd, Nat.reduceEqDiff, Nat.reduceMod, Nat.reduceLT, Nat.reduceLeDiff, Nat.reduceSub, Nat.reduceMul, Nat.reduceBEq, Int.reduceAdd, Int.reduceSub, Int.reduceMul, Int.reduceNeg, Int.reduceLT, Int.reduceLE, Int.reduceToNat, Int.reduceEq, Int.reduceBEq, c123, r123, mapR, pCap]
    exact ⟨.refl _ _, .inl ⟨rfl, rfl, rfl⟩⟩
  · simp -implicitDefEqProofs (disch := (first | omega | (simp only [lenB, lowB_len, numB_len] <;> omega) | fail)) only [admQ, lenB, lowB_len, numB_len, aFill, AK.cls, implies_true, ↓reduceIte, reduceCtorEq, if_true, if_false, Nat.reduceAdd, Nat.reduceEqDiff, Nat.reduceMod, Nat.reduceLT, Nat.reduceLeDiff, Nat.reduceSub, Nat.reduceMul, Nat.reduceBEq, Int.reduceAdd, Int.reduceSub, Int.reduceMul, Int.reduceNeg, Int.reduceLT, Int.reduceLE, Int.reduceToNat, Int.reduceEq, Int.reduceBEq, c123, r123, mapR, pCap, aAppendZ]
    refine ⟨.app _ _ _, .inr ⟨by omega, m.length, rfl, ?_, Nat.le_refl _, by simp⟩⟩
    rw [own_app_at0]
    have hr : rep n [AV.int .u8 0] = bys (List.replicate n 0#8) := by rw [← bys_rep]; simp [rep]
    simp [own_c0, hr]
theorem ans_slconcat {m : Mem} {p k : Nat} {xs : List AV} {ls : List (List B8)} (hp : rowOf m p = some xs) (hr : RdL m xs ls) (hk : ls.length = k) (hb : k ≤ 1000 ∧ ls.flatten.length ≤ 900000000) :
    Ans Tryz.prog 119 [.sl p 0 k k 0] m fun r m' => Kept [] m m' ∧ GrB m.length m' r ls.flatten := by
  refine ans_ret mixed ok119 ?_
  simp -implicitDefEqProofs (disch := (first | omega | (simp only [lenB, lowB_len, numB_len] <;> omega) | fail)) only [admQ, lenB, lowB_len, numB_len, aFill, AK.cls, implies_true, ↓reduceIte, reduceCtorEq, if_true, if_false, Nat.reduceAdd, Nat.reduceEqDiff, Nat.reduceMod, Nat.reduceLT, Nat.reduceLeDiff, Nat.reduceSub, Nat.reduceMul, Nat.reduceBEq, Int.reduceAdd, Int.reduceSub, Int.reduceMul, Int.reduceNeg, Int.reduceLT, Int.reduceLE, Int.reduceToNat, Int.reduceEq, Int.reduceBEq, c119, r119]
  refine LoopW.on (fun i : Nat => [(0, .sl p 0 k k 0), (3, .int .i64 ((ls.take i).flatten.length : Nat)), (9, .sl p 0 k k 0), (10, .int .i64 k), (11, .int .i64 i)]) (fun i => k - i) (fun i M => i ≤ k ∧ M = m) ?_ 0 _ _ rfl ⟨by omega, rfl⟩
  rintro i M X ⟨hi, rfl⟩ hX
  by_cases hlt : i < k
  · obtain ⟨l, hl⟩ : ∃ l, ls[i]? = some l := ⟨_, List.getElem?_eq_getElem (by omega)⟩
    obtain ⟨y, hy, hyr⟩ := hr.2 i l hl
    have hcat := flat_take hl
    have h1 := flat_len (ls := ls) (i + 1)
    rw [hcat, List.length_append] at h1
    simp -implicitDefEqProofs (disch := (first | omega | (simp only [lenB, lowB_len, numB_len] <;> omega) | fail)) only [admQ, lenB, lowB_len, numB_len, aFill, AK.cls, implies_true, ↓reduceIte, reduceCtorEq, if_true, if_false, Nat.reduceAdd, Nat.reduceEqDiff, Nat.reduceMod, Nat.reduceLT, Nat.reduceLeDiff, Nat.reduceSub, Nat.reduceMul, Nat.reduceBEq, Int.reduceAdd, Int.reduceSub, Int.reduceMul, Int.reduceNeg, Int.reduceLT, Int.reduceLE, Int.reduceToNat, Int.reduceEq, Int.reduceBEq, hp, hy, hyr.len]
    refine hX (i + 1) _ _ ?_ (by omega) ⟨by omega, rfl⟩
    rw [hcat, List.length_append]
    rfl
  · obtain rfl : i = k := by omega
    rw [List.take_of_length_le (by omega)]
    simp -implicitDefEqProofs (disch := (first | omega | (simp only [lenB, lowB_len, numB_len] <;> omega) | fail)) only [admQ, lenB, lowB_len, numB_len, aFill, AK.cls, implies_true, ↓reduceIte, reduceCtorEq, if_true, if_false, Nat.reduceAdd, Nat.reduceEqDiff, Nat.reduceMod, Nat.reduceLT, Nat.reduceLeDiff, Nat.reduceSub, Nat.reduceMul, Nat.reduceBEq, Int.reduceAdd, Int.reduceSub, Int.reduceMul, Int.reduceNeg, Int.reduceLT, Int.reduceLE, Int.reduceToNat, Int.reduceEq, Int.reduceBEq]
    clear hX X
    refine (ans_slgrow _ (by omega) _).mono ?_
    rintro z m1 ⟨k1, g1⟩
    simp -implicitDefEqProofs (disch := (first | omega | (simp only [lenB, lowB_len, numB_len] <;> omega) | fail)) only [admQ, lenB, lowB_len, numB_len, aFill, AK.cls, implies_true, ↓reduceIte, reduceCtorEq, if_true, if_false, Nat.reduceAdd, Nat.reduceEqDiff, Nat.reduceMod, Nat.reduceLT, Nat.reduceLeDiff, Nat.reduceSub, Nat.reduceMul, Nat.reduceBEq, Int.reduceAdd, Int.reduceSub, Int.reduceMul, Int.reduceNeg, Int.reduceLT, Int.reduceLE, Int.reduceToNat, Int.reduceEq, Int.reduceBEq]
    refine LoopW.on (fun t : Nat × AV => [(6, t.2), (25, .sl p 0 i i 0), (26, .int .i64 i), (27, .int .i64 t.1)]) (fun t => i - t.1) (fun t N => t.1 ≤ i ∧ Kept [] M N ∧ Room M.length N t.2 (ls.take t.1).flatten ls.flatten.length) ?_ (0, z) _ _ rfl ⟨by simp, k1, g1⟩
    clear k1 g1 hlt hi
    rintro ⟨j, v⟩ N X ⟨hj, kk, g⟩ hX
    change Room M.length N v (ls.take j).flatten _ at g
    simp only at hj
    by_cases hlt : j < i
    · obtain ⟨l, hl⟩ : ∃ l, ls[j]? = some l := ⟨_, List.getElem?_eq_getElem (by omega)⟩
      obtain ⟨y, hy, hyr⟩ := hr.2 j l hl
      have hrow := kk.row hp (by simp)
      have hcat := flat_take hl
      have h1 := flat_len (ls := ls) (j + 1)
      rw [hcat, List.length_append] at h1
      simp -implicitDefEqProofs (disch := (first | omega | (simp only [lenB, lowB_len, numB_len] <;> omega) | fail)) only [admQ, lenB, lowB_len, numB_len, aFill, AK.cls, implies_true, ↓reduceIte, reduceCtorEq, if_true, if_false, Nat.reduceAdd, Nat.reduceEqDiff, Nat.reduceMod, Nat.reduceLT, Nat.reduceLeDiff, Nat.reduceSub, Nat.reduceMul, Nat.reduceBEq, Int.reduceAdd, Int.reduceSub, Int.reduceMul, Int.reduceNeg, Int.reduceLT, Int.reduceLE, Int.reduceToNat, Int.reduceEq, Int.reduceBEq, hrow, hy]
      obtain ⟨x3, m3, e3, g3, k3⟩ := g.push (hyr.kept0 kk) h1
      refine someW_eq e3 ?_
      simp -implicitDefEqProofs (disch := (first | omega | (simp only [lenB, lowB_len, numB_len] <;> omega) | fail)) only [admQ, lenB, lowB_len, numB_len, aFill, AK.cls, implies_true, ↓reduceIte, reduceCtorEq, if_true, if_false, Nat.reduceAdd, Nat.reduceEqDiff, Nat.reduceMod, Nat.reduceLT, Nat.reduceLeDiff, Nat.reduceSub, Nat.reduceMul, Nat.reduceBEq, Int.reduceAdd, Int.reduceSub, Int.reduceMul, Int.reduceNeg, Int.reduceLT, Int.reduceLE, Int.reduceToNat, Int.reduceEq, Int.reduceBEq]
      refine hX (j + 1, x3) _ _ rfl (by simp only; omega) ⟨by simp only; omega, kk.upon k3 g.low, ?_⟩
      show Room M.length m3 x3 (ls.take (j + 1)).flatten _
      rw [hcat]; exact g3
    · obtain rfl : j = i := by omega
      rw [List.take_of_length_le (by omega)] at g
      simp -implicitDefEqProofs (disch := (first | omega | (simp only [lenB, lowB_len, numB_len] <;> omega) | fail)) only [admQ, lenB, lowB_len, numB_len, aFill, AK.cls, implies_true, ↓reduceIte, reduceCtorEq, if_true, if_false, Nat.reduceAdd, Nat.reduceEqDiff, Nat.reduceMod, Nat.reduceLT, Nat.reduceLeDiff, Nat.reduceSub, Nat.reduceMul, Nat.reduceBEq, Int.reduceAdd, Int.reduceSub, Int.reduceMul, Int.reduceNeg, Int.reduceLT, Int.reduceLE, Int.reduceToNat, Int.reduceEq, Int.reduceBEq]
      exact ⟨kk, g.all rfl⟩
theorem ans_slequal {m : Mem} {x y : AV} {a b : List B8} (hx : RdB m x a) (hy : RdB m y b) (hl : a.length < 1152921504606846976) : Ans Tryz.prog 118 [x, y] m fun r m' => r = .bool (a == b) ∧ m' = m := by
  refine ans_ret mixed ok118 ?_
  by_cases h : a.length = b.length
  · have h' : ((a.length : Int) == (b.length : Int)) = true := by rw [h]; simp
    simp -implicitDefEqProofs (disch := (first | omega | (simp only [lenB, lowB_len, numB_len] <;> omega) | fail)) only [admQ, lenB, lowB_len, numB_len, aFill, AK.cls, implies_true, ↓reduceIte, reduceCtorEq, if_true, if_false, Nat.reduceAdd, Nat.reduceEqDiff, Nat.reduceMod, Nat.reduceLT, Nat.reduceLeDiff, Nat.reduceSub, Nat.reduceMul, Nat.reduceBEq, Int.reduceAdd, Int.reduceSub, Int.reduceMul, Int.reduceNeg, Int.reduceLT, Int.reduceLE, Int.reduceToNat, Int.reduceEq, Int.reduceBEq, c118, r118, hx.len, hy.len, h', Bool.not_true]
    refine LoopW.on (fun i : Nat => [(0, x), (1, y), (12, .int .i64 a.length), (13, .int .i64 i)]) (fun i => a.length - i) (fun i m' => m' = m ∧ i ≤ a.length ∧ ∀ j, j < i → gb a j = gb b j) ?_ 0 _ _ rfl ⟨rfl, by omega, fun j hj => by omega⟩
    rintro i _ X ⟨rfl, hi, hj⟩ hX
    by_cases hlt : i < a.length
    · obtain ⟨b1, o1, cap1, s1, c1, rfl, hr1, hg1, hl1, hc1, hs1, ht1⟩ := hx.cons hlt
      obtain ⟨b2, o2, cap2, s2, c2, rfl, hr2, hg2, hl2, hc2, hs2, ht2⟩ := hy.cons (by omega : i < b.length)
      have e1 := hg1 i hlt
      have e2 := hg2 i (by omega)
      cases he : gb a i == gb b i
      · have hne : (a == b) = false := by
          rw [beq_eq_false_iff_ne]; rintro rfl; simp at he
        simp -implicitDefEqProofs (disch := (first | omega | (simp only [lenB, lowB_len, numB_len] <;> omega) | fail)) only [admQ, lenB, lowB_len, numB_len, aFill, AK.cls, implies_true, ↓reduceIte, reduceCtorEq, if_true, if_false, Nat.reduceAdd, Nat.reduceEqDiff, Nat.reduceMod, Nat.reduceLT, Nat.reduceLeDiff, Nat.reduceSub, Nat.reduceMul, Nat.reduceBEq, Int.reduceAdd, Int.reduceSub, Int.reduceMul, Int.reduceNeg, Int.reduceLT, Int.reduceLE, Int.reduceToNat, Int.reduceEq, Int.reduceBEq, hr1, hr2, e1, e2, he, hne, Bool.not_false]
      · simp -implicitDefEqProofs (disch := (first | omega | (simp only [lenB, lowB_len, numB_len] <;> omega) | fail)) only [admQ, lenB, lowB_len, numB_len, aFill, AK.cls, implies_true, ↓reduceIte, reduceCtorEq, if_true, if_false, Nat.reduceAdd, Nat.reduceEqDiff, Nat.reduceMod, Nat.reduceLT, Nat.reduceLeDiff, Nat.reduceSub, Nat.reduceMul, Nat.reduceBEq, Int.reduceAdd, Int.reduceSub, Int.reduceMul, Int.reduceNeg, Int.reduceLT, Int.reduceLE, Int.reduceToNat, Int.reduceEq, Int.reduceBEq, hr1, hr2, e1, e2, he, Bool.not_true]
        refine hX (i + 1) _ _ rfl (by omega) ⟨rfl, by omega, fun j hj2 => ?_⟩
        by_cases hji : j = i
        · subst hji; simpa using he
        · exact hj j (by omega)
    · have he : (a == b) = true := by rw [beq_iff_eq]; exact gb_ext h fun j hj2 => hj j (by omega)
      simp -implicitDefEqProofs (disch := (first | omega | (simp only [lenB, lowB_len, numB_len] <;> omega) | fail)) only [admQ, lenB, lowB_len, numB_len, aFill, AK.cls, implies_true, ↓reduceIte, reduceCtorEq, if_true, if_false, Nat.reduceAdd, Nat.reduceEqDiff, Nat.reduceMod, Nat.reduceLT, Nat.reduceLeDiff, Nat.reduceSub, Nat.reduceMul, Nat.reduceBEq, Int.reduceAdd, Int.reduceSub, Int.reduceMul, Int.reduceNeg, Int.reduceLT, Int.reduceLE, Int.reduceToNat, Int.reduceEq, Int.reduceBEq, hx.len, he]
  · have h' : ((a.length : Int) == (b.length : Int)) = false := by rw [beq_eq_false_iff_ne]; omega
    have he : (a == b) = false := by rw [beq_eq_false_iff_ne]; rintro rfl; exact h rfl
    simp -implicitDefEqProofs (disch := (first | omega | (simp only [lenB, lowB_len, numB_len] <;> omega) | fail)) only [admQ, lenB, lowB_len, numB_len, aFill, AK.cls, implies_true, ↓reduceIte, reduceCtorEq, if_true, if_false, Nat.reduceAdd, Nat.reduceEqDiff, Nat.reduceMod, Nat.reduceLT, Nat.reduceLeDiff, Nat.reduceSub, Nat.reduceMul, Nat.reduceBEq, Int.reduceAdd, Int.reduceSub, Int.reduceMul, Int.reduceNeg, Int.reduceLT, Int.reduceLE, Int.reduceToNat, Int.reduceEq, Int.reduceBEq, c118, r118, hx.len, hy.len, h', he, Bool.not_false]
theorem ans_slclone {m : Mem} {x : AV} {l : List B8} (hx : RdB m x l) (hl : l.length ≤ 1000000000) : Ans Tryz.prog 121 [x] m fun r m' => Kept [] m m' ∧ GrB m.length m' r l ∧ ∀ b ∈ blkOf r, m.length ≤ b := by
  refine ans_ret mixed ok121 ?_
  rcases hx with ⟨rfl, rfl⟩ | ⟨b, o, cap, s, c, rfl, h2⟩
  · simp -implicitDefEqProofs (disch := (first | omega | (simp only [lenB, lowB_len, numB_len] <;> omega) | fail)) only [admQ, lenB, lowB_len, numB_len, aFill, AK.cls, implies_true, ↓reduceIte, reduceCtorEq, if_true, if_false, Nat.reduceAdd, Nat.reduceEqDiff, Nat.reduceMod, Nat.reduceLT, Nat.reduceLeDiff, Nat.reduceSub, Nat.reduceMul, Nat.reduceBEq, Int.reduceAdd, Int.reduceSub, Int.reduceMul, Int.reduceNeg, Int.reduceLT, Int.reduceLE, Int.reduceToNat, Int.reduceEq, Int.reduceBEq, c121, r121]
    exact ⟨.refl _ _, .nils .., by simp [blkOf]⟩
  · have hx : RdB m (.sl b o l.length cap s) l := .inr ⟨b, o, cap, s, c, rfl, h2⟩
    simp -implicitDefEqProofs (disch := (first | omega | (simp only [lenB, lowB_len, numB_len] <;> omega) | fail)) only [admQ, lenB, lowB_len, numB_len, aFill, AK.cls, implies_true, ↓reduceIte, reduceCtorEq, if_true, if_false, Nat.reduceAdd, Nat.reduceEqDiff, Nat.reduceMod, Nat.reduceLT, Nat.reduceLeDiff, Nat.reduceSub, Nat.reduceMul, Nat.reduceBEq, Int.reduceAdd, Int.reduceSub, Int.reduceMul, Int.reduceNeg, Int.reduceLT, Int.reduceLE, Int.reduceToNat, Int.reduceEq, Int.reduceBEq, c121, r121]
    have gz : GrB m.length (m ++ [Blk.row [] false]) (.sl m.length 0 0 0 0) [] := .zero (by rw [own_app_at0]; rfl)
    obtain ⟨x4, m4, e4, g4, k4, a4, n4⟩ := GrA.pushs5 (sz := 1) (bytes := 1) gz Nat.one_pos (hx.app [Blk.row [] false]).elems (hx.app [Blk.row [] false]).lenA (by simp) (by simp; omega) (by simp)
    refine someW_eq e4 ?_
    simp -implicitDefEqProofs (disch := (first | omega | (simp only [lenB, lowB_len, numB_len] <;> omega) | fail)) only [admQ, lenB, lowB_len, numB_len, aFill, AK.cls, implies_true, ↓reduceIte, reduceCtorEq, if_true, if_false, Nat.reduceAdd, Nat.reduceEqDiff, Nat.reduceMod, Nat.reduceLT, Nat.reduceLeDiff, Nat.reduceSub, Nat.reduceMul, Nat.reduceBEq, Int.reduceAdd, Int.reduceSub, Int.reduceMul, Int.reduceNeg, Int.reduceLT, Int.reduceLE, Int.reduceToNat, Int.reduceEq, Int.reduceBEq]
    refine ⟨a4 _ _ (.app _ _ _) (Nat.le_refl _), by simpa [GrB] using g4, fun q hq => ?_⟩
    by_cases h0 : 0 < l.length
    · have := n4 h0 q hq; simp at this; omega
    · have e := app_none (m := m ++ [Blk.row [] false]) (size := 1) (bytes := 1) (s := .sl m.length 0 0 0 0) (x := .sl b o l.length cap s) (congrArg some (show l.length = 0 by omega)) rfl
      rw [e] at e4; cases e4
      simp [blkOf] at hq; omega
end Go.Proofs.YtmnlmjlmbceimaaGreatDoor
end
section
/- Names: what is remembered; sealed, opened, summed. -/
namespace Go.Proofs.YtmnlmjlmbceimaaGreatDoor
open Go Go.Adm
set_option linter.unusedSimpArgs false
set_option linter.unusedVariables false
set_option maxRecDepth 100000
/-- What is sealed: an epoch, a number, a head, a plain. -/
abbrev Sd := Int × Int × List B8 × List B8
def sdC (s : Sd) : List AV := [.int .i64 s.1, .int .i64 s.2.1, .str (strOf s.2.2.1), .str (strOf s.2.2.2)]
def sdK (s : Sd) : AV := .agg (sdC s)
def txK (t : List B8) : AV := .str (strOf t)
abbrev sdM : MK := .agg [.i, .i, .s, .s]
theorem sd_key (a b : Sd) : mapEq sdM (sdK a) (sdK b) = some (decide (a = b)) := by
  obtain ⟨a1, a2, a3, a4⟩ := a
  obtain ⟨b1, b2, b3, b4⟩ := b
  simp only [mapEq, sdK, sdC, aEqCells, aEqCk, if_true, Option.bind_some, Option.map_some, strOf_beq, Bool.and_true]
  congr 1
  rw [Bool.eq_iff_iff]
  simp [Prod.ext_iff]
theorem sd_fit (a : Sd) : keyFits sdM (sdK a) = true := rfl
/-- A Names: at x, in the blocks W; S was sealed, T was summed. -/
structure Nm (m : Mem) (x : Nat) (W : List Nat) (S : List Sd) (T : List (List B8)) : Prop where
  ex : ∃ bs v bt, own m x = some [.map bs, v, .map bt] ∧ MapR sdK m bs S ∧ GrA 4 0 m v (S.flatMap sdC) ∧ MapR txK m bt T ∧ W = x :: bs :: bt :: blkOf v ∧ bs ≠ bt ∧ x ∉ blkOf v
theorem Nm.kept {m m' : Mem} {x : Nat} {W X : List Nat} {S : List Sd} {T : List (List B8)} (h : Nm m x W S T) (hk : Kept X m m') (hX : ∀ b ∈ W, b ∉ X) : Nm m' x W S T := by
  obtain ⟨bs, v, bt, h1, h2, h3, h4, rfl, h6⟩ := h.ex
  exact ⟨bs, v, bt, hk.own h1 (hX x (by simp)), h2.kept hk (hX bs (by simp)), h3.kept hk (fun b hb => hX b (by simp [hb])), h4.kept hk (hX bt (by simp)), rfl, h6⟩
theorem Nm.kept0 {m m' : Mem} {x : Nat} {W : List Nat} {S : List Sd} {T : List (List B8)} (h : Nm m x W S T) (hk : Kept [] m m') : Nm m' x W S T := h.kept hk (by simp)
theorem Nm.lt {m : Mem} {x : Nat} {W : List Nat} {S : List Sd} {T : List (List B8)} (h : Nm m x W S T) : ∀ b ∈ W, b < m.length := by
  obtain ⟨bs, v, bt, h1, h2, h3, h4, rfl, h6⟩ := h.ex
  simp only [List.mem_cons]
  rintro b (rfl | rfl | rfl | hb)
  · exact own_lt h1
  · exact h2.lt
  · exact h4.lt
  · exact h3.lt b hb
theorem ans_nnew (m : Mem) : Ans Tryz.prog 18 [] m fun r m' => ∃ x W, r = .ptr x 0 ∧ Kept [] m m' ∧ Nm m' x W [] [] ∧ ∀ b ∈ W, m.length ≤ b := by
  refine ans_ret mixed ok18 ?_
  simp -implicitDefEqProofs (disch := (first | omega | (simp only [lenB, lowB_len, numB_len] <;> omega) | fail)) only [admQ, lenB, lowB_len, numB_len, aFill, AK.cls, implies_true, ↓reduceIte, reduceCtorEq, if_true, if_false, Nat.reduceAdd, Nat.reduceEqDiff, Nat.reduceMod, Nat.reduceLT, Nat.reduceLeDiff, Nat.reduceSub, Nat.reduceMul, Nat.reduceBEq, Int.reduceAdd, Int.reduceSub, Int.reduceMul, Int.reduceNeg, Int.reduceLT, Int.reduceLE, Int.reduceToNat, Int.reduceEq, Int.reduceBEq, c18, r18, mapR, mkMp]
  refine ⟨m.length + 2, [m.length + 2, m.length, m.length + 1], rfl, .app _ _ _, ⟨m.length, .nils, m.length + 1, ?_, ?_, .nils .., ?_, rfl, by omega, by simp [blkOf]⟩, by simp⟩
  · rw [own_app_at]; rfl
  · exact (MapR.new sdK m).at_ (by simp)
  · have := MapR.new txK (m ++ [.map [] 0])
    rw [List.length_append] at this
    exact this.at_ (by simp)
def addN {α : Type} [DecidableEq α] (s : α) (S : List α) : List α := if s ∈ S then S else S ++ [s]
def posN {α : Type} [DecidableEq α] (s : α) (S : List α) : Nat := ((fidx s S).getD S.length) + 1
def zeros (n : Nat) : List B8 := List.replicate n 0#8
def nsealB (S : List Sd) (s : Sd) : List B8 := s.2.2.2 ++ zeros 24 ++ numB (posN s S)
theorem sd_len (S : List Sd) : (S.flatMap sdC).length = S.length * 4 := by
  induction S with
  | nil => rfl
  | cons a l ih => rw [List.flatMap_cons, List.length_append, ih, List.length_cons]; simp only [sdC, List.length_cons, List.length_nil]; omega
def nsealQ (m : Mem) (x : Nat) (W : List Nat) (S : List Sd) (T : List (List B8)) (e n : Int) (head plain : List B8) (r : AV) (m' : Mem) : Prop :=
  (within e ∧ within n → ∃ W', Kept W m m' ∧ Nm m' x W' (addN (e, n, head, plain) S) T ∧ (∀ b ∈ W', b ∈ W ∨ m.length ≤ b) ∧ GrB m.length m' r (nsealB S (e, n, head, plain)) ∧ ∀ b ∈ blkOf r, b ∉ W') ∧
      (¬ (within e ∧ within n) → r = .nils ∧ Kept [] m m')
theorem nsealTail {m M : Mem} {x : Nat} {W W' : List Nat} {S : List Sd} {T : List (List B8)} {bx : AV} {e n : Int} {head plain : List B8} (hp : within e ∧ within n) (hb : RdB M bx plain) (hS : S.length ≤ 1000) (hl : plain.length ≤ 100000)
    (hk : Kept W m M) (hN : Nm M x W' (addN (e, n, head, plain) S) T) (hW : ∀ b ∈ W', b ∈ W ∨ m.length ≤ b) (k : Nat) (hk1 : k = posN (e, n, head, plain) S) (hk2 : k ≤ 1001) :
    wpA Tryz.prog c116_2 [(4, bx), (12, .int .i64 (k : Int))] M (retQ [.tmp 10] (nsealQ m x W S T e n head plain)) := by
  simp -implicitDefEqProofs (disch := (first | omega | (simp only [lenB, lowB_len, numB_len] <;> omega) | fail)) only [admQ, lenB, lowB_len, numB_len, aFill, AK.cls, implies_true, ↓reduceIte, reduceCtorEq, if_true, if_false, Nat.reduceAdd, Nat.reduceEqDiff, Nat.reduceMod, Nat.reduceLT, Nat.reduceLeDiff, Nat.reduceSub, Nat.reduceMul, Nat.reduceBEq, Int.reduceAdd, Int.reduceSub, Int.reduceMul, Int.reduceNeg, Int.reduceLT, Int.reduceLE, Int.reduceToNat, Int.reduceEq, Int.reduceBEq, c116_2]
  have hr : rep 24 [AV.int .u8 0] = bys (zeros 24) := rfl
  simp -implicitDefEqProofs (disch := (first | omega | (simp only [lenB, lowB_len, numB_len] <;> omega) | fail)) only [admQ, lenB, lowB_len, numB_len, aFill, AK.cls, implies_true, ↓reduceIte, reduceCtorEq, if_true, if_false, Nat.reduceAdd, Nat.reduceEqDiff, Nat.reduceMod, Nat.reduceLT, Nat.reduceLeDiff, Nat.reduceSub, Nat.reduceMul, Nat.reduceBEq, Int.reduceAdd, Int.reduceSub, Int.reduceMul, Int.reduceNeg, Int.reduceLT, Int.reduceLE, Int.reduceToNat, Int.reduceEq, Int.reduceBEq, hr]
  refine (ans_nnumber k (by omega) _).mono ?_
  rintro _ m1 ⟨p, rfl, k1, hp1, op⟩
  have oZ : own (M ++ [Blk.row (bys (zeros 24)) false]) M.length = some (bys (zeros 24)) := by rw [own_app_at0]; rfl
  have kA := Kept.app [] M [Blk.row (bys (zeros 24)) false]
  have hAl : (M ++ [Blk.row (bys (zeros 24)) false]).length = M.length + 1 := by simp
  have hEq : (M ++ [Blk.row (bys (zeros 24)) false])[M.length]? = some (.row (bys (zeros 24)) false) := by simp
  generalize M ++ [Blk.row (bys (zeros 24)) false] = A at *
  have hE : m1[M.length]? = some (.row (bys (zeros 24)) false) := by rw [k1.eq _ (by omega) (by simp)]; exact hEq
  simp -implicitDefEqProofs (disch := (first | omega | (simp only [lenB, lowB_len, numB_len] <;> omega) | fail)) only [admQ, lenB, lowB_len, numB_len, aFill, AK.cls, implies_true, ↓reduceIte, reduceCtorEq, if_true, if_false, Nat.reduceAdd, Nat.reduceEqDiff, Nat.reduceMod, Nat.reduceLT, Nat.reduceLeDiff, Nat.reduceSub, Nat.reduceMul, Nat.reduceBEq, Int.reduceAdd, Int.reduceSub, Int.reduceMul, Int.reduceNeg, Int.reduceLT, Int.reduceLE, Int.reduceToNat, Int.reduceEq, Int.reduceBEq, hE, (rd_one hb).1, (rd_one hb).2]
  have oZ1 := k1.own oZ (by simp)
  have K1 := kA.trans k1
  have rl : RdL (m1 ++ [Blk.row [bx, .sl M.length 0 24 24 0, .sl p 0 8 8 0] false]) [bx, .sl M.length 0 24 24 0, .sl p 0 8 8 0] [plain, zeros 24, numB k] :=
    .cons ((hb.kept0 K1).app _) (.cons (RdB.row (l := zeros 24) 24 0 (rowOf_own (own_app oZ1 _)) (by simp [zeros])) (.cons (RdB.row (l := numB k) 8 0 (rowOf_own (own_app op _)) (by rw [numB_len]; omega)) (.nil _)))
  have hfl : [plain, zeros 24, numB k].flatten = nsealB S (e, n, head, plain) := by simp [nsealB, hk1]
  have K2 := K1.more_app [Blk.row [bx, .sl M.length 0 24 24 0, .sl p 0 8 8 0] false]
  have rB : rowOf (m1 ++ [Blk.row [bx, .sl M.length 0 24 24 0, .sl p 0 8 8 0] false]) m1.length = some [bx, .sl M.length 0 24 24 0, .sl p 0 8 8 0] := by rw [rowOf_app_at0]; rfl
  generalize m1 ++ [Blk.row [bx, .sl M.length 0 24 24 0, .sl p 0 8 8 0] false] = C at *
  refine (ans_slconcat (k := 3) rB rl rfl ⟨by omega, by simp [zeros, numB_len]; omega⟩).mono ?_
  rintro r m3 ⟨k3, g3⟩
  simp -implicitDefEqProofs (disch := (first | omega | (simp only [lenB, lowB_len, numB_len] <;> omega) | fail)) only [admQ, lenB, lowB_len, numB_len, aFill, AK.cls, implies_true, ↓reduceIte, reduceCtorEq, if_true, if_false, Nat.reduceAdd, Nat.reduceEqDiff, Nat.reduceMod, Nat.reduceLT, Nat.reduceLeDiff, Nat.reduceSub, Nat.reduceMul, Nat.reduceBEq, Int.reduceAdd, Int.reduceSub, Int.reduceMul, Int.reduceNeg, Int.reduceLT, Int.reduceLE, Int.reduceToNat, Int.reduceEq, Int.reduceBEq]
  rw [hfl] at g3
  have hMC := K2.len
  have hmM := hk.len
  have hgb := GrA.blk g3 (by intro h0; have := congrArg List.length h0; simp [nsealB, numB_len] at this)
  refine ⟨fun _ => ⟨W', hk.trans (K2.trans k3 |>.more (by simp)), hN.kept0 (K2.trans k3), hW, g3.low (by omega), fun b hb1 hb2 => ?_⟩, fun h => absurd hp h⟩
  have := hN.lt b hb2
  have := hgb b hb1
  omega
theorem ans_nseal {m : Mem} {x : Nat} {W : List Nat} {S : List Sd} {T : List (List B8)} {hx bx : AV} {e n : Int} {head plain : List B8} (hN : Nm m x W S T) (hh : RdB m hx head) (hb : RdB m bx plain)
    (hd : ∀ b ∈ blkOf bx, b ∉ W) (hS : S.length ≤ 1000) (hl : head.length ≤ 100000 ∧ plain.length ≤ 100000) :
    Ans Tryz.prog 116 [.ptr x 0, .int .i64 e, .int .i64 n, hx, bx] m (nsealQ m x W S T e n head plain) := by
  refine ans_ret mixed ok116 ?_
  simp -implicitDefEqProofs (disch := (first | omega | (simp only [lenB, lowB_len, numB_len] <;> omega) | fail)) only [admQ, lenB, lowB_len, numB_len, aFill, AK.cls, implies_true, ↓reduceIte, reduceCtorEq, if_true, if_false, Nat.reduceAdd, Nat.reduceEqDiff, Nat.reduceMod, Nat.reduceLT, Nat.reduceLeDiff, Nat.reduceSub, Nat.reduceMul, Nat.reduceBEq, Int.reduceAdd, Int.reduceSub, Int.reduceMul, Int.reduceNeg, Int.reduceLT, Int.reduceLE, Int.reduceToNat, Int.reduceEq, Int.reduceBEq, p116, r116]
  refine (ans_nwithin e _).mono ?_
  rintro _ M ⟨rfl, hM⟩
  subst hM
  by_cases he : within e
  · simp -implicitDefEqProofs (disch := (first | omega | (simp only [lenB, lowB_len, numB_len] <;> omega) | fail)) only [admQ, lenB, lowB_len, numB_len, aFill, AK.cls, implies_true, ↓reduceIte, reduceCtorEq, if_true, if_false, Nat.reduceAdd, Nat.reduceEqDiff, Nat.reduceMod, Nat.reduceLT, Nat.reduceLeDiff, Nat.reduceSub, Nat.reduceMul, Nat.reduceBEq, Int.reduceAdd, Int.reduceSub, Int.reduceMul, Int.reduceNeg, Int.reduceLT, Int.reduceLE, Int.reduceToNat, Int.reduceEq, Int.reduceBEq, dec_t he, Bool.not_true]
    refine (ans_nwithin n _).mono ?_
    rintro _ M ⟨rfl, hM⟩
    subst hM
    by_cases hn : within n
    · obtain ⟨bs, v, bt, h1, h2, h3, h4, rfl, h6, h7⟩ := hN.ex
      simp -implicitDefEqProofs (disch := (first | omega | (simp only [lenB, lowB_len, numB_len] <;> omega) | fail)) only [admQ, lenB, lowB_len, numB_len, aFill, AK.cls, implies_true, ↓reduceIte, reduceCtorEq, if_true, if_false, Nat.reduceAdd, Nat.reduceEqDiff, Nat.reduceMod, Nat.reduceLT, Nat.reduceLeDiff, Nat.reduceSub, Nat.reduceMul, Nat.reduceBEq, Int.reduceAdd, Int.reduceSub, Int.reduceMul, Int.reduceNeg, Int.reduceLT, Int.reduceLE, Int.reduceToNat, Int.reduceEq, Int.reduceBEq, dec_t hn, Bool.not_true, mapR, hh.b2s, hb.b2s]
      have k0 := Kept.app [] M [Blk.row [.int .i64 e, .int .i64 n, .str (strOf head), .str (strOf plain)] false]
      have o0 : own (M ++ [Blk.row [.int .i64 e, .int .i64 n, .str (strOf head), .str (strOf plain)] false]) M.length = some [.int .i64 e, .int .i64 n, .str (strOf head), .str (strOf plain)] := by rw [own_app_at0]; rfl
      generalize M ++ [Blk.row [.int .i64 e, .int .i64 n, .str (strOf head), .str (strOf plain)] false] = A at k0 o0
      have g1 := k0.own h1 (by simp)
      have g2 := h2.kept k0 (by simp)
      have g3 := h3.kept0 k0
      have g4 := h4.kept k0 (by simp)
      have lk : rLookup (.agg [.i, .i, .s, .s]) (.int .i64 0) true A [.map bs, .agg [.int .i64 e, .int .i64 n, .str (strOf head), .str (strOf plain)]] = some (lookR (fidx (e, n, head, plain) S)) := g2.look sd_key sd_fit (e, n, head, plain)
      have hMA := k0.len
      cases hf : fidx (e, n, head, plain) S with
      | some i =>
        rw [hf] at lk
        simp -implicitDefEqProofs (disch := (first | omega | (simp only [lenB, lowB_len, numB_len] <;> omega) | fail)) only [admQ, lenB, lowB_len, numB_len, aFill, AK.cls, implies_true, ↓reduceIte, reduceCtorEq, if_true, if_false, Nat.reduceAdd, Nat.reduceEqDiff, Nat.reduceMod, Nat.reduceLT, Nat.reduceLeDiff, Nat.reduceSub, Nat.reduceMul, Nat.reduceBEq, Int.reduceAdd, Int.reduceSub, Int.reduceMul, Int.reduceNeg, Int.reduceLT, Int.reduceLE, Int.reduceToNat, Int.reduceEq, Int.reduceBEq, rowOf_own g1, rowOf_own o0, mapR, lk, lookR]
        have hin := List.mem_of_getElem? (fidx_some hf)
        have hpos : i + 1 = posN (e, n, head, plain) S := by simp [posN, hf]
        have hi := fidx_lt hf
        refine wp_join2 [4, 12] (fun _ : Unit => [(4, bx), (12, .int .i64 ((i + 1 : Nat) : Int))]) (fun _ M' => M' = A) rfl ?_ ?_
        · simp -implicitDefEqProofs (disch := (first | omega | (simp only [lenB, lowB_len, numB_len] <;> omega) | fail)) only [admQ, lenB, lowB_len, numB_len, aFill, AK.cls, implies_true, ↓reduceIte, reduceCtorEq, if_true, if_false, Nat.reduceAdd, Nat.reduceEqDiff, Nat.reduceMod, Nat.reduceLT, Nat.reduceLeDiff, Nat.reduceSub, Nat.reduceMul, Nat.reduceBEq, Int.reduceAdd, Int.reduceSub, Int.reduceMul, Int.reduceNeg, Int.reduceLT, Int.reduceLE, Int.reduceToNat, Int.reduceEq, Int.reduceBEq, c116_1, joins, Bool.not_true]
          exact ⟨(), trivial⟩
        · rintro _ M' rfl
          exact nsealTail ⟨he, hn⟩ (hb.kept0 k0) hS hl.2 (k0.more (by simp)) (by rw [addN, if_pos hin]; exact hN.kept0 k0) (fun b hb => .inl hb) _ hpos (by omega)
      | none =>
        rw [hf] at lk
        simp -implicitDefEqProofs (disch := (first | omega | (simp only [lenB, lowB_len, numB_len] <;> omega) | fail)) only [admQ, lenB, lowB_len, numB_len, aFill, AK.cls, implies_true, ↓reduceIte, reduceCtorEq, if_true, if_false, Nat.reduceAdd, Nat.reduceEqDiff, Nat.reduceMod, Nat.reduceLT, Nat.reduceLeDiff, Nat.reduceSub, Nat.reduceMul, Nat.reduceBEq, Int.reduceAdd, Int.reduceSub, Int.reduceMul, Int.reduceNeg, Int.reduceLT, Int.reduceLE, Int.reduceToNat, Int.reduceEq, Int.reduceBEq, rowOf_own g1, rowOf_own o0, mapR, lk, lookR]
        have hin := fidx_none.mp hf
        have hpos : S.length + 1 = posN (e, n, head, plain) S := by simp [posN, hf]
        refine wp_join2 [4, 12] (fun _ : Unit => [(4, bx), (12, .int .i64 ((S.length + 1 : Nat) : Int))]) (fun _ M' => ∃ W', Kept (x :: bs :: bt :: blkOf v) M M' ∧ RdB M' bx plain ∧ Nm M' x W' (S ++ [(e, n, head, plain)]) T ∧ ∀ b ∈ W', b ∈ x :: bs :: bt :: blkOf v ∨ M.length ≤ b) rfl ?_ ?_
        · simp -implicitDefEqProofs (disch := (first | omega | (simp only [lenB, lowB_len, numB_len] <;> omega) | fail)) only [admQ, lenB, lowB_len, numB_len, aFill, AK.cls, implies_true, ↓reduceIte, reduceCtorEq, if_true, if_false, Nat.reduceAdd, Nat.reduceEqDiff, Nat.reduceMod, Nat.reduceLT, Nat.reduceLeDiff, Nat.reduceSub, Nat.reduceMul, Nat.reduceBEq, Int.reduceAdd, Int.reduceSub, Int.reduceMul, Int.reduceNeg, Int.reduceLT, Int.reduceLE, Int.reduceToNat, Int.reduceEq, Int.reduceBEq, c116_1, joins, Bool.not_false, rowOf_own g1, rowOf_own o0]
          have hsl := sd_len S
          have hvM : M.length ∉ blkOf v := fun h => by have := hN.lt M.length (by simp [h]); omega
          have hvA : A.length ∉ blkOf v := fun h => by have := hN.lt A.length (by simp [h]); omega
          have hxM : x < M.length := hN.lt x (by simp)
          have kB := Kept.app [] A [Blk.row (sdC (e, n, head, plain)) false]
          have hBE : (A ++ [Blk.row (sdC (e, n, head, plain)) false])[A.length]? = some (.row (sdC (e, n, head, plain)) false) := by simp
          have hBl : (A ++ [Blk.row (sdC (e, n, head, plain)) false]).length = A.length + 1 := by simp
          obtain ⟨v2, m2, e2, gv2, kv2, av2, nv2⟩ := GrA.pushs5 (bytes := 48) (k := 1) (y := .sl A.length 0 1 1 0) (l2 := sdC (e, n, head, plain)) (g3.kept0 kB) (by omega) (elemsS_one A rfl) rfl rfl (by omega) (Nat.zero_le _)
          refine someW_eq e2 ?_
          generalize A ++ [Blk.row (sdC (e, n, head, plain)) false] = B at *
          have x1 := kv2.own (kB.own g1 (by simp)) h7
          have oM := kv2.own (kB.own o0 (by simp)) hvM
          have cE : m2[A.length]? = some (.row [.int .i64 e, .int .i64 n, .str (strOf head), .str (strOf plain)] false) := by rw [kv2.eq _ (by omega) hvA]; exact hBE
          have kM2 : Kept (x :: bs :: bt :: blkOf v) M m2 := (((k0.trans kB).more (by simp)).trans (kv2.more fun q hq _ => by simp [hq]))
          have hbsx : bs ≠ x := MapR.ne_own h2 h1
          have hbtx : bt ≠ x := MapR.ne_own h4 h1
          have hbsM : bs < M.length := h2.lt
          have hbtM : bt < M.length := h4.lt
          have hx2 := own_lt x1
          have hvbs : bs ∉ blkOf v := MapR.ne_gr h2 h3
          have hvbt : bt ∉ blkOf v := MapR.ne_gr h4 h3
          have hv2b : ∀ b ∈ blkOf v2, B.length ≤ b := nv2 (by omega)
          have hxv2 : x ∉ blkOf v2 := fun h => by have := hv2b x h; omega
          have hbsv2 : bs ∉ blkOf v2 := fun h => by have := hv2b bs h; omega
          have gb2 := (g2.kept kB (by simp)).kept kv2 hvbs
          have gt2 := (g4.kept kB (by simp)).kept kv2 hvbt
          have kX := Kept.set1 m2 x (.row [.map bs, v2, .map bt] false)
          have x3 := own_set hx2 [AV.map bs, v2, AV.map bt]
          have oM3 := own_set_ne' oM (show x ≠ M.length by omega) (.row [.map bs, v2, .map bt] false)
          have gv3 := gv2.kept kX (by simpa using fun b hb (h : b = x) => hxv2 (h ▸ hb))
          have gb3 := gb2.kept kX (by simpa using hbsx)
          have gt3 := gt2.kept kX (by simpa using hbtx)
          have cE3 : (m2.set x (.row [.map bs, v2, .map bt] false))[A.length]? = some (.row [.int .i64 e, .int .i64 n, .str (strOf head), .str (strOf plain)] false) := by rw [List.getElem?_set_ne (by omega)]; exact cE
          have kM3 := kM2.trans (kX.more fun q hq _ => by simp at hq; simp [hq])
          simp -implicitDefEqProofs (disch := (first | omega | (simp only [lenB, lowB_len, numB_len] <;> omega) | fail)) only [admQ, lenB, lowB_len, numB_len, aFill, AK.cls, implies_true, ↓reduceIte, reduceCtorEq, if_true, if_false, Nat.reduceAdd, Nat.reduceEqDiff, Nat.reduceMod, Nat.reduceLT, Nat.reduceLeDiff, Nat.reduceSub, Nat.reduceMul, Nat.reduceBEq, Int.reduceAdd, Int.reduceSub, Int.reduceMul, Int.reduceNeg, Int.reduceLT, Int.reduceLE, Int.reduceToNat, Int.reduceEq, Int.reduceBEq, rowOf_own x1, rowOf_own oM, x1, cE, (gr_one gv2).1, (gr_one gv2).2, rowOf_own x3, rowOf_own oM3, x3, cE3]
          obtain ⟨bv, nn, rfl, hn0, hnl, hbv, _⟩ := gv3.sl (by intro h0; have := congrArg List.length h0; simp [sdC] at this)
          have hnn : nn = S.length + 1 := by
            rw [List.length_append, hsl] at hnl
            simp only [sdC, List.length_cons, List.length_nil] at hnl
            omega
          subst hnn
          generalize m2.set x (.row [.map bs, .sl bv 0 (S.length + 1) (S.length + 1) 4, .map bt] false) = m3 at *
          obtain ⟨m4, eM, mr4, k4⟩ := gb3.add sd_key sd_fit hin
          have eM' : aMapSet (.agg [.i, .i, .s, .s]) m3 [.map bs, .agg [.int .i64 e, .int .i64 n, .str (strOf head), .str (strOf plain)], .int .i64 ((S.length + 1 : Nat) : Int)] = some (.tup [], m4) := eM
          have x4 := k4.own x3 (by simpa using hbsx.symm)
          have oM4 := k4.own oM3 (by simp; omega)
          simp -implicitDefEqProofs (disch := (first | omega | (simp only [lenB, lowB_len, numB_len] <;> omega) | fail)) only [admQ, lenB, lowB_len, numB_len, aFill, AK.cls, implies_true, ↓reduceIte, reduceCtorEq, if_true, if_false, Nat.reduceAdd, Nat.reduceEqDiff, Nat.reduceMod, Nat.reduceLT, Nat.reduceLeDiff, Nat.reduceSub, Nat.reduceMul, Nat.reduceBEq, Int.reduceAdd, Int.reduceSub, Int.reduceMul, Int.reduceNeg, Int.reduceLT, Int.reduceLE, Int.reduceToNat, Int.reduceEq, Int.reduceBEq, rowOf_own x3, rowOf_own oM3, mapR, eM', rowOf_own x4, rowOf_own oM4, joins]
          have kM4 := kM3.trans (k4.more fun q hq _ => by simp at hq; simp [hq])
          refine ⟨(), x :: bs :: bt :: blkOf (.sl bv 0 (S.length + 1) (S.length + 1) 4), kM4, hb.kept kM4 (fun b o n cap s h => hd b (by rw [h]; simp [blkOf])), ⟨bs, _, bt, x4, mr4, ?_, gt3.kept k4 (by simpa using h6.symm), rfl, h6, hxv2⟩, fun b hb => ?_⟩
          · rw [List.flatMap_append, List.flatMap_singleton]
            exact gv3.kept k4 (by simpa using fun b hb (h : b = bs) => hbsv2 (h ▸ hb))
          · simp only [List.mem_cons] at hb ⊢
            rcases hb with rfl | rfl | rfl | hb
            · exact .inl (.inl rfl)
            · exact .inl (.inr (.inl rfl))
            · exact .inl (.inr (.inr (.inl rfl)))
            · have := hv2b b hb; exact .inr (by omega)
        · rintro _ M' ⟨W', hk, hb', hN', hW⟩
          exact nsealTail ⟨he, hn⟩ hb' hS hl.2 hk (by rw [addN, if_neg hin]; exact hN') hW _ hpos (by omega)
    · simp -implicitDefEqProofs (disch := (first | omega | (simp only [lenB, lowB_len, numB_len] <;> omega) | fail)) only [admQ, lenB, lowB_len, numB_len, aFill, AK.cls, implies_true, ↓reduceIte, reduceCtorEq, if_true, if_false, Nat.reduceAdd, Nat.reduceEqDiff, Nat.reduceMod, Nat.reduceLT, Nat.reduceLeDiff, Nat.reduceSub, Nat.reduceMul, Nat.reduceBEq, Int.reduceAdd, Int.reduceSub, Int.reduceMul, Int.reduceNeg, Int.reduceLT, Int.reduceLE, Int.reduceToNat, Int.reduceEq, Int.reduceBEq, dec_f hn, Bool.not_false]
      exact ⟨fun h => absurd h.2 hn, fun _ => by first | exact ⟨rfl, .refl _ _⟩ | exact .refl _ _⟩
  · simp -implicitDefEqProofs (disch := (first | omega | (simp only [lenB, lowB_len, numB_len] <;> omega) | fail)) only [admQ, lenB, lowB_len, numB_len, aFill, AK.cls, implies_true, ↓reduceIte, reduceCtorEq, if_true, if_false, Nat.reduceAdd, Nat.reduceEqDiff, Nat.reduceMod, Nat.reduceLT, Nat.reduceLeDiff, Nat.reduceSub, Nat.reduceMul, Nat.reduceBEq, Int.reduceAdd, Int.reduceSub, Int.reduceMul, Int.reduceNeg, Int.reduceLT, Int.reduceLE, Int.reduceToNat, Int.reduceEq, Int.reduceBEq, dec_f he, Bool.not_false]
    exact ⟨fun h => absurd h.1 he, fun _ => by first | exact ⟨rfl, .refl _ _⟩ | exact .refl _ _⟩
/-- What is opened: the place of what was sealed so. -/
def nopenP (S : List Sd) (e n : Int) (head b : List B8) : Prop :=
  32 ≤ b.length ∧ ∃ i, fidx (e, n, head, b.take (b.length - 32)) S = some i ∧ b.drop (b.length - 32) = zeros 24 ++ numB (i + 1)
theorem ans_nopen {m : Mem} {x : Nat} {W : List Nat} {S : List Sd} {T : List (List B8)} {hx bx : AV} {e n : Int} {head b : List B8} (hN : Nm m x W S T) (hh : RdB m hx head) (hb : RdB m bx b) (hS : S.length ≤ 1000) (hl : head.length ≤ 100000 ∧ b.length ≤ 100000) :
    Ans Tryz.prog 115 [.ptr x 0, .int .i64 e, .int .i64 n, hx, bx] m fun r m' => Kept [] m m' ∧
      (nopenP S e n head b → ∃ v, r = .tup [v, .bool true] ∧ GrB m.length m' v (b.take (b.length - 32)) ∧ ∀ q ∈ blkOf v, m.length ≤ q) ∧ (¬ nopenP S e n head b → r = .tup [.nils, .bool false]) := by
  refine ans_ret mixed ok115 ?_
  by_cases h32 : b.length < 32
  · have hno : ¬ nopenP S e n head b := fun h => by have := h.1; omega
    simp -implicitDefEqProofs (disch := (first | omega | (simp only [lenB, lowB_len, numB_len] <;> omega) | fail)) only [admQ, lenB, lowB_len, numB_len, aFill, AK.cls, implies_true, ↓reduceIte, reduceCtorEq, if_true, if_false, Nat.reduceAdd, Nat.reduceEqDiff, Nat.reduceMod, Nat.reduceLT, Nat.reduceLeDiff, Nat.reduceSub, Nat.reduceMul, Nat.reduceBEq, Int.reduceAdd, Int.reduceSub, Int.reduceMul, Int.reduceNeg, Int.reduceLT, Int.reduceLE, Int.reduceToNat, Int.reduceEq, Int.reduceBEq, c115, r115, hb.len]
    exact ⟨.refl _ _, fun h => absurd h hno⟩
  · obtain ⟨q, o, cap, sl, cc, rfl, hrow, hat, hlen, hcap, hsl, htk⟩ := hb.cons (i := 0) (by omega)
    obtain ⟨bs, v, bt, h1, h2, h3, h4, rfl, h6, h7⟩ := hN.ex
    have hpl := hb.take (k := b.length - 32) (by omega)
    have htg := hb.drop (k := b.length - 32) (by omega)
    have hp8 : (b.take (b.length - 32)).length = b.length - 32 := by simp
    have ht8 : (b.drop (b.length - 32)).length = 32 := by simp; omega
    have lk : rLookup (.agg [.i, .i, .s, .s]) (.int .i64 0) true m [.map bs, .agg [.int .i64 e, .int .i64 n, .str (strOf head), .str (strOf (b.take (b.length - 32)))]] = some (lookR (fidx (e, n, head, b.take (b.length - 32)) S)) := h2.look sd_key sd_fit (e, n, head, b.take (b.length - 32))
    cases hf : fidx (e, n, head, b.take (b.length - 32)) S with
    | none =>
      rw [hf] at lk
      have hno : ¬ nopenP S e n head b := fun h => by obtain ⟨_, i, hi, _⟩ := h; rw [hf] at hi; cases hi
      simp -implicitDefEqProofs (disch := (first | omega | (simp only [lenB, lowB_len, numB_len] <;> omega) | fail)) only [admQ, lenB, lowB_len, numB_len, aFill, AK.cls, implies_true, ↓reduceIte, reduceCtorEq, if_true, if_false, Nat.reduceAdd, Nat.reduceEqDiff, Nat.reduceMod, Nat.reduceLT, Nat.reduceLeDiff, Nat.reduceSub, Nat.reduceMul, Nat.reduceBEq, Int.reduceAdd, Int.reduceSub, Int.reduceMul, Int.reduceNeg, Int.reduceLT, Int.reduceLE, Int.reduceToNat, Int.reduceEq, Int.reduceBEq, c115, r115, rowOf_own h1, mapR, hh.b2s, hpl.b2s, lk, lookR, Bool.not_false]
      exact ⟨.refl _ _, fun h => absurd h hno⟩
    | some i =>
      rw [hf] at lk
      have hi := fidx_lt hf
      simp -implicitDefEqProofs (disch := (first | omega | (simp only [lenB, lowB_len, numB_len] <;> omega) | fail)) only [admQ, lenB, lowB_len, numB_len, aFill, AK.cls, implies_true, ↓reduceIte, reduceCtorEq, if_true, if_false, Nat.reduceAdd, Nat.reduceEqDiff, Nat.reduceMod, Nat.reduceLT, Nat.reduceLeDiff, Nat.reduceSub, Nat.reduceMul, Nat.reduceBEq, Int.reduceAdd, Int.reduceSub, Int.reduceMul, Int.reduceNeg, Int.reduceLT, Int.reduceLE, Int.reduceToNat, Int.reduceEq, Int.reduceBEq, c115, r115, rowOf_own h1, mapR, hh.b2s, hpl.b2s, lk, lookR, Bool.not_true]
      have hr : rep 24 [AV.int .u8 0] = bys (zeros 24) := rfl
      simp -implicitDefEqProofs (disch := (first | omega | (simp only [lenB, lowB_len, numB_len] <;> omega) | fail)) only [admQ, lenB, lowB_len, numB_len, aFill, AK.cls, implies_true, ↓reduceIte, reduceCtorEq, if_true, if_false, Nat.reduceAdd, Nat.reduceEqDiff, Nat.reduceMod, Nat.reduceLT, Nat.reduceLeDiff, Nat.reduceSub, Nat.reduceMul, Nat.reduceBEq, Int.reduceAdd, Int.reduceSub, Int.reduceMul, Int.reduceNeg, Int.reduceLT, Int.reduceLE, Int.reduceToNat, Int.reduceEq, Int.reduceBEq, hr]
      refine (ans_nnumber (i + 1) (by omega) _).mono ?_
      rintro _ m1 ⟨p, rfl, k1, hp1, op⟩
      have oZ : own (m ++ [Blk.row (bys (zeros 24)) false]) m.length = some (bys (zeros 24)) := by rw [own_app_at0]; rfl
      have kA := Kept.app [] m [Blk.row (bys (zeros 24)) false]
      have hAl : (m ++ [Blk.row (bys (zeros 24)) false]).length = m.length + 1 := by simp
      have hEq : (m ++ [Blk.row (bys (zeros 24)) false])[m.length]? = some (.row (bys (zeros 24)) false) := by simp
      generalize m ++ [Blk.row (bys (zeros 24)) false] = A at *
      have hE : m1[m.length]? = some (.row (bys (zeros 24)) false) := by rw [k1.eq _ (by omega) (by simp)]; exact hEq
      simp -implicitDefEqProofs (disch := (first | omega | (simp only [lenB, lowB_len, numB_len] <;> omega) | fail)) only [admQ, lenB, lowB_len, numB_len, aFill, AK.cls, implies_true, ↓reduceIte, reduceCtorEq, if_true, if_false, Nat.reduceAdd, Nat.reduceEqDiff, Nat.reduceMod, Nat.reduceLT, Nat.reduceLeDiff, Nat.reduceSub, Nat.reduceMul, Nat.reduceBEq, Int.reduceAdd, Int.reduceSub, Int.reduceMul, Int.reduceNeg, Int.reduceLT, Int.reduceLE, Int.reduceToNat, Int.reduceEq, Int.reduceBEq, hE]
      have oZ1 := k1.own oZ (by simp)
      have K1 := kA.trans k1
      have rl : RdL (m1 ++ [Blk.row [.sl m.length 0 24 24 0, .sl p 0 8 8 0] false]) [.sl m.length 0 24 24 0, .sl p 0 8 8 0] [zeros 24, numB (i + 1)] :=
        .cons (RdB.row (l := zeros 24) 24 0 (rowOf_own (own_app oZ1 _)) (by simp [zeros])) (.cons (RdB.row (l := numB (i + 1)) 8 0 (rowOf_own (own_app op _)) (by rw [numB_len]; omega)) (.nil _))
      have hfl : [zeros 24, numB (i + 1)].flatten = zeros 24 ++ numB (i + 1) := by simp
      have K2 := K1.more_app [Blk.row [.sl m.length 0 24 24 0, .sl p 0 8 8 0] false]
      have rB : rowOf (m1 ++ [Blk.row [.sl m.length 0 24 24 0, .sl p 0 8 8 0] false]) m1.length = some [.sl m.length 0 24 24 0, .sl p 0 8 8 0] := by rw [rowOf_app_at0]; rfl
      have hE2 : (m1 ++ [Blk.row [.sl m.length 0 24 24 0, .sl p 0 8 8 0] false])[m.length]? = some (.row (bys (zeros 24)) false) := by rw [List.getElem?_append_left (by have := k1.len; omega)]; exact hE
      have hB2 : (m1 ++ [Blk.row [.sl m.length 0 24 24 0, .sl p 0 8 8 0] false])[m1.length]? = some (.row [.sl m.length 0 24 24 0, .sl p 0 8 8 0] false) := by simp
      have hCl : (m1 ++ [Blk.row [.sl m.length 0 24 24 0, .sl p 0 8 8 0] false]).length = m1.length + 1 := by simp
      have hm1 := K1.len
      generalize m1 ++ [Blk.row [.sl m.length 0 24 24 0, .sl p 0 8 8 0] false] = C at *
      refine (ans_slconcat (k := 2) rB rl rfl ⟨by omega, by simp [zeros, numB_len]⟩).mono ?_
      rintro r m3 ⟨k3, g3⟩
      rw [hfl] at g3
      have hE3 : m3[m.length]? = some (.row (bys (zeros 24)) false) := by rw [k3.eq _ (by omega) (by simp)]; exact hE2
      have hB3 : m3[m1.length]? = some (.row [.sl m.length 0 24 24 0, .sl p 0 8 8 0] false) := by rw [k3.eq _ (by omega) (by simp)]; exact hB2
      have K3 := K2.trans k3
      simp -implicitDefEqProofs (disch := (first | omega | (simp only [lenB, lowB_len, numB_len] <;> omega) | fail)) only [admQ, lenB, lowB_len, numB_len, aFill, AK.cls, implies_true, ↓reduceIte, reduceCtorEq, if_true, if_false, Nat.reduceAdd, Nat.reduceEqDiff, Nat.reduceMod, Nat.reduceLT, Nat.reduceLeDiff, Nat.reduceSub, Nat.reduceMul, Nat.reduceBEq, Int.reduceAdd, Int.reduceSub, Int.reduceMul, Int.reduceNeg, Int.reduceLT, Int.reduceLE, Int.reduceToNat, Int.reduceEq, Int.reduceBEq, hE3, hB3]
      refine (ans_slequal (htg.kept0 K3) g3.rd (by omega)).mono ?_
      rintro _ M ⟨rfl, hM⟩
      subst hM
      by_cases hq : b.drop (b.length - 32) = zeros 24 ++ numB (i + 1)
      · have hyes : nopenP S e n head b := ⟨by omega, i, hf, hq⟩
        simp -implicitDefEqProofs (disch := (first | omega | (simp only [lenB, lowB_len, numB_len] <;> omega) | fail)) only [admQ, lenB, lowB_len, numB_len, aFill, AK.cls, implies_true, ↓reduceIte, reduceCtorEq, if_true, if_false, Nat.reduceAdd, Nat.reduceEqDiff, Nat.reduceMod, Nat.reduceLT, Nat.reduceLeDiff, Nat.reduceSub, Nat.reduceMul, Nat.reduceBEq, Int.reduceAdd, Int.reduceSub, Int.reduceMul, Int.reduceNeg, Int.reduceLT, Int.reduceLE, Int.reduceToNat, Int.reduceEq, Int.reduceBEq, beq_iff_eq.mpr hq, Bool.not_true, hE3, hB3]
        refine (ans_slclone (hpl.kept0 K3) (by omega)).mono ?_
        rintro v m4 ⟨k4, g4, hb4⟩
        simp -implicitDefEqProofs (disch := (first | omega | (simp only [lenB, lowB_len, numB_len] <;> omega) | fail)) only [admQ, lenB, lowB_len, numB_len, aFill, AK.cls, implies_true, ↓reduceIte, reduceCtorEq, if_true, if_false, Nat.reduceAdd, Nat.reduceEqDiff, Nat.reduceMod, Nat.reduceLT, Nat.reduceLeDiff, Nat.reduceSub, Nat.reduceMul, Nat.reduceBEq, Int.reduceAdd, Int.reduceSub, Int.reduceMul, Int.reduceNeg, Int.reduceLT, Int.reduceLE, Int.reduceToNat, Int.reduceEq, Int.reduceBEq]
        have := K3.len
        exact ⟨K3.trans k4, fun _ => ⟨v, rfl, g4.low this, fun q hq => Nat.le_trans this (hb4 q hq)⟩, fun h => absurd hyes h⟩
      · have hno : ¬ nopenP S e n head b := fun h => by
          obtain ⟨_, j, hj, hq'⟩ := h
          rw [hf] at hj; cases hj
          exact hq hq'
        simp -implicitDefEqProofs (disch := (first | omega | (simp only [lenB, lowB_len, numB_len] <;> omega) | fail)) only [admQ, lenB, lowB_len, numB_len, aFill, AK.cls, implies_true, ↓reduceIte, reduceCtorEq, if_true, if_false, Nat.reduceAdd, Nat.reduceEqDiff, Nat.reduceMod, Nat.reduceLT, Nat.reduceLeDiff, Nat.reduceSub, Nat.reduceMul, Nat.reduceBEq, Int.reduceAdd, Int.reduceSub, Int.reduceMul, Int.reduceNeg, Int.reduceLT, Int.reduceLE, Int.reduceToNat, Int.reduceEq, Int.reduceBEq, beq_eq_false_iff_ne.mpr hq, Bool.not_false, hE3, hB3]
        exact ⟨K3, fun h => absurd h hno⟩
/-- What is told of a sum: ones, and the number. -/
def nsumB (T : List (List B8)) (b : List B8) : List B8 := List.replicate 24 1#8 ++ numB (posN b T)
theorem nsumB_len (T : List (List B8)) (b : List B8) : (nsumB T b).length = 32 := by simp [nsumB, numB_len]
end Go.Proofs.YtmnlmjlmbceimaaGreatDoor
end
section
/- Names: what the statements share. -/
namespace Go.Proofs.YtmnlmjlmbceimaaGreatDoor
open Go Go.Adm
set_option linter.unusedSimpArgs false
set_option linter.unusedVariables false
set_option maxRecDepth 100000
/-- May it be sealed? -/
def mayP (s : Sd) : Prop := within s.1 ∧ within s.2.1
instance (s : Sd) : Decidable (mayP s) := by unfold mayP; infer_instance
theorem nsealB_len (S : List Sd) (s : Sd) : (nsealB S s).length = s.2.2.2.length + 32 := by simp [nsealB, zeros, numB_len]
theorem nopenP_seal {S : List Sd} {e n : Int} {head plain : List B8} (S' : List Sd) (h : fidx (e, n, head, plain) S' = some (posN (e, n, head, plain) S - 1)) : nopenP S' e n head (nsealB S (e, n, head, plain)) ∧ (nsealB S (e, n, head, plain)).take ((nsealB S (e, n, head, plain)).length - 32) = plain := by
  have hl := nsealB_len S (e, n, head, plain)
  simp only at hl
  have e0 : (nsealB S (e, n, head, plain)).length - 32 = plain.length := by omega
  have e1 : (nsealB S (e, n, head, plain)).take plain.length = plain := by simp [nsealB]
  have e2 : (nsealB S (e, n, head, plain)).drop plain.length = zeros 24 ++ numB (posN (e, n, head, plain) S) := by simp [nsealB]
  rw [nopenP, e0, e1]
  refine ⟨⟨by omega, _, h, ?_⟩, rfl⟩
  rw [e2]; rfl
end Go.Proofs.YtmnlmjlmbceimaaGreatDoor
end
section
/- Names: sums are apart just if the texts are. -/
namespace Go.Proofs.YtmnlmjlmbceimaaGreatDoor
open Go Go.Adm
set_option linter.unusedSimpArgs false
set_option linter.unusedVariables false
set_option maxRecDepth 100000
theorem fidx_addself {α : Type} [DecidableEq α] (a : α) (T : List α) : fidx a (addN a T) = some (posN a T - 1) := by
  unfold addN posN
  by_cases h : a ∈ T
  · rw [if_pos h]
    cases hf : fidx a T with
    | none => exact absurd h (fidx_none.mp hf)
    | some i => simp
  · rw [if_neg h, fidx_new h, fidx_none.mpr h]; simp
theorem addN_in {α : Type} [DecidableEq α] {a : α} {T : List α} {n : Nat} (h : fidx a T = some n) : addN a T = T ∧ posN a T = n + 1 :=
  ⟨if_pos (List.mem_of_getElem? (fidx_some h)), by simp [posN, h]⟩
end Go.Proofs.YtmnlmjlmbceimaaGreatDoor
end
section
/- Names: what is sealed stays. -/
namespace Go.Proofs.YtmnlmjlmbceimaaGreatDoor
open Go Go.Adm
set_option linter.unusedSimpArgs false
set_option linter.unusedVariables false
set_option maxRecDepth 100000
/-- What is remembered, and answered, behind a Seal. -/
def sealS2 (S : List Sd) (s : Sd) : List Sd := if mayP s then addN s S else S
def sealR (S : List Sd) (s : Sd) : List B8 := if mayP s then nsealB S s else []
theorem sealR_len (S : List Sd) (s : Sd) : (sealR S s).length ≤ s.2.2.2.length + 32 := by
  unfold sealR; split
  · rw [nsealB_len]; omega
  · simp
/-- Blocks that are none of a Names' own. -/
def Ap (B W : List Nat) : Prop := ∀ b ∈ B, b ∉ W
theorem Ap.new {B W W' : List Nat} {k : Nat} (h : Ap B W) (hW : ∀ b ∈ W', b ∈ W ∨ k ≤ b) (hB : ∀ b ∈ B, b < k) : Ap B W' := fun b hb hw => by
  rcases hW b hw with h1 | h1
  · exact h b hb h1
  · have := hB b hb; omega
theorem Ap.symm {B W : List Nat} (h : Ap B W) : Ap W B := fun b h1 h2 => h b h2 h1
theorem Ap.low {B W : List Nat} {k : Nat} (hB : ∀ b ∈ B, b < k) (hW : ∀ b ∈ W, k ≤ b) : Ap B W := fun b h1 h2 => by
  have := hB b h1
  have := hW b h2
  omega
theorem ans_nseal2 {m : Mem} {x : Nat} {W : List Nat} {S : List Sd} {T : List (List B8)} {hx bx : AV} {s : Sd} (hN : Nm m x W S T) (hh : RdB m hx s.2.2.1) (hb : RdB m bx s.2.2.2)
    (hd : Ap (blkOf bx) W) (hS : S.length ≤ 1000) (hl : s.2.2.1.length ≤ 100000 ∧ s.2.2.2.length ≤ 100000) :
    Ans Tryz.prog 116 [.ptr x 0, .int .i64 s.1, .int .i64 s.2.1, hx, bx] m fun r m' => ∃ W', Kept W m m' ∧ Nm m' x W' (sealS2 S s) T ∧ (∀ b ∈ W', b ∈ W ∨ m.length ≤ b) ∧ GrB m.length m' r (sealR S s) ∧ Ap (blkOf r) W' ∧ ∀ b ∈ blkOf r, m.length ≤ b ∧ b < m'.length := by
  obtain ⟨e, n, head, plain⟩ := s
  refine (ans_nseal hN hh hb hd hS hl).mono fun r m' ⟨h1, h2⟩ => ?_
  by_cases hp : mayP (e, n, head, plain)
  · obtain ⟨W', k, hN', hW, g, d⟩ := h1 hp
    refine ⟨W', k, by rw [sealS2, if_pos hp]; exact hN', hW, by rw [sealR, if_pos hp]; exact g, d, fun b hb => ⟨?_, g.lt b hb⟩⟩
    exact GrA.blk g (by intro h0; have := congrArg List.length h0; rw [List.length_map, nsealB_len] at this; simp at this) b hb
  · obtain ⟨rfl, k⟩ := h2 hp
    exact ⟨W, k.more (by simp), by rw [sealS2, if_neg hp]; exact hN.kept0 k, fun b hb => .inl hb, by rw [sealR, if_neg hp]; exact .nils .., by simp [Ap, blkOf], by simp [blkOf]⟩
end Go.Proofs.YtmnlmjlmbceimaaGreatDoor
end
section
/- Names: nothing is forged. -/
namespace Go.Proofs.YtmnlmjlmbceimaaGreatDoor
open Go Go.Adm
set_option linter.unusedSimpArgs false
set_option linter.unusedVariables false
set_option maxRecDepth 100000
end Go.Proofs.YtmnlmjlmbceimaaGreatDoor
end
section
/- Sectors: numbers as bytes. -/
namespace Go.Proofs.YtmnlmjlmbceimaaGreatDoor
open Go Go.Adm
set_option linter.unusedSimpArgs false
set_option linter.unusedVariables false
/-- The number that bytes are, the highest first. -/
def beN (l : List B8) : Nat := l.foldl (fun a b => a * 256 + b.toNat) 0
theorem beN_snoc (l : List B8) (b : B8) : beN (l ++ [b]) = beN l * 256 + b.toNat := by simp [beN]
theorem snoc_of {l : List B8} {n : Nat} (h : l.length = n + 1) : ∃ l' b, l = l' ++ [b] ∧ l'.length = n := by
  have h0 : l ≠ [] := by rintro rfl; simp at h
  exact ⟨l.dropLast, l.getLast h0, (List.dropLast_concat_getLast h0).symm, by rw [List.length_dropLast]; omega⟩
theorem beN_lt : ∀ (n : Nat) (l : List B8), l.length = n → beN l < 256 ^ n := by
  intro n
  induction n with
  | zero => intro l h; rw [List.length_eq_zero_iff.mp h]; simp [beN]
  | succ n ih =>
    intro l h
    obtain ⟨l, b, rfl, h'⟩ := snoc_of h
    rw [beN_snoc]
    have := ih l h'
    have hb := b.isLt
    rw [Nat.pow_succ]
    omega
theorem byV_next (v k : Nat) : byV v (k + 1) = byV (v >>> 8) k := by
  unfold byV
  rw [← Nat.shiftRight_add]
  congr 2
  omega
theorem byV_zero (v : Nat) : (byV v 0).toNat = v % 256 := by simp [byV]
theorem lowB_succ (v n : Nat) : lowB v (n + 1) = lowB (v >>> 8) n ++ [byV v 0] := by
  rw [lowB, tab_succ]
  congr 1
  · refine tab_ext fun i hi => ?_
    rw [show n + 1 - 1 - i = (n - 1 - i) + 1 by omega, byV_next]
  · rw [show n + 1 - 1 - n = 0 by omega]
theorem beN_lowB : ∀ (n v : Nat), beN (lowB v n) = v % 256 ^ n := by
  intro n
  induction n with
  | zero => intro v; simp [lowB, tab, beN, Nat.mod_one]
  | succ n ih =>
    intro v
    have e : v >>> 8 = v / 256 := Nat.shiftRight_eq_div_pow v 8
    rw [lowB_succ, beN_snoc, ih, byV_zero, e, Nat.pow_succ, Nat.mul_comm (256 ^ n), Nat.mod_mul]
    omega
theorem beN_numB {v : Nat} (h : v < 18446744073709551616) : beN (numB v) = v := by
  rw [numB, beN_lowB]
  exact Nat.mod_eq_of_lt h
/-- The integer that eight bytes are read as. -/
def intB (l : List B8) : Int := IntKind.i64.wrap (beN l : Int)
end Go.Proofs.YtmnlmjlmbceimaaGreatDoor
end
section
/- Numbers as bytes: the program's packing. -/
namespace Go.Proofs.YtmnlmjlmbceimaaGreatDoor
open Go Go.Adm
set_option linter.unusedSimpArgs false
set_option linter.unusedVariables false
set_option maxRecDepth 100000
/-- Bytes that fill a block that was made for them. -/
def OwB (m0 : Nat) (m : Mem) (x : AV) (l : List B8) : Prop := ∃ p, x = .sl p 0 l.length l.length 0 ∧ own m p = some (bys l) ∧ m0 ≤ p
theorem OwB.rd {m0 : Nat} {m : Mem} {x : AV} {l : List B8} (h : OwB m0 m x l) : RdB m x l := by
  obtain ⟨p, rfl, ho, _⟩ := h
  exact RdB.row l.length 0 (rowOf_own ho) (Nat.le_refl _)
theorem OwB.kept {m0 : Nat} {m m' : Mem} {x : AV} {l : List B8} {X : List Nat} (h : OwB m0 m x l) (hk : Kept X m m') (hX : ∀ b ∈ blkOf x, b ∉ X) : OwB m0 m' x l := by
  obtain ⟨p, rfl, ho, h3⟩ := h
  exact ⟨p, rfl, hk.own ho (hX p (by simp [blkOf])), h3⟩
theorem OwB.kept0 {m0 : Nat} {m m' : Mem} {x : AV} {l : List B8} (h : OwB m0 m x l) (hk : Kept [] m m') : OwB m0 m' x l := h.kept hk (by simp)
theorem OwB.low {m0 : Nat} {m : Mem} {x : AV} {l : List B8} (h : OwB m0 m x l) : ∀ b ∈ blkOf x, m0 ≤ b := by
  obtain ⟨p, rfl, _, h⟩ := h
  simpa [blkOf] using h
/-- A slice that may be spoilt: nil, or all of a block of its own. -/
def SPb (m0 : Nat) (m : Mem) (x : AV) (l : List B8) : Prop := (x = .nils ∧ l = []) ∨ ∃ b cap s, x = .sl b 0 l.length cap s ∧ own m b = some (bys l) ∧ m0 ≤ b ∧ l.length ≤ cap ∧ (s = 0 ∨ s = 1)
theorem SPb.rd {m0 : Nat} {m : Mem} {x : AV} {l : List B8} (h : SPb m0 m x l) : RdB m x l := by
  rcases h with ⟨rfl, rfl⟩ | ⟨b, cap, s, rfl, ho, _, hc, hs⟩
  · exact .nils _
  · exact .row cap s (rowOf_own ho) hc hs
theorem SPb.kept {m0 : Nat} {m m' : Mem} {x : AV} {l : List B8} {X : List Nat} (h : SPb m0 m x l) (hk : Kept X m m') (hX : ∀ b ∈ blkOf x, b ∉ X) : SPb m0 m' x l := by
  rcases h with h | ⟨b, cap, s, rfl, ho, h3, h4⟩
  · exact .inl h
  · exact .inr ⟨b, cap, s, rfl, hk.own ho (hX b (by simp [blkOf])), h3, h4⟩
theorem SPb.kept0 {m0 : Nat} {m m' : Mem} {x : AV} {l : List B8} (h : SPb m0 m x l) (hk : Kept [] m m') : SPb m0 m' x l := h.kept hk (by simp)
theorem SPb.low {m0 : Nat} {m : Mem} {x : AV} {l : List B8} (h : SPb m0 m x l) : ∀ b ∈ blkOf x, m0 ≤ b := by
  rcases h with ⟨rfl, _⟩ | ⟨b, cap, s, rfl, ho, h3, h4⟩
  · simp [blkOf]
  · simp only [blkOf, List.mem_singleton]; rintro b rfl; exact h3
theorem SPb.weak {m0 m1 : Nat} {m : Mem} {x : AV} {l : List B8} (h : SPb m0 m x l) (hm : m1 ≤ m0) : SPb m1 m x l := by
  rcases h with h | ⟨b, cap, s, h1, h2, h3, h4⟩
  · exact .inl h
  · exact .inr ⟨b, cap, s, h1, h2, Nat.le_trans hm h3, h4⟩
theorem SPb.gr {m0 m1 : Nat} {m : Mem} {x : AV} {l : List B8} (g : GrB m0 m x l) (h : ∀ q ∈ blkOf x, m1 ≤ q) : SPb m1 m x l := by
  rcases g with ⟨h0, rfl | ⟨b, rfl, ho⟩⟩ | ⟨b, n, h1, h2, rfl, ho, h3⟩
  · exact .inl ⟨rfl, by simpa [bys] using h0⟩
  · obtain rfl : l = [] := by simpa [bys] using h0
    exact .inr ⟨b, 0, 0, rfl, ho, h b (by simp [blkOf]), Nat.le_refl _, .inl rfl⟩
  · have hn : l.length = n := by simpa [bys] using h2
    subst hn
    exact .inr ⟨b, _, 1, rfl, ho, h b (by simp [blkOf]), Nat.le_refl _, .inr rfl⟩
theorem OwB.sp {m0 : Nat} {m : Mem} {x : AV} {l : List B8} (h : OwB m0 m x l) : SPb m0 m x l := by
  obtain ⟨p, rfl, ho, hp⟩ := h
  exact .inr ⟨p, _, 0, rfl, ho, hp, Nat.le_refl _, .inl rfl⟩
/-- Bytes behind bytes that fill their block: a new block. -/
theorem OwB.app {m0 : Nat} {m : Mem} {x y : AV} {l l2 : List B8} (h : OwB m0 m x l) (hy : RdB m y l2) (hb : l.length + l2.length ≤ 1000000000) :
    ∃ x' m', aAppend 1 1 x y m = some (x', m') ∧ Kept [] m m' ∧ RdB m' x' (l ++ l2) ∧ (∀ b ∈ blkOf x', b ∈ blkOf x ∨ m.length ≤ b) ∧ cellsV x' = [x'] ∧ x'.solid = true ∧ SPb m0 m' x' (l ++ l2) := by
  have hr := h.rd
  have hsp := h.sp
  obtain ⟨p, rfl, ho, hp⟩ := h
  by_cases h2 : l2.length = 0
  · obtain rfl : l2 = [] := List.length_eq_zero_iff.mp h2
    exact ⟨_, m, app_none (by rw [hy.lenA]; rfl) rfl, .refl _ _, by rw [List.append_nil]; exact hr, fun b hb => .inl hb, rfl, rfl, by rw [List.append_nil]; exact hsp⟩
  · refine ⟨.sl m.length 0 (l.length + l2.length) (l.length + l2.length) 1, m ++ [.row (bys (l ++ l2)) false], ?_, .app _ _ _, ?_, by simp [blkOf], rfl, rfl, .inr ⟨m.length, _, 1, by rw [List.length_append], by rw [own_app_at0]; rfl, by have := own_lt ho; omega, by rw [List.length_append]; exact Nat.le_refl _, .inr rfl⟩⟩
    · unfold aAppend
      simp only [hy.lenA, Option.bind_some, if_neg h2, hy.elems, if_neg (show ¬ l.length + l2.length ≤ l.length by omega), if_pos (show (l.length + l2.length) * 1 ≤ 1099511627776 ∧ l.length + l2.length ≤ 1099511627776 by omega), hr.elems]
      simp [bys]
    · have := RdB.row (m := m ++ [.row (bys (l ++ l2)) false]) (l := l ++ l2) (b := m.length) (l ++ l2).length 1 (by rw [rowOf_app_at0]; rfl) (Nat.le_refl _)
      rwa [List.length_append] at this
/-- Bytes under way in a block that was made with room for n. -/
def Rm0 (m0 : Nat) (m : Mem) (x : AV) (l : List B8) (n : Nat) : Prop := ∃ p, x = .sl p 0 l.length n 0 ∧ own m p = some (bys (l ++ List.replicate (n - l.length) 0#8)) ∧ m0 ≤ p ∧ l.length ≤ n
theorem Rm0.push {m0 n : Nat} {m : Mem} {x y : AV} {l l2 : List B8} (h : Rm0 m0 m x l n) (hy : RdB m y l2) (hb : l.length + l2.length ≤ n) :
    ∃ x' m', aAppend 1 1 x y m = some (x', m') ∧ Rm0 m0 m' x' (l ++ l2) n ∧ Kept (blkOf x) m m' := by
  by_cases h2 : l2.length = 0
  · obtain rfl : l2 = [] := List.length_eq_zero_iff.mp h2
    refine ⟨x, m, app_none (by rw [hy.lenA]; rfl) ?_, by rwa [List.append_nil], .refl _ _⟩
    obtain ⟨p, rfl, _⟩ := h; rfl
  · obtain ⟨p, rfl, ho, hp, hl⟩ := h
    refine ⟨.sl p 0 (l.length + l2.length) n 0, m.set p (.row (bys (l ++ l2 ++ List.replicate (n - (l.length + l2.length)) 0#8)) false), ?_, ⟨p, by simp, ?_, hp, by simpa using hb⟩, .set1 _ _ _⟩
    · unfold aAppend
      simp only [hy.lenA, Option.bind_some, if_neg h2, hy.elems, if_pos hb, ho, Nat.mul_one, Nat.zero_add]
      rw [if_pos ⟨by simp; omega, by simp⟩]
      congr 3
      congr 1
      rw [splice]
      show List.take l.length ((l ++ List.replicate (n - l.length) 0#8).map b8) ++ l2.map b8 ++ List.drop (l.length + (l2.map b8).length) ((l ++ List.replicate (n - l.length) 0#8).map b8) = _
      rw [← List.map_take, ← List.map_drop, ← List.map_append, ← List.map_append, List.take_left' rfl, List.length_map, List.drop_append, List.drop_replicate, List.drop_of_length_le (by omega), List.nil_append, show n - l.length - (l.length + l2.length - l.length) = n - (l.length + l2.length) by omega]
    · rw [own_set (own_lt ho)]; simp
theorem Rm0.all {m0 n : Nat} {m : Mem} {x : AV} {l : List B8} (h : Rm0 m0 m x l n) (hl : l.length = n) : OwB m0 m x l := by
  obtain ⟨p, rfl, ho, hp, _⟩ := h
  subst hl
  rw [Nat.sub_self] at ho
  simp only [List.replicate_zero, List.append_nil] at ho
  exact ⟨p, rfl, ho, hp⟩
theorem Rm0.low {m0 n : Nat} {m : Mem} {x : AV} {l : List B8} (h : Rm0 m0 m x l n) : ∀ b ∈ blkOf x, m0 ≤ b := by
  obtain ⟨p, rfl, _, hp, _⟩ := h
  simpa [blkOf] using hp
theorem rm0_new (m : Mem) (n : Nat) : Rm0 m.length (m ++ [.row (rep n [.int .u8 0]) false]) (.sl m.length 0 0 n 0) [] n := by
  refine ⟨m.length, rfl, ?_, Nat.le_refl _, Nat.zero_le _⟩
  rw [own_app_at0]
  have hr : rep n [AV.int .u8 0] = bys (List.replicate n 0#8) := by rw [← bys_rep]; simp [rep]
  simp [own_c0, hr]
theorem ans_pbehind {m : Mem} {x y : AV} {l l2 : List B8} (hx : RdB m x l) (hy : RdB m y l2) (hb : l.length + l2.length ≤ 1000000000) :
    Ans Tryz.prog 41 [x, y] m fun r m' => Kept [] m m' ∧ OwB m.length m' r (l ++ l2) := by
  refine ans_ret mixed ok41 ?_
  simp -implicitDefEqProofs (disch := (first | omega | (simp only [lenB, lowB_len, numB_len, nsumB_len] <;> omega) | fail)) only [admQ, lenB, lowB_len, numB_len, nsumB_len, aFill, AK.cls, implies_true, ↓reduceIte, reduceCtorEq, if_true, if_false, Nat.reduceAdd, Nat.reduceEqDiff, Nat.reduceMod, Nat.reduceLT, Nat.reduceLeDiff, Nat.reduceSub, Nat.reduceMul, Nat.reduceBEq, Int.reduceAdd, Int.reduceSub, Int.reduceMul, Int.reduceNeg, Int.reduceLT, Int.reduceLE, Int.reduceToNat, Int.reduceEq, Int.reduceBEq, c41, r41, hx.len, hy.len]
  have k0 := Kept.app [] m [Blk.row (rep (l.length + l2.length) [.int .u8 0]) false]
  have g0 := rm0_new m (l.length + l2.length)
  generalize m ++ [Blk.row (rep (l.length + l2.length) [.int .u8 0]) false] = A at *
  obtain ⟨x1, m1, e1, g1, k1⟩ := g0.push (hx.kept0 k0) (by simp)
  refine someW_eq e1 ?_
  have K1 : Kept [] m m1 := k0.upon k1 g0.low
  obtain ⟨x2, m2, e2, g2, k2⟩ := g1.push (hy.kept0 K1) (by simp)
  simp -implicitDefEqProofs (disch := (first | omega | (simp only [lenB, lowB_len, numB_len, nsumB_len] <;> omega) | fail)) only [admQ, lenB, lowB_len, numB_len, nsumB_len, aFill, AK.cls, implies_true, ↓reduceIte, reduceCtorEq, if_true, if_false, Nat.reduceAdd, Nat.reduceEqDiff, Nat.reduceMod, Nat.reduceLT, Nat.reduceLeDiff, Nat.reduceSub, Nat.reduceMul, Nat.reduceBEq, Int.reduceAdd, Int.reduceSub, Int.reduceMul, Int.reduceNeg, Int.reduceLT, Int.reduceLE, Int.reduceToNat, Int.reduceEq, Int.reduceBEq]
  refine someW_eq e2 ?_
  simp -implicitDefEqProofs (disch := (first | omega | (simp only [lenB, lowB_len, numB_len, nsumB_len] <;> omega) | fail)) only [admQ, lenB, lowB_len, numB_len, nsumB_len, aFill, AK.cls, implies_true, ↓reduceIte, reduceCtorEq, if_true, if_false, Nat.reduceAdd, Nat.reduceEqDiff, Nat.reduceMod, Nat.reduceLT, Nat.reduceLeDiff, Nat.reduceSub, Nat.reduceMul, Nat.reduceBEq, Int.reduceAdd, Int.reduceSub, Int.reduceMul, Int.reduceNeg, Int.reduceLT, Int.reduceLE, Int.reduceToNat, Int.reduceEq, Int.reduceBEq]
  exact ⟨K1.upon k2 g1.low, g2.all (by simp)⟩
theorem ans_peight (v : Nat) (hv : v < 4611686018427387904) (m : Mem) : Ans Tryz.prog 42 [.int .i64 v] m fun r m' => Kept [] m m' ∧ OwB m.length m' r (numB v) := by
  refine ans_ret mixed ok42 ?_
  have hw : ∀ k : Nat, IntKind.u8.wrap ((v >>> (8 * k) : Nat) : Int) = ((byV v k).toNat : Int) := fun k => wrap_u8 _
  have h7 : IntKind.u8.wrap ((v >>> 56 : Nat) : Int) = ((byV v 7).toNat : Int) := hw 7
  have h6 : IntKind.u8.wrap ((v >>> 48 : Nat) : Int) = ((byV v 6).toNat : Int) := hw 6
  have h5 : IntKind.u8.wrap ((v >>> 40 : Nat) : Int) = ((byV v 5).toNat : Int) := hw 5
  have h4 : IntKind.u8.wrap ((v >>> 32 : Nat) : Int) = ((byV v 4).toNat : Int) := hw 4
  have h3 : IntKind.u8.wrap ((v >>> 24 : Nat) : Int) = ((byV v 3).toNat : Int) := hw 3
  have h2 : IntKind.u8.wrap ((v >>> 16 : Nat) : Int) = ((byV v 2).toNat : Int) := hw 2
  have h1 : IntKind.u8.wrap ((v >>> 8 : Nat) : Int) = ((byV v 1).toNat : Int) := hw 1
  have h0 : IntKind.u8.wrap (v : Int) = ((byV v 0).toNat : Int) := hw 0
  simp -implicitDefEqProofs (disch := (first | omega | (simp only [lenB, lowB_len, numB_len, nsumB_len] <;> omega) | fail)) only [admQ, lenB, lowB_len, numB_len, nsumB_len, aFill, AK.cls, implies_true, ↓reduceIte, reduceCtorEq, if_true, if_false, Nat.reduceAdd, Nat.reduceEqDiff, Nat.reduceMod, Nat.reduceLT, Nat.reduceLeDiff, Nat.reduceSub, Nat.reduceMul, Nat.reduceBEq, Int.reduceAdd, Int.reduceSub, Int.reduceMul, Int.reduceNeg, Int.reduceLT, Int.reduceLE, Int.reduceToNat, Int.reduceEq, Int.reduceBEq, c42, r42, fdiv_nat, @nw64, h0, h1, h2, h3, h4, h5, h6, h7]
  exact ⟨.app _ _ _, m.length, by rw [numB_len], by rw [own_app_at0]; rfl, Nat.le_refl _⟩
theorem ans_pint {m : Mem} {x : AV} {l : List B8} (v : Nat) (hv : v < 4611686018427387904) (hx : RdB m x l) (hb : l.length ≤ 900000000) :
    Ans Tryz.prog 23 [x, .int .i64 v] m fun r m' => Kept [] m m' ∧ OwB m.length m' r (l ++ numB v) := by
  refine ans_ret mixed ok23 ?_
  simp -implicitDefEqProofs (disch := (first | omega | (simp only [lenB, lowB_len, numB_len, nsumB_len] <;> omega) | fail)) only [admQ, lenB, lowB_len, numB_len, nsumB_len, aFill, AK.cls, implies_true, ↓reduceIte, reduceCtorEq, if_true, if_false, Nat.reduceAdd, Nat.reduceEqDiff, Nat.reduceMod, Nat.reduceLT, Nat.reduceLeDiff, Nat.reduceSub, Nat.reduceMul, Nat.reduceBEq, Int.reduceAdd, Int.reduceSub, Int.reduceMul, Int.reduceNeg, Int.reduceLT, Int.reduceLE, Int.reduceToNat, Int.reduceEq, Int.reduceBEq, c23, r23]
  refine (ans_peight v hv m).mono ?_
  rintro y m1 ⟨k1, g1⟩
  simp -implicitDefEqProofs (disch := (first | omega | (simp only [lenB, lowB_len, numB_len, nsumB_len] <;> omega) | fail)) only [admQ, lenB, lowB_len, numB_len, nsumB_len, aFill, AK.cls, implies_true, ↓reduceIte, reduceCtorEq, if_true, if_false, Nat.reduceAdd, Nat.reduceEqDiff, Nat.reduceMod, Nat.reduceLT, Nat.reduceLeDiff, Nat.reduceSub, Nat.reduceMul, Nat.reduceBEq, Int.reduceAdd, Int.reduceSub, Int.reduceMul, Int.reduceNeg, Int.reduceLT, Int.reduceLE, Int.reduceToNat, Int.reduceEq, Int.reduceBEq]
  refine (ans_pbehind (hx.kept0 k1) g1.rd (by rw [numB_len]; omega)).mono ?_
  rintro r m2 ⟨k2, g2⟩
  simp -implicitDefEqProofs (disch := (first | omega | (simp only [lenB, lowB_len, numB_len, nsumB_len] <;> omega) | fail)) only [admQ, lenB, lowB_len, numB_len, nsumB_len, aFill, AK.cls, implies_true, ↓reduceIte, reduceCtorEq, if_true, if_false, Nat.reduceAdd, Nat.reduceEqDiff, Nat.reduceMod, Nat.reduceLT, Nat.reduceLeDiff, Nat.reduceSub, Nat.reduceMul, Nat.reduceBEq, Int.reduceAdd, Int.reduceSub, Int.reduceMul, Int.reduceNeg, Int.reduceLT, Int.reduceLE, Int.reduceToNat, Int.reduceEq, Int.reduceBEq]
  obtain ⟨p, e, ho, hp⟩ := g2
  exact ⟨k1.trans k2, p, e, ho, Nat.le_trans k1.len hp⟩
theorem num_step {U : Nat} {b : B8} (h : U < 72057594037927936) :
    IntKind.u64.wrap ((BitVec.ofInt IntKind.u64.bits (IntKind.u64.wrap ((U : Int) * 2 ^ Nat.min 8 IntKind.u64.bits)) ||| BitVec.ofInt IntKind.u64.bits (IntKind.u64.wrap ((BitVec.toNat b : Nat) : Int))).toNat : Int) = ((U * 256 + b.toNat : Nat) : Int) := by
  have hb := b.isLt
  have e0 : (U : Int) * 2 ^ Nat.min 8 IntKind.u64.bits = ((U * 256 : Nat) : Int) := by
    rw [show (2 : Int) ^ Nat.min 8 IntKind.u64.bits = 256 from by decide]; omega
  rw [e0, nw64 (show U * 256 < 18446744073709551616 by omega), nw64 (show b.toNat < 18446744073709551616 by omega)]
  show IntKind.u64.wrap ((BitVec.ofInt 64 ((U * 256 : Nat) : Int) ||| BitVec.ofInt 64 ((b.toNat : Nat) : Int)).toNat : Int) = _
  rw [BitVec.ofInt_natCast, BitVec.ofInt_natCast, BitVec.toNat_or, BitVec.toNat_ofNat, BitVec.toNat_ofNat, Nat.mod_eq_of_lt (show U * 256 < 2 ^ 64 by omega), Nat.mod_eq_of_lt (show b.toNat < 2 ^ 64 by omega)]
  have e1 : U * 256 ||| b.toNat = U * 256 + b.toNat := by
    have := Nat.shiftLeft_add_eq_or_of_lt (i := 8) (b := b.toNat) hb U
    rw [Nat.shiftLeft_eq] at this
    exact this.symm
  rw [e1, nw64 (by omega)]
theorem ans_pnumber {m : Mem} {x : AV} {l : List B8} (hx : RdB m x l) (hl : l.length = 8) : Ans Tryz.prog 46 [x] m fun r m' => r = .int .i64 (intB l) ∧ m' = m := by
  refine ans_ret mixed ok46 ?_
  simp -implicitDefEqProofs (disch := (first | omega | (simp only [lenB, lowB_len, numB_len, nsumB_len] <;> omega) | fail)) only [admQ, lenB, lowB_len, numB_len, nsumB_len, aFill, AK.cls, implies_true, ↓reduceIte, reduceCtorEq, if_true, if_false, Nat.reduceAdd, Nat.reduceEqDiff, Nat.reduceMod, Nat.reduceLT, Nat.reduceLeDiff, Nat.reduceSub, Nat.reduceMul, Nat.reduceBEq, Int.reduceAdd, Int.reduceSub, Int.reduceMul, Int.reduceNeg, Int.reduceLT, Int.reduceLE, Int.reduceToNat, Int.reduceEq, Int.reduceBEq, c46, r46, hx.len]
  refine LoopW.on (fun i : Nat => [(3, .int .u64 (beN (l.take i) : Nat)), (6, x), (7, .int .i64 l.length), (8, .int .i64 i)]) (fun i => l.length - i) (fun i M => i ≤ l.length ∧ M = m) ?_ 0 _ _ rfl ⟨by omega, rfl⟩
  rintro i M X ⟨hi, rfl⟩ hX
  by_cases hlt : i < l.length
  · obtain ⟨b, o, cap, sl, c, rfl, hrow, hat, _⟩ := hx.cons hlt
    have e := hat i hlt
    simp -implicitDefEqProofs (disch := (first | omega | (simp only [lenB, lowB_len, numB_len, nsumB_len] <;> omega) | fail)) only [admQ, lenB, lowB_len, numB_len, nsumB_len, aFill, AK.cls, implies_true, ↓reduceIte, reduceCtorEq, if_true, if_false, Nat.reduceAdd, Nat.reduceEqDiff, Nat.reduceMod, Nat.reduceLT, Nat.reduceLeDiff, Nat.reduceSub, Nat.reduceMul, Nat.reduceBEq, Int.reduceAdd, Int.reduceSub, Int.reduceMul, Int.reduceNeg, Int.reduceLT, Int.reduceLE, Int.reduceToNat, Int.reduceEq, Int.reduceBEq, hrow, e]
    refine hX (i + 1) _ _ ?_ (by omega) ⟨by omega, rfl⟩
    have hlt256 := beN_lt i (l.take i) (by rw [List.length_take]; omega)
    have hp : 256 ^ i ≤ 256 ^ 7 := Nat.pow_le_pow_right (by omega) (by omega)
    rw [num_step (by omega), ← beN_snoc, ← take_gb hlt]
    rfl
  · obtain rfl : i = l.length := by omega
    rw [List.take_length]
    simp -implicitDefEqProofs (disch := (first | omega | (simp only [lenB, lowB_len, numB_len, nsumB_len] <;> omega) | fail)) only [admQ, lenB, lowB_len, numB_len, nsumB_len, aFill, AK.cls, implies_true, ↓reduceIte, reduceCtorEq, if_true, if_false, Nat.reduceAdd, Nat.reduceEqDiff, Nat.reduceMod, Nat.reduceLT, Nat.reduceLeDiff, Nat.reduceSub, Nat.reduceMul, Nat.reduceBEq, Int.reduceAdd, Int.reduceSub, Int.reduceMul, Int.reduceNeg, Int.reduceLT, Int.reduceLE, Int.reduceToNat, Int.reduceEq, Int.reduceBEq]
    rfl
/-- A reader at r: what is left lies in a block of its own; it is not bad. -/
def Rdr (m : Mem) (r : Nat) (l : List B8) : Prop := ∃ p o cap sl B, own m r = some [.sl p o l.length cap sl, .bool false] ∧ own m p = some B ∧ RdB m (.sl p o l.length cap sl) l ∧ p ≠ r
theorem ans_pread {m : Mem} {x : AV} {l : List B8} (hx : RdB m x l) (hb : l.length ≤ 900000000) : Ans Tryz.prog 31 [x] m fun r m' => Kept [] m m' ∧ ∃ p, r = .ptr p 0 ∧ m.length ≤ p ∧ Rdr m' p l := by
  refine ans_ret mixed ok31 ?_
  simp -implicitDefEqProofs (disch := (first | omega | (simp only [lenB, lowB_len, numB_len, nsumB_len] <;> omega) | fail)) only [admQ, lenB, lowB_len, numB_len, nsumB_len, aFill, AK.cls, implies_true, ↓reduceIte, reduceCtorEq, if_true, if_false, Nat.reduceAdd, Nat.reduceEqDiff, Nat.reduceMod, Nat.reduceLT, Nat.reduceLeDiff, Nat.reduceSub, Nat.reduceMul, Nat.reduceBEq, Int.reduceAdd, Int.reduceSub, Int.reduceMul, Int.reduceNeg, Int.reduceLT, Int.reduceLE, Int.reduceToNat, Int.reduceEq, Int.reduceBEq, c31, r31]
  refine (ans_pbehind hx (.nils m) (by simp; omega)).mono ?_
  rintro y m1 ⟨k1, g1⟩
  rw [List.append_nil] at g1
  have hr := g1.rd
  obtain ⟨p, rfl, ho, hp⟩ := g1
  simp -implicitDefEqProofs (disch := (first | omega | (simp only [lenB, lowB_len, numB_len, nsumB_len] <;> omega) | fail)) only [admQ, lenB, lowB_len, numB_len, nsumB_len, aFill, AK.cls, implies_true, ↓reduceIte, reduceCtorEq, if_true, if_false, Nat.reduceAdd, Nat.reduceEqDiff, Nat.reduceMod, Nat.reduceLT, Nat.reduceLeDiff, Nat.reduceSub, Nat.reduceMul, Nat.reduceBEq, Int.reduceAdd, Int.reduceSub, Int.reduceMul, Int.reduceNeg, Int.reduceLT, Int.reduceLE, Int.reduceToNat, Int.reduceEq, Int.reduceBEq]
  have hl := own_lt ho
  have hkl := k1.len
  exact ⟨k1.more_app _, m1.length, rfl, hkl, p, 0, l.length, 0, bys l, by rw [own_app_at0]; rfl, own_app ho _, hr.app _, by omega⟩
theorem ans_print {m : Mem} {r : Nat} {l : List B8} (h : Rdr m r l) (hl : 8 ≤ l.length) : Ans Tryz.prog 32 [.ptr r 0] m fun v m' => v = .int .i64 (intB (l.take 8)) ∧ Kept [r] m m' ∧ Rdr m' r (l.drop 8) := by
  refine ans_ret mixed ok32 ?_
  obtain ⟨p, o, cap, sl, B, h1, h2, h3, h4⟩ := h
  have htk : Ans Tryz.prog 45 [.ptr r 0, .int .i64 8, .fn (.func 46) [] []] m fun v m' => v = .int .i64 (intB (l.take 8)) ∧ Kept [r] m m' ∧ Rdr m' r (l.drop 8) := by
    refine ans_ret mixed ok45 ?_
    obtain ⟨_, _, _, _, cc, e, hrow, hat, hlen, hcap, hsl, htk⟩ := h3.cons (i := 0) (by omega)
    cases e
    have hr := own_lt h1
    have h1' := own_set hr [AV.sl p (o + 8) (l.length - 8) (cap - 8) sl, .bool false]
    simp -implicitDefEqProofs (disch := (first | omega | (simp only [lenB, lowB_len, numB_len, nsumB_len] <;> omega) | fail)) only [admQ, lenB, lowB_len, numB_len, nsumB_len, aFill, AK.cls, implies_true, ↓reduceIte, reduceCtorEq, if_true, if_false, Nat.reduceAdd, Nat.reduceEqDiff, Nat.reduceMod, Nat.reduceLT, Nat.reduceLeDiff, Nat.reduceSub, Nat.reduceMul, Nat.reduceBEq, Int.reduceAdd, Int.reduceSub, Int.reduceMul, Int.reduceNeg, Int.reduceLT, Int.reduceLE, Int.reduceToNat, Int.reduceEq, Int.reduceBEq, c45, r45, rowOf_own h1, h1, rowOf_own h1']
    have kX := Kept.set1 m r (.row [AV.sl p (o + 8) (l.length - 8) (cap - 8) sl, .bool false] false)
    have h38 := h3.kept kX (fun b o n cap s e => by cases e; simpa using h4)
    refine (ans_pnumber (h38.take (k := 8) hl) (by simp; omega)).mono ?_
    rintro _ M ⟨rfl, hM⟩
    subst hM
    simp -implicitDefEqProofs (disch := (first | omega | (simp only [lenB, lowB_len, numB_len, nsumB_len] <;> omega) | fail)) only [admQ, lenB, lowB_len, numB_len, nsumB_len, aFill, AK.cls, implies_true, ↓reduceIte, reduceCtorEq, if_true, if_false, Nat.reduceAdd, Nat.reduceEqDiff, Nat.reduceMod, Nat.reduceLT, Nat.reduceLeDiff, Nat.reduceSub, Nat.reduceMul, Nat.reduceBEq, Int.reduceAdd, Int.reduceSub, Int.reduceMul, Int.reduceNeg, Int.reduceLT, Int.reduceLE, Int.reduceToNat, Int.reduceEq, Int.reduceBEq]
    have hdr := h38.drop (k := 8) hl
    have hld : (l.drop 8).length = l.length - 8 := by simp
    refine ⟨kX, p, o + 8, cap - 8, sl, B, ?_, kX.own h2 (by simpa using h4), ?_, h4⟩
    · rw [hld]; exact h1'
    · rw [hld]; exact hdr
  simp -implicitDefEqProofs (disch := (first | omega | (simp only [lenB, lowB_len, numB_len, nsumB_len] <;> omega) | fail)) only [admQ, lenB, lowB_len, numB_len, nsumB_len, aFill, AK.cls, implies_true, ↓reduceIte, reduceCtorEq, if_true, if_false, Nat.reduceAdd, Nat.reduceEqDiff, Nat.reduceMod, Nat.reduceLT, Nat.reduceLeDiff, Nat.reduceSub, Nat.reduceMul, Nat.reduceBEq, Int.reduceAdd, Int.reduceSub, Int.reduceMul, Int.reduceNeg, Int.reduceLT, Int.reduceLE, Int.reduceToNat, Int.reduceEq, Int.reduceBEq, c32, r32]
  refine htk.mono ?_
  rintro v m' ⟨rfl, h5, h6⟩
  simp -implicitDefEqProofs (disch := (first | omega | (simp only [lenB, lowB_len, numB_len, nsumB_len] <;> omega) | fail)) only [admQ, lenB, lowB_len, numB_len, nsumB_len, aFill, AK.cls, implies_true, ↓reduceIte, reduceCtorEq, if_true, if_false, Nat.reduceAdd, Nat.reduceEqDiff, Nat.reduceMod, Nat.reduceLT, Nat.reduceLeDiff, Nat.reduceSub, Nat.reduceMul, Nat.reduceBEq, Int.reduceAdd, Int.reduceSub, Int.reduceMul, Int.reduceNeg, Int.reduceLT, Int.reduceLE, Int.reduceToNat, Int.reduceEq, Int.reduceBEq]
  exact ⟨h5, h6⟩
end Go.Proofs.YtmnlmjlmbceimaaGreatDoor
end
section
/- Either crypt: a box, or names. -/
namespace Go.Proofs.YtmnlmjlmbceimaaGreatDoor
open Go Go.Adm
set_option linter.unusedSimpArgs false
set_option linter.unusedVariables false
set_option maxRecDepth 100000
/-- What a crypt holds. -/
inductive CyS where
  | box (key : List B8)
  | nm (S : List Sd) (T : List (List B8))
def cyT : CyS → TypeId
  | .box _ => 28
  | .nm _ _ => 45
def cySf : CyS → FuncId
  | .box _ => 100
  | .nm _ _ => 116
def cyOf : CyS → FuncId
  | .box _ => 99
  | .nm _ _ => 115
theorem cym_seal (s : CyS) : methodD Tryz.prog (cyT s) "Seal" = some (cySf s) := by
  cases s
  · show methodD Tryz.prog 28 "Seal" = some 100
    kernel_rfl
  · show methodD Tryz.prog 45 "Seal" = some 116
    kernel_rfl
theorem cym_open (s : CyS) : methodD Tryz.prog (cyT s) "Open" = some (cyOf s) := by
  cases s
  · show methodD Tryz.prog 28 "Open" = some 99
    kernel_rfl
  · show methodD Tryz.prog 45 "Open" = some 115
    kernel_rfl
theorem cyn_seal (s : CyS) (b o : Nat) : pNil [.fn (.method "Seal") [.iface (cyT s) (.ptr b o)] []] = some (.fn (.method "Seal") [.iface (cyT s) (.ptr b o)] []) := by
  cases s <;> rfl
theorem cyn_open (s : CyS) (b o : Nat) : pNil [.fn (.method "Open") [.iface (cyT s) (.ptr b o)] []] = some (.fn (.method "Open") [.iface (cyT s) (.ptr b o)] []) := by
  cases s <;> rfl
/-- A crypt: at x; the blocks W are written, R are read. -/
def Cy (m : Mem) (x : Nat) (W R : List Nat) : CyS → Prop
  | .box key => ∃ c kb k, SBox m x c kb k key ∧ W = [] ∧ R = [x, c, kb, k, 0]
  | .nm S T => Nm m x W S T ∧ R = W
def cyOk : CyS → Nat → Prop
  | .box _, _ => True
  | .nm S _, k => S.length ≤ k
def cyNx (s : CyS) (d : Sd) : CyS := match s with
  | .box key => .box key
  | .nm S T => .nm (sealS2 S d) T
def cySl (s : CyS) (d : Sd) : List B8 := match s with
  | .box key => if mayP d then sealB key d.2.2.1 d.1 d.2.1 d.2.2.2 else []
  | .nm S T => sealR S d
open Classical in
/-- What is opened. -/
noncomputable def cyOp (s : CyS) (e n : Int) (head b : List B8) : Option (List B8) := match s with
  | .box key => if openP key head e n b then some (turnB key e n (b.take (b.length - 32))) else none
  | .nm S T => if nopenP S e n head b then some (b.take (b.length - 32)) else none
theorem Cy.sub {m : Mem} {x : Nat} {W R : List Nat} {s : CyS} (h : Cy m x W R s) : ∀ b ∈ W, b ∈ R := by
  cases s with
  | box key => obtain ⟨c, kb, k, _, rfl, _⟩ := h; simp
  | nm S T => obtain ⟨_, rfl⟩ := h; exact fun _ h => h
theorem Cy.lt {m : Mem} {x : Nat} {W R : List Nat} {s : CyS} (h : Cy m x W R s) : ∀ b ∈ R, b < m.length := by
  cases s with
  | box key =>
    obtain ⟨c, kb, k, hs, _, rfl⟩ := h
    have h1 := rowOf_lt hs.hd
    have h2 := rowOf_lt hs.au
    have h3 := rowOf_lt hs.kT
    have h4 := rowOf_lt hs.ci.hd
    have h5 := rowOf_lt hs.ci.keys
    simp only [List.mem_cons, List.not_mem_nil, or_false]
    rintro b (rfl | rfl | rfl | rfl | rfl) <;> assumption
  | nm S T => obtain ⟨h, rfl⟩ := h; exact h.lt
theorem Cy.kept {m m' : Mem} {x : Nat} {W R X : List Nat} {s : CyS} (h : Cy m x W R s) (hk : Kept X m m') (hX : ∀ b ∈ R, b ∉ X) : Cy m' x W R s := by
  cases s with
  | box key =>
    obtain ⟨c, kb, k, hs, rfl, rfl⟩ := h
    exact ⟨c, kb, k, hs.kept hk ⟨hX x (by simp), hX c (by simp), hX kb (by simp), hX k (by simp), hX 0 (by simp)⟩, rfl, rfl⟩
  | nm S T => obtain ⟨h, rfl⟩ := h; exact ⟨h.kept hk hX, rfl⟩
theorem Cy.kept0 {m m' : Mem} {x : Nat} {W R : List Nat} {s : CyS} (h : Cy m x W R s) (hk : Kept [] m m') : Cy m' x W R s := h.kept hk (by simp)
theorem cySl_len (s : CyS) (d : Sd) : (cySl s d).length ≤ d.2.2.2.length + 32 := by
  cases s with
  | box key =>
    simp only [cySl]
    split
    · rw [sealB_len]; omega
    · simp
  | nm S T => exact sealR_len S d
theorem ans_cyseal {m : Mem} {x : Nat} {W R : List Nat} {s : CyS} {d : Sd} {hx bx : AV} (hC : Cy m x W R s) (hh : RdB m hx d.2.2.1) (hb : RdB m bx d.2.2.2) (hd : ∀ b ∈ blkOf bx, b ∉ W) (hk : cyOk s 1000) (hl : d.2.2.1.length ≤ 100000 ∧ d.2.2.2.length ≤ 100000) :
    Ans Tryz.prog (cySf s) [.ptr x 0, .int .i64 d.1, .int .i64 d.2.1, hx, bx] m fun r m' => ∃ W' R', Kept W m m' ∧ Cy m' x W' R' (cyNx s d) ∧ (∀ b ∈ R', b ∈ R ∨ m.length ≤ b) ∧ GrB m.length m' r (cySl s d) ∧ ∀ b ∈ blkOf r, m.length ≤ b ∧ b ∉ R' := by
  cases s with
  | box key =>
    have hlt := hC.lt
    obtain ⟨c, kb, k, hs, rfl, rfl⟩ := hC
    refine (ans_seseal (e := d.1) (n := d.2.1) hs hh hb hl).mono ?_
    rintro r m' ⟨k1, h1, h2⟩
    refine ⟨[], [x, c, kb, k, 0], k1, ⟨c, kb, k, hs.kept0 k1, rfl, rfl⟩, fun b hb => .inl hb, ?_⟩
    simp only [cySl]
    by_cases hp : mayP d
    · have hp' : placedP d.1 d.2.1 := hp
      have g := h1 hp'
      have hlow := GrA.blk g (by intro h0; have := congrArg List.length h0; rw [bys_len, sealB_len] at this; simp at this)
      rw [if_pos hp]
      exact ⟨g, fun b hb => ⟨hlow b hb, fun h => by have := hlt b h; have := hlow b hb; omega⟩⟩
    · rw [if_neg hp, h2 hp]
      exact ⟨.nils .., by simp [blkOf]⟩
  | nm S T =>
    obtain ⟨hN, rfl⟩ := hC
    refine (ans_nseal2 hN hh hb hd hk hl).mono ?_
    rintro r m' ⟨W', k1, hN', hW, g, ap, lo⟩
    exact ⟨W', W', k1, ⟨hN', rfl⟩, hW, g, fun b hb => ⟨(lo b hb).1, ap b hb⟩⟩
theorem ans_cyopenS {m : Mem} {x : Nat} {W R : List Nat} {s : CyS} {e n : Int} {head b : List B8} {hx bx : AV} (hC : Cy m x W R s) (hh : RdB m hx head) (hb : RdB m bx b) (hk : cyOk s 1000) (hl : head.length ≤ 100000 ∧ b.length ≤ 100000) :
    Ans Tryz.prog (cyOf s) [.ptr x 0, .int .i64 e, .int .i64 n, hx, bx] m fun r m' => Kept [] m m' ∧ ∃ v, r = .tup [v, .bool (cyOp s e n head b).isSome] ∧ SPb m.length m' v ((cyOp s e n head b).getD []) := by
  cases s with
  | box key =>
    obtain ⟨c, kb, k, hs, rfl, rfl⟩ := hC
    refine (ans_seopen (e := e) (n := n) hs hh hb hl).mono ?_
    rintro r m' ⟨k1, h1, h2⟩
    refine ⟨k1, ?_⟩
    simp only [cyOp]
    by_cases hp : openP key head e n b
    · obtain ⟨p, hp1, rfl, ho⟩ := h1 hp
      rw [if_pos hp]
      have hl8 : (turnB key e n (b.take (b.length - 32))).length = b.length - 32 := by rw [turnB_len]; simp
      have hrd := RdB.row (l := turnB key e n (b.take (b.length - 32))) (b.length - 32) 0 (rowOf_own ho) (by omega)
      rw [hl8] at hrd
      exact ⟨_, rfl, .inr ⟨p, _, 0, by rw [Option.getD_some, hl8], ho, hp1, by rw [Option.getD_some, hl8]; exact Nat.le_refl _, .inl rfl⟩⟩
    · rw [if_neg hp]
      exact ⟨.nils, h2 hp, .inl ⟨rfl, rfl⟩⟩
  | nm S T =>
    obtain ⟨hN, rfl⟩ := hC
    refine (ans_nopen (e := e) (n := n) hN hh hb hk hl).mono ?_
    rintro r m' ⟨k1, h1, h2⟩
    refine ⟨k1, ?_⟩
    simp only [cyOp]
    by_cases hp : nopenP S e n head b
    · obtain ⟨v, rfl, g, hv⟩ := h1 hp
      rw [if_pos hp]
      exact ⟨v, rfl, .gr g hv⟩
    · rw [if_neg hp]
      exact ⟨.nils, h2 hp, .inl ⟨rfl, rfl⟩⟩
end Go.Proofs.YtmnlmjlmbceimaaGreatDoor
end
section
/- Sectors: put and got, with either crypt. -/
namespace Go.Proofs.YtmnlmjlmbceimaaGreatDoor
open Go Go.Adm
set_option linter.unusedSimpArgs false
set_option linter.unusedVariables false
set_option maxRecDepth 100000
/-- A sector: its kind, epoch, number, place, plain text. -/
structure Sec where
  k : Int
  e : Int
  n : Int
  a : Int
  p : List B8
deriving DecidableEq
def secV (s : Sec) (v : AV) : AV := .agg [.int .i64 s.k, .int .i64 s.e, .int .i64 s.n, .int .i64 s.a, v]
def rightP (e n a : Int) : Prop := (0 ≤ e ∧ 0 ≤ n ∧ 0 ≤ a) ∧ (e ≤ 1099511627776 ∧ n ≤ 1099511627776) ∧ a < 4096
instance (e n a : Int) : Decidable (rightP e n a) := by unfold rightP; infer_instance
theorem ans_scright (e n a : Int) (m : Mem) : Ans Tryz.prog 22 [.int .i64 e, .int .i64 n, .int .i64 a] m fun r m' => r = .bool (decide (rightP e n a)) ∧ m' = m := by
  refine ans_ret mixed ok22 ?_
  by_cases h1 : min (min e n) a ≥ 0
  · have hmx : (if n > e then n else e) = max e n := by omega
    by_cases h2 : max e n ≤ 1099511627776
    · by_cases h3 : a < 4096
      · simp -implicitDefEqProofs (disch := (first | omega | (simp only [lenB, lowB_len, numB_len, nsumB_len] <;> omega) | fail)) only [admQ, lenB, lowB_len, numB_len, nsumB_len, aFill, AK.cls, implies_true, ↓reduceIte, reduceCtorEq, if_true, if_false, Nat.reduceAdd, Nat.reduceEqDiff, Nat.reduceMod, Nat.reduceLT, Nat.reduceLeDiff, Nat.reduceSub, Nat.reduceMul, Nat.reduceBEq, Int.reduceAdd, Int.reduceSub, Int.reduceMul, Int.reduceNeg, Int.reduceLT, Int.reduceLE, Int.reduceToNat, Int.reduceEq, Int.reduceBEq, c22, r22, dec_t h1, hmx, dec_t h2, dec_t h3, dec_t (show rightP e n a from ⟨by omega, by omega, h3⟩)]
      · simp -implicitDefEqProofs (disch := (first | omega | (simp only [lenB, lowB_len, numB_len, nsumB_len] <;> omega) | fail)) only [admQ, lenB, lowB_len, numB_len, nsumB_len, aFill, AK.cls, implies_true, ↓reduceIte, reduceCtorEq, if_true, if_false, Nat.reduceAdd, Nat.reduceEqDiff, Nat.reduceMod, Nat.reduceLT, Nat.reduceLeDiff, Nat.reduceSub, Nat.reduceMul, Nat.reduceBEq, Int.reduceAdd, Int.reduceSub, Int.reduceMul, Int.reduceNeg, Int.reduceLT, Int.reduceLE, Int.reduceToNat, Int.reduceEq, Int.reduceBEq, c22, r22, dec_t h1, hmx, dec_t h2, dec_f h3, dec_f (show ¬ rightP e n a from fun h => h3 h.2.2)]
    · simp -implicitDefEqProofs (disch := (first | omega | (simp only [lenB, lowB_len, numB_len, nsumB_len] <;> omega) | fail)) only [admQ, lenB, lowB_len, numB_len, nsumB_len, aFill, AK.cls, implies_true, ↓reduceIte, reduceCtorEq, if_true, if_false, Nat.reduceAdd, Nat.reduceEqDiff, Nat.reduceMod, Nat.reduceLT, Nat.reduceLeDiff, Nat.reduceSub, Nat.reduceMul, Nat.reduceBEq, Int.reduceAdd, Int.reduceSub, Int.reduceMul, Int.reduceNeg, Int.reduceLT, Int.reduceLE, Int.reduceToNat, Int.reduceEq, Int.reduceBEq, c22, r22, dec_t h1, hmx, dec_f h2, dec_f (show ¬ rightP e n a from fun h => h2 (by have := h.2.1; omega))]
  · simp -implicitDefEqProofs (disch := (first | omega | (simp only [lenB, lowB_len, numB_len, nsumB_len] <;> omega) | fail)) only [admQ, lenB, lowB_len, numB_len, nsumB_len, aFill, AK.cls, implies_true, ↓reduceIte, reduceCtorEq, if_true, if_false, Nat.reduceAdd, Nat.reduceEqDiff, Nat.reduceMod, Nat.reduceLT, Nat.reduceLeDiff, Nat.reduceSub, Nat.reduceMul, Nat.reduceBEq, Int.reduceAdd, Int.reduceSub, Int.reduceMul, Int.reduceNeg, Int.reduceLT, Int.reduceLE, Int.reduceToNat, Int.reduceEq, Int.reduceBEq, c22, r22, dec_f h1, dec_f (show ¬ rightP e n a from fun h => h1 (by have := h.1; omega))]
def kB (k : Int) : B8 := BitVec.ofInt 8 k
/-- What is sealed with a plain text. -/
def headB (k : Int) (a : Nat) : List B8 := kB k :: numB a
theorem headB_len (k : Int) (a : Nat) : (headB k a).length = 9 := by simp [headB, numB_len]
theorem ans_schead (k : Int) (a : Nat) (ha : a < 4611686018427387904) (m : Mem) : Ans Tryz.prog 24 [.int .i64 k, .int .i64 a] m fun r m' => Kept [] m m' ∧ OwB m.length m' r (headB k a) := by
  refine ans_ret mixed ok24 ?_
  have hw : IntKind.u8.wrap k = ((kB k).toNat : Int) := wr_u8 k
  simp -implicitDefEqProofs (disch := (first | omega | (simp only [lenB, lowB_len, numB_len, nsumB_len] <;> omega) | fail)) only [admQ, lenB, lowB_len, numB_len, nsumB_len, aFill, AK.cls, implies_true, ↓reduceIte, reduceCtorEq, if_true, if_false, Nat.reduceAdd, Nat.reduceEqDiff, Nat.reduceMod, Nat.reduceLT, Nat.reduceLeDiff, Nat.reduceSub, Nat.reduceMul, Nat.reduceBEq, Int.reduceAdd, Int.reduceSub, Int.reduceMul, Int.reduceNeg, Int.reduceLT, Int.reduceLE, Int.reduceToNat, Int.reduceEq, Int.reduceBEq, c24, r24, hw]
  have hr := RdB.row (m := m ++ [Blk.row [b8 (kB k)] false]) (l := [kB k]) 1 0 (rowOf_app_at0 m _) (by simp)
  refine (ans_pint a ha hr (by simp)).mono ?_
  rintro r m' ⟨h1, p, h2, h3, h4⟩
  simp -implicitDefEqProofs (disch := (first | omega | (simp only [lenB, lowB_len, numB_len, nsumB_len] <;> omega) | fail)) only [admQ, lenB, lowB_len, numB_len, nsumB_len, aFill, AK.cls, implies_true, ↓reduceIte, reduceCtorEq, if_true, if_false, Nat.reduceAdd, Nat.reduceEqDiff, Nat.reduceMod, Nat.reduceLT, Nat.reduceLeDiff, Nat.reduceSub, Nat.reduceMul, Nat.reduceBEq, Int.reduceAdd, Int.reduceSub, Int.reduceMul, Int.reduceNeg, Int.reduceLT, Int.reduceLE, Int.reduceToNat, Int.reduceEq, Int.reduceBEq]
  rw [List.length_append] at h4
  exact ⟨(Kept.app [] m _).trans h1, p, h2, h3, by omega⟩
theorem ans_samesector {m : Mem} {s t : Sec} {v w : AV} (hv : RdB m v s.p) (hw : RdB m w t.p) (hl : s.p.length ≤ 1000000) : Ans Tryz.prog 13 [secV s v, secV t w] m fun r m' => r = .bool (decide (s = t)) ∧ Kept [] m m' := by
  refine ans_ret mixed ok13 ?_
  unfold secV
  have kA := Kept.app [] m [Blk.row [.int .i64 s.k, .int .i64 s.e, .int .i64 s.n, .int .i64 s.a, v] false, Blk.row [.int .i64 t.k, .int .i64 t.e, .int .i64 t.n, .int .i64 t.a, w] false]
  have ne : ∀ P : Prop, (s = t → P) → ¬ P → ¬ s = t := fun P h1 h2 h => h2 (h1 h)
  by_cases h1 : s.k = t.k
  · by_cases h2 : s.e = t.e
    · by_cases h3 : s.n = t.n
      · by_cases h4 : s.a = t.a
        · simp -implicitDefEqProofs (disch := (first | omega | (simp only [lenB, lowB_len, numB_len, nsumB_len] <;> omega) | fail)) only [admQ, lenB, lowB_len, numB_len, nsumB_len, aFill, AK.cls, implies_true, ↓reduceIte, reduceCtorEq, if_true, if_false, Nat.reduceAdd, Nat.reduceEqDiff, Nat.reduceMod, Nat.reduceLT, Nat.reduceLeDiff, Nat.reduceSub, Nat.reduceMul, Nat.reduceBEq, Int.reduceAdd, Int.reduceSub, Int.reduceMul, Int.reduceNeg, Int.reduceLT, Int.reduceLE, Int.reduceToNat, Int.reduceEq, Int.reduceBEq, c13, r13, (rd_one hv).1, (rd_one hv).2, (rd_one hw).1, (rd_one hw).2, beq_iff_eq.mpr h1, beq_iff_eq.mpr h2, beq_iff_eq.mpr h3, beq_iff_eq.mpr h4]
          refine (ans_samebytes (hv.app _) (hw.app _) (by omega)).mono ?_
          rintro _ M ⟨rfl, hM⟩
          subst hM
          simp -implicitDefEqProofs (disch := (first | omega | (simp only [lenB, lowB_len, numB_len, nsumB_len] <;> omega) | fail)) only [admQ, lenB, lowB_len, numB_len, nsumB_len, aFill, AK.cls, implies_true, ↓reduceIte, reduceCtorEq, if_true, if_false, Nat.reduceAdd, Nat.reduceEqDiff, Nat.reduceMod, Nat.reduceLT, Nat.reduceLeDiff, Nat.reduceSub, Nat.reduceMul, Nat.reduceBEq, Int.reduceAdd, Int.reduceSub, Int.reduceMul, Int.reduceNeg, Int.reduceLT, Int.reduceLE, Int.reduceToNat, Int.reduceEq, Int.reduceBEq]
          refine ⟨?_, kA⟩
          by_cases h5 : s.p = t.p
          · have : s = t := by
              obtain ⟨a1, a2, a3, a4, a5⟩ := s
              obtain ⟨b1, b2, b3, b4, b5⟩ := t
              simp_all
            rw [dec_t this, h5]; simp
          · rw [dec_f (ne _ (fun h => by rw [h]) h5), beq_eq_false_iff_ne.mpr h5]
        · simp -implicitDefEqProofs (disch := (first | omega | (simp only [lenB, lowB_len, numB_len, nsumB_len] <;> omega) | fail)) only [admQ, lenB, lowB_len, numB_len, nsumB_len, aFill, AK.cls, implies_true, ↓reduceIte, reduceCtorEq, if_true, if_false, Nat.reduceAdd, Nat.reduceEqDiff, Nat.reduceMod, Nat.reduceLT, Nat.reduceLeDiff, Nat.reduceSub, Nat.reduceMul, Nat.reduceBEq, Int.reduceAdd, Int.reduceSub, Int.reduceMul, Int.reduceNeg, Int.reduceLT, Int.reduceLE, Int.reduceToNat, Int.reduceEq, Int.reduceBEq, c13, r13, (rd_one hv).1, (rd_one hv).2, (rd_one hw).1, (rd_one hw).2, beq_iff_eq.mpr h1, beq_iff_eq.mpr h2, beq_iff_eq.mpr h3, beq_eq_false_iff_ne.mpr h4, dec_f (ne _ (fun h => by rw [h]) h4)]
          exact kA
      · simp -implicitDefEqProofs (disch := (first | omega | (simp only [lenB, lowB_len, numB_len, nsumB_len] <;> omega) | fail)) only [admQ, lenB, lowB_len, numB_len, nsumB_len, aFill, AK.cls, implies_true, ↓reduceIte, reduceCtorEq, if_true, if_false, Nat.reduceAdd, Nat.reduceEqDiff, Nat.reduceMod, Nat.reduceLT, Nat.reduceLeDiff, Nat.reduceSub, Nat.reduceMul, Nat.reduceBEq, Int.reduceAdd, Int.reduceSub, Int.reduceMul, Int.reduceNeg, Int.reduceLT, Int.reduceLE, Int.reduceToNat, Int.reduceEq, Int.reduceBEq, c13, r13, (rd_one hv).1, (rd_one hv).2, (rd_one hw).1, (rd_one hw).2, beq_iff_eq.mpr h1, beq_iff_eq.mpr h2, beq_eq_false_iff_ne.mpr h3, dec_f (ne _ (fun h => by rw [h]) h3)]
        exact kA
    · simp -implicitDefEqProofs (disch := (first | omega | (simp only [lenB, lowB_len, numB_len, nsumB_len] <;> omega) | fail)) only [admQ, lenB, lowB_len, numB_len, nsumB_len, aFill, AK.cls, implies_true, ↓reduceIte, reduceCtorEq, if_true, if_false, Nat.reduceAdd, Nat.reduceEqDiff, Nat.reduceMod, Nat.reduceLT, Nat.reduceLeDiff, Nat.reduceSub, Nat.reduceMul, Nat.reduceBEq, Int.reduceAdd, Int.reduceSub, Int.reduceMul, Int.reduceNeg, Int.reduceLT, Int.reduceLE, Int.reduceToNat, Int.reduceEq, Int.reduceBEq, c13, r13, (rd_one hv).1, (rd_one hv).2, (rd_one hw).1, (rd_one hw).2, beq_iff_eq.mpr h1, beq_eq_false_iff_ne.mpr h2, dec_f (ne _ (fun h => by rw [h]) h2)]
      exact kA
  · simp -implicitDefEqProofs (disch := (first | omega | (simp only [lenB, lowB_len, numB_len, nsumB_len] <;> omega) | fail)) only [admQ, lenB, lowB_len, numB_len, nsumB_len, aFill, AK.cls, implies_true, ↓reduceIte, reduceCtorEq, if_true, if_false, Nat.reduceAdd, Nat.reduceEqDiff, Nat.reduceMod, Nat.reduceLT, Nat.reduceLeDiff, Nat.reduceSub, Nat.reduceMul, Nat.reduceBEq, Int.reduceAdd, Int.reduceSub, Int.reduceMul, Int.reduceNeg, Int.reduceLT, Int.reduceLE, Int.reduceToNat, Int.reduceEq, Int.reduceBEq, c13, r13, (rd_one hv).1, (rd_one hv).2, (rd_one hw).1, (rd_one hw).2, beq_eq_false_iff_ne.mpr h1, dec_f (ne _ (fun h => by rw [h]) h1)]
    exact kA
/-- The kind that bytes claim. -/
def kindB (b : List B8) : Int := if b.length < 17 ∨ (gb b 0).toNat < 1 ∨ 5 < (gb b 0).toNat then 0 else (gb b 0).toNat
theorem ans_sckind {m : Mem} {x : AV} {b : List B8} (hb : RdB m x b) : Ans Tryz.prog 14 [x] m fun r m' => r = .int .i64 (kindB b) ∧ m' = m := by
  refine ans_ret mixed ok14 ?_
  have hbl := (gb b 0).isLt
  unfold kindB
  by_cases h1 : b.length < 17
  · rw [if_pos (.inl h1)]
    simp -implicitDefEqProofs (disch := (first | omega | (simp only [lenB, lowB_len, numB_len, nsumB_len] <;> omega) | fail)) only [admQ, lenB, lowB_len, numB_len, nsumB_len, aFill, AK.cls, implies_true, ↓reduceIte, reduceCtorEq, if_true, if_false, Nat.reduceAdd, Nat.reduceEqDiff, Nat.reduceMod, Nat.reduceLT, Nat.reduceLeDiff, Nat.reduceSub, Nat.reduceMul, Nat.reduceBEq, Int.reduceAdd, Int.reduceSub, Int.reduceMul, Int.reduceNeg, Int.reduceLT, Int.reduceLE, Int.reduceToNat, Int.reduceEq, Int.reduceBEq, c14, r14, hb.len, dec_t (show (b.length : Int) < 17 by omega)]
  · obtain ⟨q, o, cap, sl, cc, rfl, hrow, hat, _⟩ := hb.cons (i := 0) (by omega)
    have e0 := hat 0 (by omega)
    simp only [Nat.add_zero] at e0
    by_cases h2 : (gb b 0).toNat < 1
    · rw [if_pos (.inr (.inl h2))]
      simp -implicitDefEqProofs (disch := (first | omega | (simp only [lenB, lowB_len, numB_len, nsumB_len] <;> omega) | fail)) only [admQ, lenB, lowB_len, numB_len, nsumB_len, aFill, AK.cls, implies_true, ↓reduceIte, reduceCtorEq, if_true, if_false, Nat.reduceAdd, Nat.reduceEqDiff, Nat.reduceMod, Nat.reduceLT, Nat.reduceLeDiff, Nat.reduceSub, Nat.reduceMul, Nat.reduceBEq, Int.reduceAdd, Int.reduceSub, Int.reduceMul, Int.reduceNeg, Int.reduceLT, Int.reduceLE, Int.reduceToNat, Int.reduceEq, Int.reduceBEq, c14, r14, hrow, e0, dec_f (show ¬ (b.length : Int) < 17 by omega), dec_t (show ((gb b 0).toNat : Int) < 1 by omega)]
    · by_cases h3 : 5 < (gb b 0).toNat
      · rw [if_pos (.inr (.inr h3))]
        simp -implicitDefEqProofs (disch := (first | omega | (simp only [lenB, lowB_len, numB_len, nsumB_len] <;> omega) | fail)) only [admQ, lenB, lowB_len, numB_len, nsumB_len, aFill, AK.cls, implies_true, ↓reduceIte, reduceCtorEq, if_true, if_false, Nat.reduceAdd, Nat.reduceEqDiff, Nat.reduceMod, Nat.reduceLT, Nat.reduceLeDiff, Nat.reduceSub, Nat.reduceMul, Nat.reduceBEq, Int.reduceAdd, Int.reduceSub, Int.reduceMul, Int.reduceNeg, Int.reduceLT, Int.reduceLE, Int.reduceToNat, Int.reduceEq, Int.reduceBEq, c14, r14, hrow, e0, dec_f (show ¬ (b.length : Int) < 17 by omega), dec_f (show ¬ ((gb b 0).toNat : Int) < 1 by omega), dec_t (show ((gb b 0).toNat : Int) > 5 by omega)]
      · rw [if_neg (by omega)]
        simp -implicitDefEqProofs (disch := (first | omega | (simp only [lenB, lowB_len, numB_len, nsumB_len] <;> omega) | fail)) only [admQ, lenB, lowB_len, numB_len, nsumB_len, aFill, AK.cls, implies_true, ↓reduceIte, reduceCtorEq, if_true, if_false, Nat.reduceAdd, Nat.reduceEqDiff, Nat.reduceMod, Nat.reduceLT, Nat.reduceLeDiff, Nat.reduceSub, Nat.reduceMul, Nat.reduceBEq, Int.reduceAdd, Int.reduceSub, Int.reduceMul, Int.reduceNeg, Int.reduceLT, Int.reduceLE, Int.reduceToNat, Int.reduceEq, Int.reduceBEq, c14, r14, hrow, e0, dec_f (show ¬ (b.length : Int) < 17 by omega), dec_f (show ¬ ((gb b 0).toNat : Int) < 1 by omega), dec_f (show ¬ ((gb b 0).toNat : Int) > 5 by omega), wrap_i64 (show (-9223372036854775808 : Int) ≤ ((gb b 0).toNat : Int) by omega) (show ((gb b 0).toNat : Int) < 9223372036854775808 by omega)]
end Go.Proofs.YtmnlmjlmbceimaaGreatDoor
end
section
/- Sectors: put. -/
namespace Go.Proofs.YtmnlmjlmbceimaaGreatDoor
open Go Go.Adm
set_option linter.unusedSimpArgs false
set_option linter.unusedVariables false
set_option maxRecDepth 100000
def okP (s : Sec) : Prop := (1 ≤ s.k ∧ s.k ≤ 5) ∧ rightP s.e s.n s.a ∧ s.p.length ≤ 975
instance (s : Sec) : Decidable (okP s) := by unfold okP; infer_instance
def errP (s : Sec) : Int := if s.k < 1 ∨ s.k > 5 then 5 else if ¬ rightP s.e s.n s.a then 7 else if s.p.length > 975 then 3 else 0
theorem errP_ok (s : Sec) : errP s = 0 ↔ okP s := by
  unfold errP okP
  constructor
  · intro h
    split at h
    · cases h
    · split at h
      · cases h
      · split at h
        · cases h
        · rename_i h1 h2 h3
          exact ⟨by omega, Decidable.not_not.mp h2, by omega⟩
  · rintro ⟨h1, h2, h3⟩
    rw [if_neg (by omega), if_neg (by simpa using h2), if_neg (by omega)]
/-- What is sealed of a sector. -/
def secD (s : Sec) : Sd := (s.e, s.n, headB s.k s.a.toNat, s.p)
def putB (c : CyS) (s : Sec) : List B8 := (kB s.k :: numB s.e.toNat) ++ numB s.n.toNat ++ cySl c (secD s)
def putL (c : CyS) (s : Sec) : List B8 := if okP s then putB c s else []
def putC (c : CyS) (s : Sec) : CyS := if okP s then cyNx c (secD s) else c
theorem ans_scputS {m : Mem} {x : Nat} {W R : List Nat} {c : CyS} {s : Sec} {v : AV} (hC : Cy m x W R c) (hv : RdB m v s.p) (hd : ∀ b ∈ blkOf v, b ∉ W) (hk : cyOk c 1000) (hl : s.p.length ≤ 100000) :
    Ans Tryz.prog 8 [.iface (cyT c) (.ptr x 0), secV s v] m fun r m' => ∃ W' R' w, Kept W m m' ∧ Cy m' x W' R' (putC c s) ∧ (∀ b ∈ R', b ∈ R ∨ m.length ≤ b) ∧ r = .tup [w, .int .i64 (errP s)] ∧ SPb m.length m' w (putL c s) ∧ ∀ b ∈ blkOf w, m.length ≤ b ∧ b ∉ R' := by
  refine ans_ret mixed ok8 ?_
  unfold secV
  have hno : ∀ (m' : Mem) (er : Int), ¬ okP s → errP s = er → Kept [] m m' → ∃ W' R' w, Kept W m m' ∧ Cy m' x W' R' (putC c s) ∧ (∀ b ∈ R', b ∈ R ∨ m.length ≤ b) ∧ AV.tup [.nils, .int .i64 er] = .tup [w, .int .i64 (errP s)] ∧ SPb m.length m' w (putL c s) ∧ ∀ b ∈ blkOf w, m.length ≤ b ∧ b ∉ R'   := fun m' er hn he hk =>
    ⟨W, R, .nils, hk.more (by simp), by rw [putC, if_neg hn]; exact hC.kept0 hk, fun b hb => .inl hb, by rw [he], by rw [putL, if_neg hn]; exact .inl ⟨rfl, rfl⟩, by simp [blkOf]⟩
  by_cases h1 : s.k < 1
  · have he : errP s = 5 := by rw [errP, if_pos (.inl h1)]
    have hn : ¬ okP s := fun h => by have := h.1; omega
    simp -implicitDefEqProofs (disch := (first | omega | (simp only [lenB, lowB_len, numB_len, nsumB_len] <;> omega) | fail)) only [admQ, lenB, lowB_len, numB_len, nsumB_len, aFill, AK.cls, implies_true, ↓reduceIte, reduceCtorEq, if_true, if_false, Nat.reduceAdd, Nat.reduceEqDiff, Nat.reduceMod, Nat.reduceLT, Nat.reduceLeDiff, Nat.reduceSub, Nat.reduceMul, Nat.reduceBEq, Int.reduceAdd, Int.reduceSub, Int.reduceMul, Int.reduceNeg, Int.reduceLT, Int.reduceLE, Int.reduceToNat, Int.reduceEq, Int.reduceBEq, c8, r8, dec_t h1, (rd_one hv).1, (rd_one hv).2]
    exact hno _ _ hn he (.app _ _ _)
  by_cases h2 : s.k > 5
  · have he : errP s = 5 := by rw [errP, if_pos (.inr h2)]
    have hn : ¬ okP s := fun h => by have := h.1; omega
    simp -implicitDefEqProofs (disch := (first | omega | (simp only [lenB, lowB_len, numB_len, nsumB_len] <;> omega) | fail)) only [admQ, lenB, lowB_len, numB_len, nsumB_len, aFill, AK.cls, implies_true, ↓reduceIte, reduceCtorEq, if_true, if_false, Nat.reduceAdd, Nat.reduceEqDiff, Nat.reduceMod, Nat.reduceLT, Nat.reduceLeDiff, Nat.reduceSub, Nat.reduceMul, Nat.reduceBEq, Int.reduceAdd, Int.reduceSub, Int.reduceMul, Int.reduceNeg, Int.reduceLT, Int.reduceLE, Int.reduceToNat, Int.reduceEq, Int.reduceBEq, c8, r8, dec_f h1, dec_t h2, (rd_one hv).1, (rd_one hv).2]
    exact hno _ _ hn he (.app _ _ _)
  simp -implicitDefEqProofs (disch := (first | omega | (simp only [lenB, lowB_len, numB_len, nsumB_len] <;> omega) | fail)) only [admQ, lenB, lowB_len, numB_len, nsumB_len, aFill, AK.cls, implies_true, ↓reduceIte, reduceCtorEq, if_true, if_false, Nat.reduceAdd, Nat.reduceEqDiff, Nat.reduceMod, Nat.reduceLT, Nat.reduceLeDiff, Nat.reduceSub, Nat.reduceMul, Nat.reduceBEq, Int.reduceAdd, Int.reduceSub, Int.reduceMul, Int.reduceNeg, Int.reduceLT, Int.reduceLE, Int.reduceToNat, Int.reduceEq, Int.reduceBEq, c8, r8, dec_f h1, dec_f h2, (rd_one hv).1, (rd_one hv).2]
  have k0 := Kept.app [] m [Blk.row [.int .i64 s.k, .int .i64 s.e, .int .i64 s.n, .int .i64 s.a, v] false]
  have o0 : own (m ++ [Blk.row [.int .i64 s.k, .int .i64 s.e, .int .i64 s.n, .int .i64 s.a, v] false]) m.length = some [.int .i64 s.k, .int .i64 s.e, .int .i64 s.n, .int .i64 s.a, v] := by rw [own_app_at0]; rfl
  generalize m ++ [Blk.row [.int .i64 s.k, .int .i64 s.e, .int .i64 s.n, .int .i64 s.a, v] false] = A at k0 o0
  refine (ans_scright s.e s.n s.a A).mono ?_
  rintro _ M ⟨rfl, hM⟩
  subst hM
  by_cases h3 : rightP s.e s.n s.a
  · by_cases h4 : (s.p.length : Int) > 975
    · have he : errP s = 3 := by rw [errP, if_neg (by omega), if_neg (by simpa using h3), if_pos (by omega)]
      have hn : ¬ okP s := fun h => by have := h.2.2; omega
      simp -implicitDefEqProofs (disch := (first | omega | (simp only [lenB, lowB_len, numB_len, nsumB_len] <;> omega) | fail)) only [admQ, lenB, lowB_len, numB_len, nsumB_len, aFill, AK.cls, implies_true, ↓reduceIte, reduceCtorEq, if_true, if_false, Nat.reduceAdd, Nat.reduceEqDiff, Nat.reduceMod, Nat.reduceLT, Nat.reduceLeDiff, Nat.reduceSub, Nat.reduceMul, Nat.reduceBEq, Int.reduceAdd, Int.reduceSub, Int.reduceMul, Int.reduceNeg, Int.reduceLT, Int.reduceLE, Int.reduceToNat, Int.reduceEq, Int.reduceBEq, dec_t h3, Bool.not_true, rowOf_own o0, (hv.kept0 k0).len, dec_t h4]
      exact hno _ _ hn he k0
    · have hok : okP s := ⟨by omega, h3, by omega⟩
      have he := (errP_ok s).mpr hok
      clear hno
      obtain ⟨k, e, n, a, p⟩ := s
      simp only at *
      obtain ⟨⟨r1, r2, r3⟩, ⟨r4, r5⟩, r6⟩ := id h3
      obtain ⟨e, rfl⟩ : ∃ e' : Nat, e = e' := ⟨e.toNat, by omega⟩
      obtain ⟨n, rfl⟩ : ∃ n' : Nat, n = n' := ⟨n.toNat, by omega⟩
      obtain ⟨a, rfl⟩ : ∃ a' : Nat, a = a' := ⟨a.toNat, by omega⟩
      have hw : IntKind.u8.wrap k = ((kB k).toNat : Int) := wr_u8 k
      simp -implicitDefEqProofs (disch := (first | omega | (simp only [lenB, lowB_len, numB_len, nsumB_len] <;> omega) | fail)) only [admQ, lenB, lowB_len, numB_len, nsumB_len, aFill, AK.cls, implies_true, ↓reduceIte, reduceCtorEq, if_true, if_false, Nat.reduceAdd, Nat.reduceEqDiff, Nat.reduceMod, Nat.reduceLT, Nat.reduceLeDiff, Nat.reduceSub, Nat.reduceMul, Nat.reduceBEq, Int.reduceAdd, Int.reduceSub, Int.reduceMul, Int.reduceNeg, Int.reduceLT, Int.reduceLE, Int.reduceToNat, Int.reduceEq, Int.reduceBEq, dec_t h3, Bool.not_true, rowOf_own o0, (hv.kept0 k0).len, dec_f h4, hw]
      have k1 := Kept.app [] M [Blk.row [b8 (kB k)] false]
      have r1 := RdB.row (m := M ++ [Blk.row [b8 (kB k)] false]) (l := [kB k]) 1 0 (rowOf_app_at0 M _) (by simp)
      have e1 : (M ++ [Blk.row [b8 (kB k)] false])[M.length]? = some (.row [b8 (kB k)] false) := by simp
      generalize M ++ [Blk.row [b8 (kB k)] false] = B at *
      have o1 := k1.own o0 (by simp)
      simp -implicitDefEqProofs (disch := (first | omega | (simp only [lenB, lowB_len, numB_len, nsumB_len] <;> omega) | fail)) only [admQ, lenB, lowB_len, numB_len, nsumB_len, aFill, AK.cls, implies_true, ↓reduceIte, reduceCtorEq, if_true, if_false, Nat.reduceAdd, Nat.reduceEqDiff, Nat.reduceMod, Nat.reduceLT, Nat.reduceLeDiff, Nat.reduceSub, Nat.reduceMul, Nat.reduceBEq, Int.reduceAdd, Int.reduceSub, Int.reduceMul, Int.reduceNeg, Int.reduceLT, Int.reduceLE, Int.reduceToNat, Int.reduceEq, Int.reduceBEq, rowOf_own o1]
      refine (ans_pint e (by omega) r1 (by simp)).mono ?_
      rintro y1 m1 ⟨k2, g2⟩
      have o2 := k2.own o1 (by simp)
      have e2 : m1[M.length]? = some (.row [b8 (kB k)] false) := by rw [k2.eq _ (lt_of_get e1) (by simp)]; exact e1
      simp -implicitDefEqProofs (disch := (first | omega | (simp only [lenB, lowB_len, numB_len, nsumB_len] <;> omega) | fail)) only [admQ, lenB, lowB_len, numB_len, nsumB_len, aFill, AK.cls, implies_true, ↓reduceIte, reduceCtorEq, if_true, if_false, Nat.reduceAdd, Nat.reduceEqDiff, Nat.reduceMod, Nat.reduceLT, Nat.reduceLeDiff, Nat.reduceSub, Nat.reduceMul, Nat.reduceBEq, Int.reduceAdd, Int.reduceSub, Int.reduceMul, Int.reduceNeg, Int.reduceLT, Int.reduceLE, Int.reduceToNat, Int.reduceEq, Int.reduceBEq, rowOf_own o2, rowOf_own o1, e2]
      refine (ans_pint n (by omega) g2.rd (by simp [numB_len])).mono ?_
      rintro y2 m2 ⟨k3, g3⟩
      have o3 := k3.own o2 (by simp)
      have e3 : m2[M.length]? = some (.row [b8 (kB k)] false) := by rw [k3.eq _ (lt_of_get e2) (by simp)]; exact e2
      simp -implicitDefEqProofs (disch := (first | omega | (simp only [lenB, lowB_len, numB_len, nsumB_len] <;> omega) | fail)) only [admQ, lenB, lowB_len, numB_len, nsumB_len, aFill, AK.cls, implies_true, ↓reduceIte, reduceCtorEq, if_true, if_false, Nat.reduceAdd, Nat.reduceEqDiff, Nat.reduceMod, Nat.reduceLT, Nat.reduceLeDiff, Nat.reduceSub, Nat.reduceMul, Nat.reduceBEq, Int.reduceAdd, Int.reduceSub, Int.reduceMul, Int.reduceNeg, Int.reduceLT, Int.reduceLE, Int.reduceToNat, Int.reduceEq, Int.reduceBEq, rowOf_own o3, rowOf_own o2, rowOf_own o1, e3]
      refine (ans_schead k a (by omega) m2).mono ?_
      rintro y3 m3 ⟨k4, g4⟩
      have o4 := k4.own o3 (by simp)
      have K4 := ((k0.trans k1).trans k2).trans (k3.trans k4)
      simp -implicitDefEqProofs (disch := (first | omega | (simp only [lenB, lowB_len, numB_len, nsumB_len] <;> omega) | fail)) only [admQ, lenB, lowB_len, numB_len, nsumB_len, aFill, AK.cls, implies_true, ↓reduceIte, reduceCtorEq, if_true, if_false, Nat.reduceAdd, Nat.reduceEqDiff, Nat.reduceMod, Nat.reduceLT, Nat.reduceLeDiff, Nat.reduceSub, Nat.reduceMul, Nat.reduceBEq, Int.reduceAdd, Int.reduceSub, Int.reduceMul, Int.reduceNeg, Int.reduceLT, Int.reduceLE, Int.reduceToNat, Int.reduceEq, Int.reduceBEq, rowOf_own o4, rowOf_own o3, rowOf_own o2, cyn_seal c, opW_invoke _ (cym_seal c), opDW_invoke _ (cym_seal c)]
      refine (ans_cyseal (d := ((e : Int), (n : Int), headB k a, p)) (hC.kept0 K4) g4.rd (hv.kept0 K4) hd hk ⟨by rw [headB_len]; omega, hl⟩).mono ?_
      rintro z m4 ⟨W', R', kS, hC', hR', gz, hz⟩
      have hsd : secD ⟨k, e, n, a, p⟩ = ((e : Int), (n : Int), headB k a, p) := by simp [secD]
      have hRm : ∀ b ∈ R, b < m.length := hC.lt
      have hWR := hC.sub
      have nW : ∀ b, m.length ≤ b → b ∉ W := fun b h1 h2 => by have := hRm b (hWR b h2); omega
      have o5 := kS.own o4 (nW _ (Nat.le_refl _))
      have hm2 := ((k0.trans k1).trans k2).len
      have hm3 := K4.len
      have g3' := (g3.kept0 k4).kept kS fun b hb => nW b (by have := g3.low b hb; omega)
      have hsl := cySl_len c ((e : Int), (n : Int), headB k a, p)
      obtain ⟨w, m5, e5, k5, rw5, bw5, c5⟩ := OwB.app g3' gz.rd (by simp [numB_len]; simp at hsl; omega)
      simp -implicitDefEqProofs (disch := (first | omega | (simp only [lenB, lowB_len, numB_len, nsumB_len] <;> omega) | fail)) only [admQ, lenB, lowB_len, numB_len, nsumB_len, aFill, AK.cls, implies_true, ↓reduceIte, reduceCtorEq, if_true, if_false, Nat.reduceAdd, Nat.reduceEqDiff, Nat.reduceMod, Nat.reduceLT, Nat.reduceLeDiff, Nat.reduceSub, Nat.reduceMul, Nat.reduceBEq, Int.reduceAdd, Int.reduceSub, Int.reduceMul, Int.reduceNeg, Int.reduceLT, Int.reduceLE, Int.reduceToNat, Int.reduceEq, Int.reduceBEq, rowOf_own o5, rowOf_own o4, rowOf_own o3, rowOf_own o2]
      refine someW_eq e5 ?_
      have o6 := k5.own o5 (by simp)
      simp -implicitDefEqProofs (disch := (first | omega | (simp only [lenB, lowB_len, numB_len, nsumB_len] <;> omega) | fail)) only [admQ, lenB, lowB_len, numB_len, nsumB_len, aFill, AK.cls, implies_true, ↓reduceIte, reduceCtorEq, if_true, if_false, Nat.reduceAdd, Nat.reduceEqDiff, Nat.reduceMod, Nat.reduceLT, Nat.reduceLeDiff, Nat.reduceSub, Nat.reduceMul, Nat.reduceBEq, Int.reduceAdd, Int.reduceSub, Int.reduceMul, Int.reduceNeg, Int.reduceLT, Int.reduceLE, Int.reduceToNat, Int.reduceEq, Int.reduceBEq, rowOf_own o6, rowOf_own o5, rowOf_own o4, rowOf_own o3, rowOf_own o2]
      have hm1 := (k0.trans k1).len
      have hk2 := k2.len
      have hk3 := k3.len
      have hk4 := k4.len
      have hkS := kS.len
      have hY := g3.low
      have hRlt := hC'.lt
      have g3lt := g3.rd.blk_lt
      refine ⟨W', R', w, (K4.more (by simp)).trans (kS.trans (k5.more (by simp))), ?_, fun b hb => (hR' b hb).imp id fun h => by omega, ?_, ?_, fun b hb => ?_⟩
      · rw [putC, if_pos hok, hsd]; exact hC'.kept0 k5
      · rw [he]
      · rw [putL, if_pos hok, putB, hsd]
        refine SPb.weak (m0 := m1.length) (by simpa using c5.2.2) (by omega)
      · rcases bw5 b hb with h | h
        · have h1 := hY b h
          have h2 := g3lt b h
          refine ⟨by omega, fun h3 => ?_⟩
          rcases hR' b h3 with h4 | h4
          · have := hRm b h4; omega
          · omega
        · refine ⟨by omega, fun h3 => ?_⟩
          have := hRlt b h3; omega
  · have he : errP s = 7 := by rw [errP, if_neg (by omega), if_pos h3]
    have hn : ¬ okP s := fun h => h3 h.2.1
    simp -implicitDefEqProofs (disch := (first | omega | (simp only [lenB, lowB_len, numB_len, nsumB_len] <;> omega) | fail)) only [admQ, lenB, lowB_len, numB_len, nsumB_len, aFill, AK.cls, implies_true, ↓reduceIte, reduceCtorEq, if_true, if_false, Nat.reduceAdd, Nat.reduceEqDiff, Nat.reduceMod, Nat.reduceLT, Nat.reduceLeDiff, Nat.reduceSub, Nat.reduceMul, Nat.reduceBEq, Int.reduceAdd, Int.reduceSub, Int.reduceMul, Int.reduceNeg, Int.reduceLT, Int.reduceLE, Int.reduceToNat, Int.reduceEq, Int.reduceBEq, dec_f h3, Bool.not_false]
    exact hno _ _ hn he k0
theorem ans_scput {m : Mem} {x : Nat} {W R : List Nat} {c : CyS} {s : Sec} {v : AV} (hC : Cy m x W R c) (hv : RdB m v s.p) (hd : ∀ b ∈ blkOf v, b ∉ W) (hk : cyOk c 1000) (hl : s.p.length ≤ 100000) :
    Ans Tryz.prog 8 [.iface (cyT c) (.ptr x 0), secV s v] m fun r m' => ∃ W' R' w, Kept W m m' ∧ Cy m' x W' R' (putC c s) ∧ (∀ b ∈ R', b ∈ R ∨ m.length ≤ b) ∧ r = .tup [w, .int .i64 (errP s)] ∧ RdB m' w (putL c s) ∧ ∀ b ∈ blkOf w, m.length ≤ b ∧ b ∉ R' :=
  (ans_scputS hC hv hd hk hl).mono fun r m' ⟨W', R', w, h1, h2, h3, h4, h5, h6⟩ => ⟨W', R', w, h1, h2, h3, h4, h5.rd, h6⟩
end Go.Proofs.YtmnlmjlmbceimaaGreatDoor
end
section
/- Sectors: got. -/
namespace Go.Proofs.YtmnlmjlmbceimaaGreatDoor
open Go Go.Adm
set_option linter.unusedSimpArgs false
set_option linter.unusedVariables false
set_option maxRecDepth 100000
theorem rdb_ap {X : List Nat} {m m' : Mem} {x : AV} {l : List B8} (h : RdB m x l) (hk : Kept X m m') (ha : ∀ b ∈ blkOf x, b ∉ X) : RdB m' x l :=
  h.kept hk fun b o n cap s e => ha b (by rw [e]; simp [blkOf])
def nE (b : List B8) : Int := intB ((b.drop 1).take 8)
def nN (b : List B8) : Int := intB ((b.drop 9).take 8)
open Classical in
noncomputable def getE (c : CyS) (k a : Int) (b : List B8) : Int :=
  if b.length < 17 then 2 else if b.length > 1024 then 3 else if k = 0 ∨ kindB b ≠ k then 5 else if ¬ rightP (nE b) (nN b) a then 7 else
  match cyOp c (nE b) (nN b) (headB k a.toNat) (b.drop 17) with
  | none => 19
  | some _ => 0
def sec0 : Sec := ⟨0, 0, 0, 0, []⟩
open Classical in
noncomputable def getS (c : CyS) (k a : Int) (b : List B8) : Sec :=
  if getE c k a b = 0 then ⟨k, nE b, nN b, a, (cyOp c (nE b) (nN b) (headB k a.toNat) (b.drop 17)).getD []⟩ else sec0
theorem ans_scgetS {m : Mem} {x : Nat} {W R : List Nat} {c : CyS} {k a : Int} {y : AV} {b : List B8} (hC : Cy m x W R c) (hy : RdB m y b) (hk : cyOk c 1000) (hl : b.length ≤ 100000) :
    Ans Tryz.prog 10 [.iface (cyT c) (.ptr x 0), .int .i64 k, .int .i64 a, y] m fun r m' => Kept [] m m' ∧ ∃ w, r = .tup [secV (getS c k a b) w, .int .i64 (getE c k a b)] ∧ SPb m.length m' w (getS c k a b).p := by
  refine ans_ret mixed ok10 ?_
  have hno : ∀ (m' : Mem) (er : Int), er ≠ 0 → getE c k a b = er → Kept [] m m' → Kept [] m m' ∧ ∃ w, AV.tup [.agg [.int .i64 0, .int .i64 0, .int .i64 0, .int .i64 0, .nils], .int .i64 er] = .tup [secV (getS c k a b) w, .int .i64 (getE c k a b)] ∧ SPb m.length m' w (getS c k a b).p := fun m' er h0 he hk => by
    rw [he]
    have hs : getS c k a b = sec0 := by rw [getS, he, if_neg h0]
    rw [hs]
    exact ⟨hk, .nils, rfl, .inl ⟨rfl, rfl⟩⟩
  by_cases h1 : b.length < 17
  · have he : getE c k a b = 2 := by rw [getE, if_pos h1]
    simp -implicitDefEqProofs (disch := (first | omega | (simp only [lenB, lowB_len, numB_len, nsumB_len] <;> omega) | fail)) only [admQ, lenB, lowB_len, numB_len, nsumB_len, aFill, AK.cls, implies_true, ↓reduceIte, reduceCtorEq, if_true, if_false, Nat.reduceAdd, Nat.reduceEqDiff, Nat.reduceMod, Nat.reduceLT, Nat.reduceLeDiff, Nat.reduceSub, Nat.reduceMul, Nat.reduceBEq, Int.reduceAdd, Int.reduceSub, Int.reduceMul, Int.reduceNeg, Int.reduceLT, Int.reduceLE, Int.reduceToNat, Int.reduceEq, Int.reduceBEq, c10, r10, hy.len, dec_t (show (b.length : Int) < 17 by omega)]
    exact hno _ _ (by omega) he (.app _ _ _)
  by_cases h2 : b.length > 1024
  · have he : getE c k a b = 3 := by rw [getE, if_neg h1, if_pos h2]
    simp -implicitDefEqProofs (disch := (first | omega | (simp only [lenB, lowB_len, numB_len, nsumB_len] <;> omega) | fail)) only [admQ, lenB, lowB_len, numB_len, nsumB_len, aFill, AK.cls, implies_true, ↓reduceIte, reduceCtorEq, if_true, if_false, Nat.reduceAdd, Nat.reduceEqDiff, Nat.reduceMod, Nat.reduceLT, Nat.reduceLeDiff, Nat.reduceSub, Nat.reduceMul, Nat.reduceBEq, Int.reduceAdd, Int.reduceSub, Int.reduceMul, Int.reduceNeg, Int.reduceLT, Int.reduceLE, Int.reduceToNat, Int.reduceEq, Int.reduceBEq, c10, r10, hy.len, dec_f (show ¬ (b.length : Int) < 17 by omega), dec_t (show (b.length : Int) > 1024 by omega)]
    exact hno _ _ (by omega) he (.app _ _ _)
  by_cases h3 : k = 0
  · have he : getE c k a b = 5 := by rw [getE, if_neg h1, if_neg h2, if_pos (.inl h3)]
    simp -implicitDefEqProofs (disch := (first | omega | (simp only [lenB, lowB_len, numB_len, nsumB_len] <;> omega) | fail)) only [admQ, lenB, lowB_len, numB_len, nsumB_len, aFill, AK.cls, implies_true, ↓reduceIte, reduceCtorEq, if_true, if_false, Nat.reduceAdd, Nat.reduceEqDiff, Nat.reduceMod, Nat.reduceLT, Nat.reduceLeDiff, Nat.reduceSub, Nat.reduceMul, Nat.reduceBEq, Int.reduceAdd, Int.reduceSub, Int.reduceMul, Int.reduceNeg, Int.reduceLT, Int.reduceLE, Int.reduceToNat, Int.reduceEq, Int.reduceBEq, c10, r10, hy.len, dec_f (show ¬ (b.length : Int) < 17 by omega), dec_f (show ¬ (b.length : Int) > 1024 by omega), beq_iff_eq.mpr h3]
    exact hno _ _ (by omega) he (.app _ _ _)
  simp -implicitDefEqProofs (disch := (first | omega | (simp only [lenB, lowB_len, numB_len, nsumB_len] <;> omega) | fail)) only [admQ, lenB, lowB_len, numB_len, nsumB_len, aFill, AK.cls, implies_true, ↓reduceIte, reduceCtorEq, if_true, if_false, Nat.reduceAdd, Nat.reduceEqDiff, Nat.reduceMod, Nat.reduceLT, Nat.reduceLeDiff, Nat.reduceSub, Nat.reduceMul, Nat.reduceBEq, Int.reduceAdd, Int.reduceSub, Int.reduceMul, Int.reduceNeg, Int.reduceLT, Int.reduceLE, Int.reduceToNat, Int.reduceEq, Int.reduceBEq, c10, r10, hy.len, dec_f (show ¬ (b.length : Int) < 17 by omega), dec_f (show ¬ (b.length : Int) > 1024 by omega), beq_eq_false_iff_ne.mpr h3]
  have k0 := Kept.app [] m [Blk.row [.int .i64 0, .int .i64 0, .int .i64 0, .int .i64 0, .nils] false]
  have o0 : own (m ++ [Blk.row [.int .i64 0, .int .i64 0, .int .i64 0, .int .i64 0, .nils] false]) m.length = some [.int .i64 0, .int .i64 0, .int .i64 0, .int .i64 0, .nils] := by rw [own_app_at0]; rfl
  generalize m ++ [Blk.row [.int .i64 0, .int .i64 0, .int .i64 0, .int .i64 0, .nils] false] = A at k0 o0
  have hyA := hy.kept0 k0
  refine (ans_sckind hyA).mono ?_
  rintro _ M ⟨rfl, hM⟩
  subst hM
  by_cases h4 : kindB b = k
  · obtain ⟨q, o, cap, sl, cc, rfl, hrow, hat, hlen, hcap, hsl, htk⟩ := hyA.cons (i := 0) (by omega)
    have hsub : RdB M (.sl q (o + 1) 16 (cap - 1) sl) ((b.drop 1).take 16) := by
      have hd := hyA.drop (k := 1) (by omega)
      have h := hd.take (k := 16) (by omega)
      exact h
    simp -implicitDefEqProofs (disch := (first | omega | (simp only [lenB, lowB_len, numB_len, nsumB_len] <;> omega) | fail)) only [admQ, lenB, lowB_len, numB_len, nsumB_len, aFill, AK.cls, implies_true, ↓reduceIte, reduceCtorEq, if_true, if_false, Nat.reduceAdd, Nat.reduceEqDiff, Nat.reduceMod, Nat.reduceLT, Nat.reduceLeDiff, Nat.reduceSub, Nat.reduceMul, Nat.reduceBEq, Int.reduceAdd, Int.reduceSub, Int.reduceMul, Int.reduceNeg, Int.reduceLT, Int.reduceLE, Int.reduceToNat, Int.reduceEq, Int.reduceBEq, beq_eq_false_iff_ne.mpr h3, beq_iff_eq.mpr h4, Bool.not_true]
    have hl16 : ((b.drop 1).take 16).length = 16 := by rw [List.length_take, List.length_drop]; omega
    refine (ans_pread hsub (by omega)).mono ?_
    rintro _ m1 ⟨k1, p, rfl, hp, hR1⟩
    simp -implicitDefEqProofs (disch := (first | omega | (simp only [lenB, lowB_len, numB_len, nsumB_len] <;> omega) | fail)) only [admQ, lenB, lowB_len, numB_len, nsumB_len, aFill, AK.cls, implies_true, ↓reduceIte, reduceCtorEq, if_true, if_false, Nat.reduceAdd, Nat.reduceEqDiff, Nat.reduceMod, Nat.reduceLT, Nat.reduceLeDiff, Nat.reduceSub, Nat.reduceMul, Nat.reduceBEq, Int.reduceAdd, Int.reduceSub, Int.reduceMul, Int.reduceNeg, Int.reduceLT, Int.reduceLE, Int.reduceToNat, Int.reduceEq, Int.reduceBEq]
    refine (ans_print hR1 (by omega)).mono ?_
    rintro _ m2 ⟨rfl, k2, hR2⟩
    simp -implicitDefEqProofs (disch := (first | omega | (simp only [lenB, lowB_len, numB_len, nsumB_len] <;> omega) | fail)) only [admQ, lenB, lowB_len, numB_len, nsumB_len, aFill, AK.cls, implies_true, ↓reduceIte, reduceCtorEq, if_true, if_false, Nat.reduceAdd, Nat.reduceEqDiff, Nat.reduceMod, Nat.reduceLT, Nat.reduceLeDiff, Nat.reduceSub, Nat.reduceMul, Nat.reduceBEq, Int.reduceAdd, Int.reduceSub, Int.reduceMul, Int.reduceNeg, Int.reduceLT, Int.reduceLE, Int.reduceToNat, Int.reduceEq, Int.reduceBEq]
    refine (ans_print hR2 (by rw [List.length_drop]; omega)).mono ?_
    rintro _ m3 ⟨rfl, k3, -⟩
    have e1 : ((b.drop 1).take 16).take 8 = (b.drop 1).take 8 := by rw [List.take_take]; rfl
    have e2 : (((b.drop 1).take 16).drop 8).take 8 = (b.drop 9).take 8 := by rw [List.drop_take, List.take_take, List.drop_drop]; rfl
    have hE : intB (((b.drop 1).take 16).take 8) = nE b := by rw [e1]; rfl
    have hNn : intB ((((b.drop 1).take 16).drop 8).take 8) = nN b := by rw [e2]; rfl
    have K3 : Kept [] M m3 := (k1.upon k2 (by simpa using hp)).upon k3 (by simpa using hp)
    have o3 := K3.own o0 (by simp)
    rw [hE, hNn]
    simp -implicitDefEqProofs (disch := (first | omega | (simp only [lenB, lowB_len, numB_len, nsumB_len] <;> omega) | fail)) only [admQ, lenB, lowB_len, numB_len, nsumB_len, aFill, AK.cls, implies_true, ↓reduceIte, reduceCtorEq, if_true, if_false, Nat.reduceAdd, Nat.reduceEqDiff, Nat.reduceMod, Nat.reduceLT, Nat.reduceLeDiff, Nat.reduceSub, Nat.reduceMul, Nat.reduceBEq, Int.reduceAdd, Int.reduceSub, Int.reduceMul, Int.reduceNeg, Int.reduceLT, Int.reduceLE, Int.reduceToNat, Int.reduceEq, Int.reduceBEq]
    have k4 := Kept.app [] m3 [Blk.row [.int .i64 k, .int .i64 (nE b), .int .i64 (nN b), .int .i64 a, .nils] false]
    have b4 : own (m3 ++ [Blk.row [.int .i64 k, .int .i64 (nE b), .int .i64 (nN b), .int .i64 a, .nils] false]) m3.length = some [.int .i64 k, .int .i64 (nE b), .int .i64 (nN b), .int .i64 a, .nils] := by rw [own_app_at0]; rfl
    generalize m3 ++ [Blk.row [.int .i64 k, .int .i64 (nE b), .int .i64 (nN b), .int .i64 a, .nils] false] = B at k4 b4
    have o4 := k4.own o3 (by simp)
    have KB := (k0.trans K3).trans k4
    have hMl := own_lt o0
    have hK3l := K3.len
    refine (ans_scright (nE b) (nN b) a B).mono ?_
    rintro _ M2 ⟨rfl, hM⟩
    subst hM
    by_cases h5 : rightP (nE b) (nN b) a
    · simp -implicitDefEqProofs (disch := (first | omega | (simp only [lenB, lowB_len, numB_len, nsumB_len] <;> omega) | fail)) only [admQ, lenB, lowB_len, numB_len, nsumB_len, aFill, AK.cls, implies_true, ↓reduceIte, reduceCtorEq, if_true, if_false, Nat.reduceAdd, Nat.reduceEqDiff, Nat.reduceMod, Nat.reduceLT, Nat.reduceLeDiff, Nat.reduceSub, Nat.reduceMul, Nat.reduceBEq, Int.reduceAdd, Int.reduceSub, Int.reduceMul, Int.reduceNeg, Int.reduceLT, Int.reduceLE, Int.reduceToNat, Int.reduceEq, Int.reduceBEq, dec_t h5, Bool.not_true, rowOf_own b4]
      obtain ⟨a, rfl⟩ : ∃ a' : Nat, a = a' := ⟨a.toNat, by have := h5.1; omega⟩
      have ha := h5.2.2
      refine (ans_schead k a (by omega) M2).mono ?_
      rintro y1 m5 ⟨k5, g5⟩
      have b5 := k5.own b4 (by simp)
      have K5 := KB.trans k5
      have hy5 := hy.kept0 K5
      have hdr := hy5.drop (k := 17) (by omega)
      simp -implicitDefEqProofs (disch := (first | omega | (simp only [lenB, lowB_len, numB_len, nsumB_len] <;> omega) | fail)) only [admQ, lenB, lowB_len, numB_len, nsumB_len, aFill, AK.cls, implies_true, ↓reduceIte, reduceCtorEq, if_true, if_false, Nat.reduceAdd, Nat.reduceEqDiff, Nat.reduceMod, Nat.reduceLT, Nat.reduceLeDiff, Nat.reduceSub, Nat.reduceMul, Nat.reduceBEq, Int.reduceAdd, Int.reduceSub, Int.reduceMul, Int.reduceNeg, Int.reduceLT, Int.reduceLE, Int.reduceToNat, Int.reduceEq, Int.reduceBEq, rowOf_own b5, rowOf_own b4, cyn_open c, opW_invoke _ (cym_open c), opDW_invoke _ (cym_open c)]
      refine (ans_cyopenS (e := nE b) (n := nN b) (hC.kept0 K5) g5.rd hdr hk ⟨by rw [headB_len]; omega, by rw [List.length_drop]; omega⟩).mono ?_
      rintro _ m6 ⟨k6, w, rfl, rs6⟩
      have rw6 := rs6.rd
      have lw6 := rs6.low
      have b6 := k6.own b5 (by simp)
      have K6 := K5.trans k6
      have o6 := (k5.trans k6).own o4 (by simp)
      have h8 := K6.len
      have hne : m3.length ≠ m.length := by omega
      cases hop : cyOp c (nE b) (nN b) (headB k a) (b.drop 17) with
      | none =>
        have he : getE c k a b = 19 := by rw [getE, if_neg h1, if_neg h2, if_neg (by rintro (h | h); exact h3 h; exact h h4), if_neg (by simpa using h5), Int.toNat_natCast, hop]
        simp -implicitDefEqProofs (disch := (first | omega | (simp only [lenB, lowB_len, numB_len, nsumB_len] <;> omega) | fail)) only [admQ, lenB, lowB_len, numB_len, nsumB_len, aFill, AK.cls, implies_true, ↓reduceIte, reduceCtorEq, if_true, if_false, Nat.reduceAdd, Nat.reduceEqDiff, Nat.reduceMod, Nat.reduceLT, Nat.reduceLeDiff, Nat.reduceSub, Nat.reduceMul, Nat.reduceBEq, Int.reduceAdd, Int.reduceSub, Int.reduceMul, Int.reduceNeg, Int.reduceLT, Int.reduceLE, Int.reduceToNat, Int.reduceEq, Int.reduceBEq, rowOf_own b6, rowOf_own b5, rowOf_own b4, Option.isSome_none, Bool.not_false, o6, own_set (own_lt o6), rowOf_own (own_set (own_lt o6) _)]
        exact hno _ _ (by omega) he (K6.write (.inr (Nat.le_refl _)) _)
      | some pl =>
        have he : getE c k a b = 0 := by rw [getE, if_neg h1, if_neg h2, if_neg (by rintro (h | h); exact h3 h; exact h h4), if_neg (by simpa using h5), Int.toNat_natCast, hop]
        have hs : getS c k a b = ⟨k, nE b, nN b, a, pl⟩ := by rw [getS, if_pos he, Int.toNat_natCast, hop]; rfl
        have w1 := own_set (own_lt b6) [AV.int .i64 k, .int .i64 (nE b), .int .i64 (nN b), .int .i64 a, w]
        have o7 := own_set_ne' o6 hne (.row [AV.int .i64 k, .int .i64 (nE b), .int .i64 (nN b), .int .i64 a, w] false)
        rw [hop] at rw6 rs6
        simp -implicitDefEqProofs (disch := (first | omega | (simp only [lenB, lowB_len, numB_len, nsumB_len] <;> omega) | fail)) only [admQ, lenB, lowB_len, numB_len, nsumB_len, aFill, AK.cls, implies_true, ↓reduceIte, reduceCtorEq, if_true, if_false, Nat.reduceAdd, Nat.reduceEqDiff, Nat.reduceMod, Nat.reduceLT, Nat.reduceLeDiff, Nat.reduceSub, Nat.reduceMul, Nat.reduceBEq, Int.reduceAdd, Int.reduceSub, Int.reduceMul, Int.reduceNeg, Int.reduceLT, Int.reduceLE, Int.reduceToNat, Int.reduceEq, Int.reduceBEq, rowOf_own b6, rowOf_own b5, rowOf_own b4, Option.isSome_some, Bool.not_true, b6, (rd_one rw6).1, (rd_one rw6).2, rowOf_own w1, w1, o7, own_set (own_lt o7), rowOf_own (own_set (own_lt o7) _)]
        have KX := (Kept.set (X := [m.length, m3.length]) m6 m3.length (.row [AV.int .i64 k, .int .i64 (nE b), .int .i64 (nN b), .int .i64 a, w] false) (by simp)).trans (.set _ m.length (.row [AV.int .i64 k, .int .i64 (nE b), .int .i64 (nN b), .int .i64 a, w] false) (by simp))
        refine ⟨(K6.write (.inr (by omega)) _).write (.inr (Nat.le_refl _)) _, w, by rw [hs, he]; rfl, ?_⟩
        rw [hs]
        refine (rs6.weak K5.len).kept KX fun q hq hX => ?_
        have h9 := lw6 q hq
        have h10 := K5.len
        have h11 := own_lt b5
        have h12 := own_lt (k5.own o4 (by simp))
        simp only [List.mem_cons, List.not_mem_nil, or_false] at hX
        omega
    · have he : getE c k a b = 7 := by rw [getE, if_neg h1, if_neg h2, if_neg (by rintro (h | h); exact h3 h; exact h h4), if_pos h5]
      simp -implicitDefEqProofs (disch := (first | omega | (simp only [lenB, lowB_len, numB_len, nsumB_len] <;> omega) | fail)) only [admQ, lenB, lowB_len, numB_len, nsumB_len, aFill, AK.cls, implies_true, ↓reduceIte, reduceCtorEq, if_true, if_false, Nat.reduceAdd, Nat.reduceEqDiff, Nat.reduceMod, Nat.reduceLT, Nat.reduceLeDiff, Nat.reduceSub, Nat.reduceMul, Nat.reduceBEq, Int.reduceAdd, Int.reduceSub, Int.reduceMul, Int.reduceNeg, Int.reduceLT, Int.reduceLE, Int.reduceToNat, Int.reduceEq, Int.reduceBEq, dec_f h5, Bool.not_false, o4, own_set (own_lt o4), rowOf_own (own_set (own_lt o4) _)]
      exact hno _ _ (by omega) he (KB.write (.inr (Nat.le_refl _)) _)
  · have he : getE c k a b = 5 := by rw [getE, if_neg h1, if_neg h2, if_pos (.inr h4)]
    simp -implicitDefEqProofs (disch := (first | omega | (simp only [lenB, lowB_len, numB_len, nsumB_len] <;> omega) | fail)) only [admQ, lenB, lowB_len, numB_len, nsumB_len, aFill, AK.cls, implies_true, ↓reduceIte, reduceCtorEq, if_true, if_false, Nat.reduceAdd, Nat.reduceEqDiff, Nat.reduceMod, Nat.reduceLT, Nat.reduceLeDiff, Nat.reduceSub, Nat.reduceMul, Nat.reduceBEq, Int.reduceAdd, Int.reduceSub, Int.reduceMul, Int.reduceNeg, Int.reduceLT, Int.reduceLE, Int.reduceToNat, Int.reduceEq, Int.reduceBEq, beq_eq_false_iff_ne.mpr h4, Bool.not_false, o0, own_set (own_lt o0), rowOf_own (own_set (own_lt o0) _)]
    exact hno _ _ (by omega) he (k0.write (.inr (Nat.le_refl _)) _)
theorem ans_scget {m : Mem} {x : Nat} {W R : List Nat} {c : CyS} {k a : Int} {y : AV} {b : List B8} (hC : Cy m x W R c) (hy : RdB m y b) (hk : cyOk c 1000) (hl : b.length ≤ 100000) :
    Ans Tryz.prog 10 [.iface (cyT c) (.ptr x 0), .int .i64 k, .int .i64 a, y] m fun r m' => Kept [] m m' ∧ ∃ w, r = .tup [secV (getS c k a b) w, .int .i64 (getE c k a b)] ∧ RdB m' w (getS c k a b).p ∧ ∀ q ∈ blkOf w, m.length ≤ q :=
  (ans_scgetS hC hy hk hl).mono fun r m' ⟨h1, w, h2, h3⟩ => ⟨h1, w, h2, h3.rd, h3.low⟩
end Go.Proofs.YtmnlmjlmbceimaaGreatDoor
end
section
/- Sectors: what was put is got, and what is got was put; purely. -/
namespace Go.Proofs.YtmnlmjlmbceimaaGreatDoor
open Go Go.Adm
set_option linter.unusedSimpArgs false
set_option linter.unusedVariables false
set_option maxRecDepth 100000
theorem intB_num {v : Nat} (h : v < 9223372036854775808) : intB (numB v) = v := by
  rw [intB, beN_numB (by omega), wrap_i64 (by omega) (by omega)]
theorem kB_nat {k : Int} (h : 1 ≤ k ∧ k ≤ 5) : ((kB k).toNat : Int) = k := by
  have : k = 1 ∨ k = 2 ∨ k = 3 ∨ k = 4 ∨ k = 5 := by omega
  rcases this with rfl | rfl | rfl | rfl | rfl <;> decide
theorem okP_may {s : Sec} (h : okP s) : mayP (secD s) := ⟨⟨h.2.1.1.1, h.2.1.2.1.1⟩, h.2.1.1.2.1, h.2.1.2.1.2⟩
/-- What was sealed by c as d is still known to c2. -/
def cyHas : CyS → CyS → Sd → Prop
  | .box k, .box k2, _ => k2 = k
  | .nm S _, .nm S2 _, d => fidx d S2 = some (posN d S - 1)
  | _, _, _ => False
theorem cyHas_nx (c : CyS) {d : Sd} (hd : mayP d) : cyHas c (cyNx c d) d := by
  cases c with
  | box k => rfl
  | nm S T => simp only [cyNx, cyHas, sealS2, if_pos hd]; exact fidx_addself d S
theorem cySl_has {c : CyS} {d : Sd} (hd : mayP d) : (cySl c d).length = d.2.2.2.length + 32 := by
  cases c with
  | box key => simp only [cySl, if_pos hd, sealB_len]
  | nm S T => simp only [cySl, sealR, if_pos hd, nsealB_len]
theorem cyOp_seal {c c2 : CyS} {d : Sd} (hd : mayP d) (h : cyHas c c2 d) : cyOp c2 d.1 d.2.1 d.2.2.1 (cySl c d) = some d.2.2.2 := by
  cases c with
  | box k => cases c2 with
    | box k2 =>
      simp only [cyHas] at h
      subst h
      have hs : cySl (.box k2) d = sealB k2 d.2.2.1 d.1 d.2.1 d.2.2.2 := by simp only [cySl, if_pos hd]
      rw [hs, cyOp, if_pos (openP_seal _ hd), sealB_take, turnB_back]
    | nm S2 T2 => exact h.elim
  | nm S T => cases c2 with
    | box k2 => exact h.elim
    | nm S2 T2 =>
      obtain ⟨e, n, hd', pl⟩ := d
      simp only [cyHas] at h
      obtain ⟨h1, h2⟩ := nopenP_seal S2 h
      have hs : cySl (.nm S T) (e, n, hd', pl) = nsealB S (e, n, hd', pl) := by simp only [cySl, sealR, if_pos hd]
      rw [hs, cyOp, if_pos h1, h2]
theorem putL_len {c : CyS} {s : Sec} (h : okP s) : (putL c s).length = 49 + s.p.length := by
  rw [putL, if_pos h, putB]
  simp only [List.length_append, List.length_cons, numB_len, cySl_has (okP_may h)]
  simp only [secD]; omega
theorem putL_parts {c : CyS} {s : Sec} (h : okP s) : kindB (putL c s) = s.k ∧ nE (putL c s) = s.e ∧ nN (putL c s) = s.n ∧ (putL c s).drop 17 = cySl c (secD s) := by
  have hl := putL_len (c := c) h
  rw [putL, if_pos h, putB] at hl ⊢
  have hr := h.2.1
  simp only [rightP] at hr
  have hk := kB_nat h.1
  have l1 : (kB s.k :: numB s.e.toNat).length = 9 := by simp [numB_len]
  have l2 : (kB s.k :: numB s.e.toNat ++ numB s.n.toNat).length = 17 := by simp [numB_len]
  refine ⟨?_, ?_, ?_, List.drop_left' l2⟩
  · unfold kindB
    have e0 : gb (kB s.k :: numB s.e.toNat ++ numB s.n.toNat ++ cySl c (secD s)) 0 = kB s.k := rfl
    rw [e0, if_neg (by have := h.1; omega), hk]
  · unfold nE
    rw [List.append_assoc, List.cons_append, List.drop_succ_cons, List.drop_zero, List.take_left' (numB_len _), intB_num (by omega)]
    omega
  · unfold nN
    rw [List.append_assoc, List.drop_left' l1, List.take_left' (numB_len _), intB_num (by omega)]
    omega
/-- What was put is got. -/
theorem get_put {c c2 : CyS} {s : Sec} (h : okP s) (hc : cyHas c c2 (secD s)) : getE c2 s.k s.a (putL c s) = 0 ∧ getS c2 s.k s.a (putL c s) = s := by
  obtain ⟨h1, h2, h3, h4⟩ := putL_parts (c := c) h
  have hl := putL_len (c := c) h
  have ho : cyOp c2 s.e s.n (headB s.k s.a.toNat) (cySl c (secD s)) = some s.p := cyOp_seal (okP_may h) hc
  have he : getE c2 s.k s.a (putL c s) = 0 := by
    have := h.1
    have := h.2.2
    rw [getE, if_neg (by omega), if_neg (by omega), if_neg (by rw [h1]; omega), h2, h3, h4, ho, if_neg (by simpa using h.2.1)]
  refine ⟨he, ?_⟩
  rw [getS, if_pos he, h2, h3, h4, ho]
  rfl
theorem seal_open {key head : List B8} {e n : Int} {s : List B8} (h : openP key head e n s) : sealB key head e n (turnB key e n (s.take (s.length - 32))) = s := by
  rw [sealB, turnB_back, h.2.2, List.take_append_drop]
/-- What is opened was sealed. -/
theorem cyOp_back {c : CyS} {d : Sd} {b : List B8} (hd : mayP d) (h : cyOp c d.1 d.2.1 d.2.2.1 b = some d.2.2.2) : cySl c d = b ∧ cyHas c c d := by
  obtain ⟨e, n, hd', pl⟩ := d
  simp only at h
  cases c with
  | box key =>
    simp only [cyOp] at h
    split at h
    · rename_i ho
      simp only [Option.some.injEq] at h
      refine ⟨?_, rfl⟩
      simp only [cySl, if_pos hd]
      rw [← h, seal_open ho]
    · cases h
  | nm S T =>
    simp only [cyOp] at h
    split at h
    · rename_i ho
      simp only [Option.some.injEq] at h
      obtain ⟨hl, i, hi, hz⟩ := ho
      rw [h] at hi
      obtain ⟨-, hp⟩ := addN_in hi
      refine ⟨?_, ?_⟩
      · simp only [cySl, sealR, if_pos hd, nsealB]
        rw [hp, List.append_assoc, ← hz, ← h, List.take_append_drop]
      · simp only [cyHas]; rw [hp, hi]; rfl
    · cases h
/-- Of Names: the sectors that were put are read, and no others. -/
theorem has_mem {S : List Sd} {T T' : List (List B8)} {d : Sd} : cyHas (.nm S T) (.nm S T') d ↔ d ∈ S := by
  simp only [cyHas]
  constructor
  · exact fun h => List.mem_of_getElem? (fidx_some h)
  · intro h
    cases hf : fidx d S with
    | none => exact absurd h (fidx_none.mp hf)
    | some i => rw [(addN_in hf).2]; rfl
end Go.Proofs.YtmnlmjlmbceimaaGreatDoor
end
section
/- Sectors: what may be; the known example. -/
namespace Go.Proofs.YtmnlmjlmbceimaaGreatDoor
open Go Go.Adm
set_option linter.unusedSimpArgs false
set_option linter.unusedVariables false
set_option maxRecDepth 100000
def plainK : List B8 := [112#8, 108#8, 97#8, 105#8, 110#8]
def secK : Sec := ⟨4, 1, 2, 3, plainK⟩
theorem secK_ok : okP secK := by decide
theorem known_no (T : List (List B8)) : getE (putC (.nm [] T) secK) 4 4 (putL (.nm [] T) secK) = 19 := by
  obtain ⟨h1, h2, h3, h4⟩ := putL_parts (c := .nm [] T) secK_ok
  have hl := putL_len (c := .nm [] T) secK_ok
  have hl2 : secK.p.length = 5 := rfl
  have hc : putC (.nm [] T) secK = .nm [secD secK] T := by
    rw [putC, if_pos secK_ok, cyNx, sealS2, if_pos (okP_may secK_ok)]
    simp [addN]
  have hr : rightP (nE (putL (.nm [] T) secK)) (nN (putL (.nm [] T) secK)) 4 := by rw [h2, h3]; decide
  rw [hc, getE, if_neg (by omega), if_neg (by omega), if_neg (by rw [h1]; decide), if_neg (by simpa using hr)]
  cases ho : cyOp (.nm [secD secK] T) (nE (putL (.nm [] T) secK)) (nN (putL (.nm [] T) secK)) (headB 4 (4 : Int).toNat) ((putL (.nm [] T) secK).drop 17) with
  | none => rfl
  | some pl =>
    exfalso
    obtain ⟨-, h6⟩ := cyOp_back (d := (nE (putL (.nm [] T) secK), nN (putL (.nm [] T) secK), headB 4 (4 : Int).toNat, pl)) ⟨⟨hr.1.1, hr.2.1.1⟩, hr.1.2.1, hr.2.1.2⟩ ho
    have h7 := has_mem.mp h6
    rw [List.mem_singleton] at h7
    have h8 : headB 4 (4 : Int).toNat = headB 4 (3 : Int).toNat := congrArg (fun d : Sd => d.2.2.1) h7
    exact absurd h8 (by decide)
theorem ans_scknown {m : Mem} (hK : rowOf m 0 = some (wds kT)) : Ans Tryz.prog 4 [] m fun r m' => r = .bool true ∧ Kept [] m m' := by
  refine ans_ret mixed ok4 ?_
  simp -implicitDefEqProofs (disch := (first | omega | (simp only [lenB, lowB_len, numB_len, nsumB_len] <;> omega) | fail)) only [admQ, lenB, lowB_len, numB_len, nsumB_len, aFill, AK.cls, implies_true, ↓reduceIte, reduceCtorEq, if_true, if_false, Nat.reduceAdd, Nat.reduceEqDiff, Nat.reduceMod, Nat.reduceLT, Nat.reduceLeDiff, Nat.reduceSub, Nat.reduceMul, Nat.reduceBEq, Int.reduceAdd, Int.reduceSub, Int.reduceMul, Int.reduceNeg, Int.reduceLT, Int.reduceLE, Int.reduceToNat, Int.reduceEq, Int.reduceBEq, c4, r4, opW_mark, opDW_mark, rMark, rmD_r]
  generalize hA : m ++ _ = A
  have k0 : Kept [] m A := by rw [← hA]; exact .app _ _ _
  have rP : RdB A (.sl m.length 0 5 5 0) plainK := by
    rw [← hA]; exact RdB.row (l := [112#8, 108#8, 97#8, 105#8, 110#8]) 5 0 (by rw [rowOf_app_at0]; rfl) (by simp)
  have o0 : own A (m.length + 1) = some [.int .i64 4, .int .i64 1, .int .i64 2, .int .i64 3, .sl m.length 0 5 5 0] := by
    rw [← hA, own_app_at]; rfl
  have hAl : A.length = m.length + 2 := by rw [← hA]; simp
  clear hA
  refine (ans_nnew A).mono ?_
  rintro _ m1 ⟨x, W, rfl, k1, hN, hW⟩
  have hC : Cy m1 x W W (.nm [] []) := ⟨hN, rfl⟩
  have o1 := k1.own o0 (by simp)
  have rP1 := rP.kept0 k1
  have K1 := k0.trans k1
  simp -implicitDefEqProofs (disch := (first | omega | (simp only [lenB, lowB_len, numB_len, nsumB_len] <;> omega) | fail)) only [admQ, lenB, lowB_len, numB_len, nsumB_len, aFill, AK.cls, implies_true, ↓reduceIte, reduceCtorEq, if_true, if_false, Nat.reduceAdd, Nat.reduceEqDiff, Nat.reduceMod, Nat.reduceLT, Nat.reduceLeDiff, Nat.reduceSub, Nat.reduceMul, Nat.reduceBEq, Int.reduceAdd, Int.reduceSub, Int.reduceMul, Int.reduceNeg, Int.reduceLT, Int.reduceLE, Int.reduceToNat, Int.reduceEq, Int.reduceBEq, opW_mark, opDW_mark, rMark, rmD_r, rowOf_own o1]
  generalize hB : m1 ++ _ = B
  have k2 : Kept [] m1 B := by rw [← hB]; exact .app _ _ _
  have oK : own B m1.length = some [.int .u8 107, .int .u8 101, .int .u8 121] := by rw [← hB, own_app_at0]; rfl
  have rK : RdB B (.sl m1.length 0 3 3 0) [107#8, 101#8, 121#8] := RdB.row (l := [107#8, 101#8, 121#8]) 3 0 (rowOf_own oK) (by simp)
  have o2 := k2.own o1 (by simp)
  have K2 := K1.trans k2
  clear hB
  have hkl : ([107#8, 101#8, 121#8] : List B8).length = 3 := rfl
  generalize hkey : ([107#8, 101#8, 121#8] : List B8) = key at rK hkl
  refine (ans_senew (K2.row hK (by simp)) rK (by omega)).mono ?_
  rintro _ m3 ⟨y, c, kb, k, rfl, k3, hlow, hs⟩
  have hS : Cy m3 y [] [y, c, kb, k, 0] (.box key) := ⟨c, kb, k, hs, rfl, rfl⟩
  have o3 := k3.own o2 (by simp)
  have K3 := K2.trans k3
  have oK3 := k3.own oK (by simp)
  have K13 := k2.trans k3
  have hm1 := k1.len
  have hm2 := K2.len
  have hm3 := K13.len
  have he : errP secK = 0 := (errP_ok _).mpr secK_ok
  simp -implicitDefEqProofs (disch := (first | omega | (simp only [lenB, lowB_len, numB_len, nsumB_len] <;> omega) | fail)) only [admQ, lenB, lowB_len, numB_len, nsumB_len, aFill, AK.cls, implies_true, ↓reduceIte, reduceCtorEq, if_true, if_false, Nat.reduceAdd, Nat.reduceEqDiff, Nat.reduceMod, Nat.reduceLT, Nat.reduceLeDiff, Nat.reduceSub, Nat.reduceMul, Nat.reduceBEq, Int.reduceAdd, Int.reduceSub, Int.reduceMul, Int.reduceNeg, Int.reduceLT, Int.reduceLE, Int.reduceToNat, Int.reduceEq, Int.reduceBEq, opW_mark, opDW_mark, rMark, rmD_r, rowOf_own o3, rowOf_own o2]
  refine (ans_scput (s := secK) hS (rP1.kept0 K13) (by simp) trivial (by decide)).mono ?_
  rintro _ m4 ⟨W4, R4, w4, k4, -, -, rfl, rw4, bw4⟩
  have o4 := k4.own o3 (by simp)
  have oK4 := k4.own oK3 (by simp)
  have K14 := K13.trans k4
  have hm4 := k4.len
  rw [he]
  simp -implicitDefEqProofs (disch := (first | omega | (simp only [lenB, lowB_len, numB_len, nsumB_len] <;> omega) | fail)) only [admQ, lenB, lowB_len, numB_len, nsumB_len, aFill, AK.cls, implies_true, ↓reduceIte, reduceCtorEq, if_true, if_false, Nat.reduceAdd, Nat.reduceEqDiff, Nat.reduceMod, Nat.reduceLT, Nat.reduceLeDiff, Nat.reduceSub, Nat.reduceMul, Nat.reduceBEq, Int.reduceAdd, Int.reduceSub, Int.reduceMul, Int.reduceNeg, Int.reduceLT, Int.reduceLE, Int.reduceToNat, Int.reduceEq, Int.reduceBEq, opW_mark, opDW_mark, rMark, rmD_r, rowOf_own o4, rowOf_own o3, rowOf_own o2, oK4, own_some oK4, Option.isSome_some]
  refine (ans_scput (s := secK) (hC.kept0 K14) (rP1.kept0 K14) (by simp only [blkOf, List.mem_singleton]; rintro b rfl hb; have := hW _ hb; omega) (show 0 ≤ 1000 by omega) (by decide)).mono ?_
  rintro _ m5 ⟨W5, R5, w5, k5, hC5, hR5, rfl, rw5, bw5⟩
  have o5 := k5.own o4 (by intro h; have := hW _ h; omega)
  have hWl := hC.lt
  have rw45 : RdB m5 w4 (putL (.box key) secK) := rdb_ap rw4 k5 fun q hq h => by have := (bw4 q hq).1; have := hWl q h; omega
  rw [he]
  simp -implicitDefEqProofs (disch := (first | omega | (simp only [lenB, lowB_len, numB_len, nsumB_len] <;> omega) | fail)) only [admQ, lenB, lowB_len, numB_len, nsumB_len, aFill, AK.cls, implies_true, ↓reduceIte, reduceCtorEq, if_true, if_false, Nat.reduceAdd, Nat.reduceEqDiff, Nat.reduceMod, Nat.reduceLT, Nat.reduceLeDiff, Nat.reduceSub, Nat.reduceMul, Nat.reduceBEq, Int.reduceAdd, Int.reduceSub, Int.reduceMul, Int.reduceNeg, Int.reduceLT, Int.reduceLE, Int.reduceToNat, Int.reduceEq, Int.reduceBEq, opW_mark, opDW_mark, rMark, rmD_r, rowOf_own o5]
  have K5 : Kept [] m m5 := (K3.trans k4).upon k5 fun q hq => by have := hW q hq; omega
  generalize hD : m5 ++ _ = D
  have k6 : Kept [] m5 D := by rw [← hD]; exact .app _ _ _
  have rK6 : RdB D (.sl m5.length 0 3 3 0) [107#8, 101#8, 121#8] := by
    rw [← hD]; exact RdB.row (l := [107#8, 101#8, 121#8]) 3 0 (by rw [rowOf_app_at0]; rfl) (by simp)
  clear hD
  rw [hkey] at rK6
  refine (ans_senew ((K5.trans k6).row hK (by simp)) rK6 (by omega)).mono ?_
  rintro _ m7 ⟨y7, c7, kb7, kk7, rfl, k7, hlow7, hs7⟩
  have hS7 : Cy m7 y7 [] [y7, c7, kb7, kk7, 0] (.box key) := ⟨c7, kb7, kk7, hs7, rfl, rfl⟩
  have K57 := k6.trans k7
  have hP1 : (putL (.box key) secK).length = 54 := putL_len secK_ok
  have hP2 : (putL (.nm [] []) secK).length = 54 := putL_len secK_ok
  obtain ⟨g1, g2⟩ := get_put (c := .box key) (c2 := .box key) secK_ok rfl
  simp -implicitDefEqProofs (disch := (first | omega | (simp only [lenB, lowB_len, numB_len, nsumB_len] <;> omega) | fail)) only [admQ, lenB, lowB_len, numB_len, nsumB_len, aFill, AK.cls, implies_true, ↓reduceIte, reduceCtorEq, if_true, if_false, Nat.reduceAdd, Nat.reduceEqDiff, Nat.reduceMod, Nat.reduceLT, Nat.reduceLeDiff, Nat.reduceSub, Nat.reduceMul, Nat.reduceBEq, Int.reduceAdd, Int.reduceSub, Int.reduceMul, Int.reduceNeg, Int.reduceLT, Int.reduceLE, Int.reduceToNat, Int.reduceEq, Int.reduceBEq, opW_mark, opDW_mark, rMark, rmD_r, rowOf_own o5]
  refine (ans_scget (k := 4) (a := 3) hS7 (rw45.kept0 K57) trivial (by omega)).mono ?_
  rintro _ m8 ⟨k8, w8, rfl, rw8, bw8⟩
  rw [show getE (.box key) 4 3 (putL (.box key) secK) = 0 from g1, show getS (.box key) 4 3 (putL (.box key) secK) = secK from g2] at *
  unfold secV
  simp -implicitDefEqProofs (disch := (first | omega | (simp only [lenB, lowB_len, numB_len, nsumB_len] <;> omega) | fail)) only [admQ, lenB, lowB_len, numB_len, nsumB_len, aFill, AK.cls, implies_true, ↓reduceIte, reduceCtorEq, if_true, if_false, Nat.reduceAdd, Nat.reduceEqDiff, Nat.reduceMod, Nat.reduceLT, Nat.reduceLeDiff, Nat.reduceSub, Nat.reduceMul, Nat.reduceBEq, Int.reduceAdd, Int.reduceSub, Int.reduceMul, Int.reduceNeg, Int.reduceLT, Int.reduceLE, Int.reduceToNat, Int.reduceEq, Int.reduceBEq, (rd_one rw8).1, (rd_one rw8).2]
  generalize hE : m8 ++ _ = E
  have k9 : Kept [] m8 E := by rw [← hE]; exact .app _ _ _
  have o9 : own E m8.length = some [.int .i64 secK.k, .int .i64 secK.e, .int .i64 secK.n, .int .i64 secK.a, w8] := by rw [← hE, own_app_at0]; rfl
  clear hE
  have K59 := (K57.trans k8).trans k9
  have cS : CyS.nm [secD secK] [] = putC (.nm [] []) secK := by
    rw [putC, if_pos secK_ok, cyNx, sealS2, if_pos (okP_may secK_ok)]
    simp [addN]
  have hC9 : Cy E x W5 R5 (putC (.nm [] []) secK) := hC5.kept0 K59
  have hok9 : cyOk (putC (.nm [] []) secK) 1000 := by rw [← cS]; exact (by decide : (1 : Nat) ≤ 1000)
  obtain ⟨g3, g4⟩ := get_put (c := .nm [] []) (c2 := putC (.nm [] []) secK) secK_ok (by rw [putC, if_pos secK_ok]; exact cyHas_nx _ (okP_may secK_ok))
  have g5 := known_no []
  have cT : ∀ z : Nat, AV.iface 45 (.ptr z 0) = .iface (cyT (putC (.nm [] []) secK)) (.ptr z 0) := fun z => by rw [← cS]; rfl
  rw [cT]
  refine (ans_scget (k := 4) (a := 3) hC9 (rw5.kept0 K59) hok9 (by omega)).mono ?_
  rintro _ m10 ⟨k10, w10, rfl, rw10, bw10⟩
  rw [show getE (putC (.nm [] []) secK) 4 3 (putL (.nm [] []) secK) = 0 from g3, show getS (putC (.nm [] []) secK) 4 3 (putL (.nm [] []) secK) = secK from g4] at *
  unfold secV
  simp -implicitDefEqProofs (disch := (first | omega | (simp only [lenB, lowB_len, numB_len, nsumB_len] <;> omega) | fail)) only [admQ, lenB, lowB_len, numB_len, nsumB_len, aFill, AK.cls, implies_true, ↓reduceIte, reduceCtorEq, if_true, if_false, Nat.reduceAdd, Nat.reduceEqDiff, Nat.reduceMod, Nat.reduceLT, Nat.reduceLeDiff, Nat.reduceSub, Nat.reduceMul, Nat.reduceBEq, Int.reduceAdd, Int.reduceSub, Int.reduceMul, Int.reduceNeg, Int.reduceLT, Int.reduceLE, Int.reduceToNat, Int.reduceEq, Int.reduceBEq, (rd_one rw10).1, (rd_one rw10).2]
  generalize hF : m10 ++ _ = F
  have k11 : Kept [] m10 F := by rw [← hF]; exact .app _ _ _
  have o11 : own F m10.length = some [.int .i64 secK.k, .int .i64 secK.e, .int .i64 secK.n, .int .i64 secK.a, w10] := by rw [← hF, own_app_at0]; rfl
  clear hF
  have K511 := (K59.trans k10).trans k11
  rw [cT]
  refine (ans_scget (k := 4) (a := 4) (hC5.kept0 K511) (rw5.kept0 K511) hok9 (by omega)).mono ?_
  rintro _ m12 ⟨k12, w12, rfl, rw12, bw12⟩
  rw [g5] at *
  unfold secV
  have K512 := K511.trans k12
  simp -implicitDefEqProofs (disch := (first | omega | (simp only [lenB, lowB_len, numB_len, nsumB_len] <;> omega) | fail)) only [admQ, lenB, lowB_len, numB_len, nsumB_len, aFill, AK.cls, implies_true, ↓reduceIte, reduceCtorEq, if_true, if_false, Nat.reduceAdd, Nat.reduceEqDiff, Nat.reduceMod, Nat.reduceLT, Nat.reduceLeDiff, Nat.reduceSub, Nat.reduceMul, Nat.reduceBEq, Int.reduceAdd, Int.reduceSub, Int.reduceMul, Int.reduceNeg, Int.reduceLT, Int.reduceLE, Int.reduceToNat, Int.reduceEq, Int.reduceBEq, (rd_one rw12).1, (rd_one rw12).2, (rw45.kept0 K512).len, (rw5.kept0 K512).len, hP1, hP2]
  generalize hG : m12 ++ _ = G
  have k13 : Kept [] m12 G := by rw [← hG]; exact .app _ _ _
  clear hG
  have k1013 := (k11.trans k12).trans k13
  have k813 := (k9.trans k10).trans k1013
  have K513 := K512.trans k13
  have o13 := K513.own o5 (by simp)
  have p13 := (k10.trans k1013).own o9 (by simp)
  have q13 := (k12.trans k13).own o11 (by simp)
  have r13 : RdB G (.sl m.length 0 5 5 0) plainK := (rdb_ap (rP1.kept0 K14) k5 fun q hq h => by
    simp only [blkOf, List.mem_singleton] at hq
    subst hq
    have := hW _ h
    omega).kept0 K513
  simp -implicitDefEqProofs (disch := (first | omega | (simp only [lenB, lowB_len, numB_len, nsumB_len] <;> omega) | fail)) only [admQ, lenB, lowB_len, numB_len, nsumB_len, aFill, AK.cls, implies_true, ↓reduceIte, reduceCtorEq, if_true, if_false, Nat.reduceAdd, Nat.reduceEqDiff, Nat.reduceMod, Nat.reduceLT, Nat.reduceLeDiff, Nat.reduceSub, Nat.reduceMul, Nat.reduceBEq, Int.reduceAdd, Int.reduceSub, Int.reduceMul, Int.reduceNeg, Int.reduceLT, Int.reduceLE, Int.reduceToNat, Int.reduceEq, Int.reduceBEq, rowOf_own o13, rowOf_own p13, rowOf_own q13]
  refine (ans_samesector (s := secK) (t := secK) (rw8.kept0 k813) r13 (by decide)).mono ?_
  rintro _ m14 ⟨rfl, k14⟩
  simp -implicitDefEqProofs (disch := (first | omega | (simp only [lenB, lowB_len, numB_len, nsumB_len] <;> omega) | fail)) only [admQ, lenB, lowB_len, numB_len, nsumB_len, aFill, AK.cls, implies_true, ↓reduceIte, reduceCtorEq, if_true, if_false, Nat.reduceAdd, Nat.reduceEqDiff, Nat.reduceMod, Nat.reduceLT, Nat.reduceLeDiff, Nat.reduceSub, Nat.reduceMul, Nat.reduceBEq, Int.reduceAdd, Int.reduceSub, Int.reduceMul, Int.reduceNeg, Int.reduceLT, Int.reduceLE, Int.reduceToNat, Int.reduceEq, Int.reduceBEq, rowOf_own (k14.own o13 (by simp)), rowOf_own (k14.own p13 (by simp)), rowOf_own (k14.own q13 (by simp)), decide_true]
  refine (ans_samesector (s := secK) (t := secK) ((rw10.kept0 k1013).kept0 k14) (r13.kept0 k14) (by decide)).mono ?_
  rintro _ m15 ⟨rfl, k15⟩
  simp -implicitDefEqProofs (disch := (first | omega | (simp only [lenB, lowB_len, numB_len, nsumB_len] <;> omega) | fail)) only [admQ, lenB, lowB_len, numB_len, nsumB_len, aFill, AK.cls, implies_true, ↓reduceIte, reduceCtorEq, if_true, if_false, Nat.reduceAdd, Nat.reduceEqDiff, Nat.reduceMod, Nat.reduceLT, Nat.reduceLeDiff, Nat.reduceSub, Nat.reduceMul, Nat.reduceBEq, Int.reduceAdd, Int.reduceSub, Int.reduceMul, Int.reduceNeg, Int.reduceLT, Int.reduceLE, Int.reduceToNat, Int.reduceEq, Int.reduceBEq, decide_true]
  exact ((K5.trans K513).trans k14).trans k15
end Go.Proofs.YtmnlmjlmbceimaaGreatDoor
end
