/- Texts of this seat, joined (part 5 of 5): an abstract memory for Go programs, this seat's functions as abstract code, and what each of them does. -/
import Derived.Test.YtdmdakaliilghaaDoorM4
set_option linter.unusedSimpArgs false
section
/- Sealing: two boxes of one key are one. -/
namespace Go.Proofs.YtdmdakaliilghaaDoor
open Go Go.Adm
set_option linter.unusedSimpArgs false
set_option linter.unusedVariables false
set_option maxRecDepth 100000
theorem take_gb {l : List B8} {i : Nat} (h : i < l.length) : l.take (i + 1) = l.take i ++ [gb l i] := by
  rw [List.take_add_one]; simp [gb, h]
theorem ans_copybytes {m : Mem} {x : AV} {l : List B8} (hx : RdB m x l) (hl : l.length ≤ 1000000000) :
    Ans Tryd.prog 21 [x] m fun r m' => Kept [] m m' ∧ GrB m.length m' r l := by
  refine ans_ret mixed ok21 ?_
  simp -implicitDefEqProofs (disch := (first | omega | (simp only [lenB, lowB_len, macB_len, tagB_len, turnB_len] <;> omega) | fail)) only [admQ, lenB, lowB_len, macB_len, tagB_len, turnB_len, aFill, AK.cls, implies_true, ↓reduceIte, reduceCtorEq, if_true, if_false, Nat.reduceAdd, Nat.reduceEqDiff, Nat.reduceMod, Nat.reduceLT, Nat.reduceLeDiff, Nat.reduceSub, Nat.reduceMul, Nat.reduceBEq, Int.reduceAdd, Int.reduceSub, Int.reduceMul, Int.reduceNeg, Int.reduceLT, Int.reduceLE, Int.reduceToNat, Int.reduceEq, Int.reduceBEq, c21, r21]
  refine LoopW.on (fun t : Nat × AV => [(0, x), (3, t.2), (4, .int .i64 t.1)]) (fun t => l.length - t.1) (fun t M => t.1 ≤ l.length ∧ Kept [] m M ∧ GrB m.length M t.2 (l.take t.1)) ?_ (0, .nils) _ _ rfl ⟨by simp, .refl _ _, .nils ..⟩
  rintro ⟨i, y⟩ M X ⟨hi, kk, g⟩ hX
  change GrB m.length M y (l.take i) at g
  simp only at hi
  by_cases hlt : i < l.length
  · have hlen := hx.len
    obtain ⟨b, o, cap, s, c, rfl, hrow, hat, _⟩ := hx.cons hlt
    have hr := kk.row hrow (by simp)
    have e := hat i hlt
    simp -implicitDefEqProofs (disch := (first | omega | (simp only [lenB, lowB_len, macB_len, tagB_len, turnB_len] <;> omega) | fail)) only [admQ, lenB, lowB_len, macB_len, tagB_len, turnB_len, aFill, AK.cls, implies_true, ↓reduceIte, reduceCtorEq, if_true, if_false, Nat.reduceAdd, Nat.reduceEqDiff, Nat.reduceMod, Nat.reduceLT, Nat.reduceLeDiff, Nat.reduceSub, Nat.reduceMul, Nat.reduceBEq, Int.reduceAdd, Int.reduceSub, Int.reduceMul, Int.reduceNeg, Int.reduceLT, Int.reduceLE, Int.reduceToNat, Int.reduceEq, Int.reduceBEq, hlen, hr, e]
    obtain ⟨x3, m3, e3, g3, k3, a3⟩ := g.push (gb l i) (by simp; omega) kk.len
    refine someW_eq e3 ?_
    simp -implicitDefEqProofs (disch := (first | omega | (simp only [lenB, lowB_len, macB_len, tagB_len, turnB_len] <;> omega) | fail)) only [admQ, lenB, lowB_len, macB_len, tagB_len, turnB_len, aFill, AK.cls, implies_true, ↓reduceIte, reduceCtorEq, if_true, if_false, Nat.reduceAdd, Nat.reduceEqDiff, Nat.reduceMod, Nat.reduceLT, Nat.reduceLeDiff, Nat.reduceSub, Nat.reduceMul, Nat.reduceBEq, Int.reduceAdd, Int.reduceSub, Int.reduceMul, Int.reduceNeg, Int.reduceLT, Int.reduceLE, Int.reduceToNat, Int.reduceEq, Int.reduceBEq]
    refine hX (i + 1, x3) _ _ rfl (by simp only; omega) ⟨by simp only; omega, a3 _ _ kk (Nat.le_refl _), ?_⟩
    show GrB m.length m3 x3 (l.take (i + 1))
    rw [take_gb hlt]; exact g3
  · obtain rfl : i = l.length := by omega
    rw [List.take_length] at g
    simp -implicitDefEqProofs (disch := (first | omega | (simp only [lenB, lowB_len, macB_len, tagB_len, turnB_len] <;> omega) | fail)) only [admQ, lenB, lowB_len, macB_len, tagB_len, turnB_len, aFill, AK.cls, implies_true, ↓reduceIte, reduceCtorEq, if_true, if_false, Nat.reduceAdd, Nat.reduceEqDiff, Nat.reduceMod, Nat.reduceLT, Nat.reduceLeDiff, Nat.reduceSub, Nat.reduceMul, Nat.reduceBEq, Int.reduceAdd, Int.reduceSub, Int.reduceMul, Int.reduceNeg, Int.reduceLT, Int.reduceLE, Int.reduceToNat, Int.reduceEq, Int.reduceBEq, hx.len]
    exact ⟨kk, g⟩
theorem ans_SealEither {m : Mem} {x h y : AV} {key head : List B8} {L : List (List B8)} {e n : Int} (hK : rowOf m 0 = some (wds kT)) (hx : RdB m x key) (hh : RdB m h head) (hy : RdLs m y L) :
    Ans Tryd.prog 7 [x, .agg [.int .i64 e, .int .i64 n, h], y] m fun r m' => r = .bool true ∧ Kept [] m m' := by
  refine ans_ret mixed ok7 ?_
  have k0 := Kept.app [] m [Blk.row [.int .i64 e, .int .i64 n, h] false]
  have o0 : own (m ++ [Blk.row [.int .i64 e, .int .i64 n, h] false]) m.length = some [.int .i64 e, .int .i64 n, h] := by rw [own_app_at0]; rfl
  have known : ∀ M, Kept [] (m ++ [Blk.row [.int .i64 e, .int .i64 n, h] false]) M → Ans Tryd.prog 8 [] M fun r m' => r = .bool true ∧ Kept [] m m' := fun M hk =>
    (ans_seknown ((k0.trans hk).row hK (by simp))).mono fun r m' ⟨h1, h2⟩ => ⟨h1, (k0.trans hk).trans h2⟩
  by_cases h1 : (key.length : Int) > 4096
  · simp -implicitDefEqProofs (disch := (first | omega | (simp only [lenB, lowB_len, macB_len, tagB_len, turnB_len] <;> omega) | fail)) only [admQ, lenB, lowB_len, macB_len, tagB_len, turnB_len, aFill, AK.cls, implies_true, ↓reduceIte, reduceCtorEq, if_true, if_false, Nat.reduceAdd, Nat.reduceEqDiff, Nat.reduceMod, Nat.reduceLT, Nat.reduceLeDiff, Nat.reduceSub, Nat.reduceMul, Nat.reduceBEq, Int.reduceAdd, Int.reduceSub, Int.reduceMul, Int.reduceNeg, Int.reduceLT, Int.reduceLE, Int.reduceToNat, Int.reduceEq, Int.reduceBEq, c7, r7, hx.len, dec_t h1]
    refine (known _ (.refl _ _)).mono ?_
    rintro _ m1 ⟨rfl, k1⟩
    simp -implicitDefEqProofs (disch := (first | omega | (simp only [lenB, lowB_len, macB_len, tagB_len, turnB_len] <;> omega) | fail)) only [admQ, lenB, lowB_len, macB_len, tagB_len, turnB_len, aFill, AK.cls, implies_true, ↓reduceIte, reduceCtorEq, if_true, if_false, Nat.reduceAdd, Nat.reduceEqDiff, Nat.reduceMod, Nat.reduceLT, Nat.reduceLeDiff, Nat.reduceSub, Nat.reduceMul, Nat.reduceBEq, Int.reduceAdd, Int.reduceSub, Int.reduceMul, Int.reduceNeg, Int.reduceLT, Int.reduceLE, Int.reduceToNat, Int.reduceEq, Int.reduceBEq]
    exact k1
  by_cases h2 : (head.length : Int) > 4096
  · simp -implicitDefEqProofs (disch := (first | omega | (simp only [lenB, lowB_len, macB_len, tagB_len, turnB_len] <;> omega) | fail)) only [admQ, lenB, lowB_len, macB_len, tagB_len, turnB_len, aFill, AK.cls, implies_true, ↓reduceIte, reduceCtorEq, if_true, if_false, Nat.reduceAdd, Nat.reduceEqDiff, Nat.reduceMod, Nat.reduceLT, Nat.reduceLeDiff, Nat.reduceSub, Nat.reduceMul, Nat.reduceBEq, Int.reduceAdd, Int.reduceSub, Int.reduceMul, Int.reduceNeg, Int.reduceLT, Int.reduceLE, Int.reduceToNat, Int.reduceEq, Int.reduceBEq, c7, r7, hx.len, hh.len, dec_f h1, dec_t h2]
    refine (known _ (.refl _ _)).mono ?_
    rintro _ m1 ⟨rfl, k1⟩
    simp -implicitDefEqProofs (disch := (first | omega | (simp only [lenB, lowB_len, macB_len, tagB_len, turnB_len] <;> omega) | fail)) only [admQ, lenB, lowB_len, macB_len, tagB_len, turnB_len, aFill, AK.cls, implies_true, ↓reduceIte, reduceCtorEq, if_true, if_false, Nat.reduceAdd, Nat.reduceEqDiff, Nat.reduceMod, Nat.reduceLT, Nat.reduceLeDiff, Nat.reduceSub, Nat.reduceMul, Nat.reduceBEq, Int.reduceAdd, Int.reduceSub, Int.reduceMul, Int.reduceNeg, Int.reduceLT, Int.reduceLE, Int.reduceToNat, Int.reduceEq, Int.reduceBEq]
    exact k1
  simp -implicitDefEqProofs (disch := (first | omega | (simp only [lenB, lowB_len, macB_len, tagB_len, turnB_len] <;> omega) | fail)) only [admQ, lenB, lowB_len, macB_len, tagB_len, turnB_len, aFill, AK.cls, implies_true, ↓reduceIte, reduceCtorEq, if_true, if_false, Nat.reduceAdd, Nat.reduceEqDiff, Nat.reduceMod, Nat.reduceLT, Nat.reduceLeDiff, Nat.reduceSub, Nat.reduceMul, Nat.reduceBEq, Int.reduceAdd, Int.reduceSub, Int.reduceMul, Int.reduceNeg, Int.reduceLT, Int.reduceLE, Int.reduceToNat, Int.reduceEq, Int.reduceBEq, c7, r7, hx.len, hh.len, dec_f h1, dec_f h2]
  generalize m ++ [Blk.row [.int .i64 e, .int .i64 n, h] false] = A at k0 o0 known
  refine (ans_senew (k0.row hK (by simp)) (hx.kept0 k0) (by omega)).mono ?_
  rintro _ m1 ⟨b1, c1, kb1, q1, rfl, k1, hlow1, hs1⟩
  simp -implicitDefEqProofs (disch := (first | omega | (simp only [lenB, lowB_len, macB_len, tagB_len, turnB_len] <;> omega) | fail)) only [admQ, lenB, lowB_len, macB_len, tagB_len, turnB_len, aFill, AK.cls, implies_true, ↓reduceIte, reduceCtorEq, if_true, if_false, Nat.reduceAdd, Nat.reduceEqDiff, Nat.reduceMod, Nat.reduceLT, Nat.reduceLeDiff, Nat.reduceSub, Nat.reduceMul, Nat.reduceBEq, Int.reduceAdd, Int.reduceSub, Int.reduceMul, Int.reduceNeg, Int.reduceLT, Int.reduceLE, Int.reduceToNat, Int.reduceEq, Int.reduceBEq]
  refine (ans_copybytes (hx.kept0 (k0.trans k1)) (by omega)).mono ?_
  rintro r m2 ⟨k2, g2⟩
  simp -implicitDefEqProofs (disch := (first | omega | (simp only [lenB, lowB_len, macB_len, tagB_len, turnB_len] <;> omega) | fail)) only [admQ, lenB, lowB_len, macB_len, tagB_len, turnB_len, aFill, AK.cls, implies_true, ↓reduceIte, reduceCtorEq, if_true, if_false, Nat.reduceAdd, Nat.reduceEqDiff, Nat.reduceMod, Nat.reduceLT, Nat.reduceLeDiff, Nat.reduceSub, Nat.reduceMul, Nat.reduceBEq, Int.reduceAdd, Int.reduceSub, Int.reduceMul, Int.reduceNeg, Int.reduceLT, Int.reduceLE, Int.reduceToNat, Int.reduceEq, Int.reduceBEq]
  have K2 := k1.trans k2
  refine (ans_senew ((k0.trans K2).row hK (by simp)) g2.rd (by omega)).mono ?_
  rintro _ m3 ⟨b2, c2, kb2, q2, rfl, k3, hlow2, hs2⟩
  have K3 := K2.trans k3
  replace hs1 := hs1.kept0 (k2.trans k3)
  simp -implicitDefEqProofs (disch := (first | omega | (simp only [lenB, lowB_len, macB_len, tagB_len, turnB_len] <;> omega) | fail)) only [admQ, lenB, lowB_len, macB_len, tagB_len, turnB_len, aFill, AK.cls, implies_true, ↓reduceIte, reduceCtorEq, if_true, if_false, Nat.reduceAdd, Nat.reduceEqDiff, Nat.reduceMod, Nat.reduceLT, Nat.reduceLeDiff, Nat.reduceSub, Nat.reduceMul, Nat.reduceBEq, Int.reduceAdd, Int.reduceSub, Int.reduceMul, Int.reduceNeg, Int.reduceLT, Int.reduceLE, Int.reduceToNat, Int.reduceEq, Int.reduceBEq]
  have hx1 : (n < 0 → ¬ placedP e n) := fun h hp => by unfold placedP at hp; omega
  refine LoopW.on (fun i : Nat => [(2, y), (4, .ptr m.length 0), (7, .ptr b1 0), (8, .ptr b2 0), (9, .int .i64 i)]) (fun i => L.length - i) (fun i M => i ≤ L.length ∧ Kept [] m3 M) ?_ 0 _ _ rfl ⟨by omega, .refl _ _⟩
  rintro i M X ⟨hi, kM⟩ hX
  have KM := K3.trans kM
  by_cases hlt : i < L.length
  · by_cases h10 : i < 10
    · rcases hy with ⟨_, rfl⟩ | ⟨bl, cap, hs, rfl, hrow, hhl, hel⟩
      · simp at hlt
      have hrM := (k0.trans KM).row hrow (by simp)
      have r1 := rowOf_own (KM.own o0 (by simp))
      obtain ⟨v, hv⟩ : ∃ v, hs[i]? = some v := ⟨_, List.getElem?_eq_getElem (by omega)⟩
      obtain ⟨l, hl⟩ : ∃ l, L[i]? = some l := ⟨_, List.getElem?_eq_getElem hlt⟩
      have hvl := (hel i v l hv hl).kept0 (k0.trans KM)
      have d1 : decide ((i : Int) < (L.length : Int)) = true := dec_t (by omega)
      have d2 : decide ((i : Int) < 10) = true := dec_t (by omega)
      by_cases hbig : (l.length : Int) > 4096
      · simp -implicitDefEqProofs (disch := (first | omega | (simp only [lenB, lowB_len, macB_len, tagB_len, turnB_len] <;> omega) | fail)) only [admQ, lenB, lowB_len, macB_len, tagB_len, turnB_len, aFill, AK.cls, implies_true, ↓reduceIte, reduceCtorEq, if_true, if_false, Nat.reduceAdd, Nat.reduceEqDiff, Nat.reduceMod, Nat.reduceLT, Nat.reduceLeDiff, Nat.reduceSub, Nat.reduceMul, Nat.reduceBEq, Int.reduceAdd, Int.reduceSub, Int.reduceMul, Int.reduceNeg, Int.reduceLT, Int.reduceLE, Int.reduceToNat, Int.reduceEq, Int.reduceBEq, d1, d2, hrM, hv, hvl.len, dec_t hbig]
        refine (known _ KM).mono ?_
        rintro _ m1 ⟨rfl, k1⟩
        simp -implicitDefEqProofs (disch := (first | omega | (simp only [lenB, lowB_len, macB_len, tagB_len, turnB_len] <;> omega) | fail)) only [admQ, lenB, lowB_len, macB_len, tagB_len, turnB_len, aFill, AK.cls, implies_true, ↓reduceIte, reduceCtorEq, if_true, if_false, Nat.reduceAdd, Nat.reduceEqDiff, Nat.reduceMod, Nat.reduceLT, Nat.reduceLeDiff, Nat.reduceSub, Nat.reduceMul, Nat.reduceBEq, Int.reduceAdd, Int.reduceSub, Int.reduceMul, Int.reduceNeg, Int.reduceLT, Int.reduceLE, Int.reduceToNat, Int.reduceEq, Int.reduceBEq]
        exact k1
      · simp -implicitDefEqProofs (disch := (first | omega | (simp only [lenB, lowB_len, macB_len, tagB_len, turnB_len] <;> omega) | fail)) only [admQ, lenB, lowB_len, macB_len, tagB_len, turnB_len, aFill, AK.cls, implies_true, ↓reduceIte, reduceCtorEq, if_true, if_false, Nat.reduceAdd, Nat.reduceEqDiff, Nat.reduceMod, Nat.reduceLT, Nat.reduceLeDiff, Nat.reduceSub, Nat.reduceMul, Nat.reduceBEq, Int.reduceAdd, Int.reduceSub, Int.reduceMul, Int.reduceNeg, Int.reduceLT, Int.reduceLE, Int.reduceToNat, Int.reduceEq, Int.reduceBEq, d1, d2, hrM, hv, hvl.len, dec_f hbig, r1]
        have hh4 := hh.kept0 (k0.trans KM)
        have s1 := hs1.kept0 kM
        have s2 := hs2.kept0 kM
        refine (ans_seseal s1 hh4 hvl ⟨by omega, by omega⟩).mono ?_
        rintro ra M1 ⟨kA, gA, gA'⟩
        have rA := kA.row r1 (by simp)
        have hrA := kA.row hrM (by simp)
        simp -implicitDefEqProofs (disch := (first | omega | (simp only [lenB, lowB_len, macB_len, tagB_len, turnB_len] <;> omega) | fail)) only [admQ, lenB, lowB_len, macB_len, tagB_len, turnB_len, aFill, AK.cls, implies_true, ↓reduceIte, reduceCtorEq, if_true, if_false, Nat.reduceAdd, Nat.reduceEqDiff, Nat.reduceMod, Nat.reduceLT, Nat.reduceLeDiff, Nat.reduceSub, Nat.reduceMul, Nat.reduceBEq, Int.reduceAdd, Int.reduceSub, Int.reduceMul, Int.reduceNeg, Int.reduceLT, Int.reduceLE, Int.reduceToNat, Int.reduceEq, Int.reduceBEq, rA, hrA, hv]
        refine (ans_seopen (e := i) (n := i) (s2.kept0 kA) (.nils _) (hvl.kept0 kA) ⟨by simp, by omega⟩).mono ?_
        rintro ro M2 ⟨kB, -, -⟩
        have KB := kA.trans kB
        have rB := KB.row r1 (by simp)
        have hrB := KB.row hrM (by simp)
        simp -implicitDefEqProofs (disch := (first | omega | (simp only [lenB, lowB_len, macB_len, tagB_len, turnB_len] <;> omega) | fail)) only [admQ, lenB, lowB_len, macB_len, tagB_len, turnB_len, aFill, AK.cls, implies_true, ↓reduceIte, reduceCtorEq, if_true, if_false, Nat.reduceAdd, Nat.reduceEqDiff, Nat.reduceMod, Nat.reduceLT, Nat.reduceLeDiff, Nat.reduceSub, Nat.reduceMul, Nat.reduceBEq, Int.reduceAdd, Int.reduceSub, Int.reduceMul, Int.reduceNeg, Int.reduceLT, Int.reduceLE, Int.reduceToNat, Int.reduceEq, Int.reduceBEq, rB, hrB, hv]
        refine (ans_seseal (s2.kept0 KB) (hh4.kept0 KB) (hvl.kept0 KB) ⟨by omega, by omega⟩).mono ?_
        rintro rb M3 ⟨kC, gC, gC'⟩
        have KC := KB.trans kC
        have rC := KC.row r1 (by simp)
        have hrC := KC.row hrM (by simp)
        simp -implicitDefEqProofs (disch := (first | omega | (simp only [lenB, lowB_len, macB_len, tagB_len, turnB_len] <;> omega) | fail)) only [admQ, lenB, lowB_len, macB_len, tagB_len, turnB_len, aFill, AK.cls, implies_true, ↓reduceIte, reduceCtorEq, if_true, if_false, Nat.reduceAdd, Nat.reduceEqDiff, Nat.reduceMod, Nat.reduceLT, Nat.reduceLeDiff, Nat.reduceSub, Nat.reduceMul, Nat.reduceBEq, Int.reduceAdd, Int.reduceSub, Int.reduceMul, Int.reduceNeg, Int.reduceLT, Int.reduceLE, Int.reduceToNat, Int.reduceEq, Int.reduceBEq, rC, hrC, hv]
        have hsl := sealB_len key head e n l
        by_cases hp : placedP e n
        · replace gA := (gA hp).kept0 (kB.trans kC)
          replace gC := gC hp
          refine (ans_seopen (s2.kept0 KC) (hh4.kept0 KC) gA.rd ⟨by omega, by omega⟩).mono ?_
          rintro _ M4 ⟨kD, gD, -⟩
          obtain ⟨p, hp1, rfl, oD⟩ := gD (openP_seal _ hp)
          rw [sealB_take, turnB_back] at oD
          have KD := KC.trans kD
          have rD := KD.row r1 (by simp)
          have hrD := KD.row hrM (by simp)
          rw [show (sealB key head e n l).length - 32 = l.length by omega]
          simp -implicitDefEqProofs (disch := (first | omega | (simp only [lenB, lowB_len, macB_len, tagB_len, turnB_len] <;> omega) | fail)) only [admQ, lenB, lowB_len, macB_len, tagB_len, turnB_len, aFill, AK.cls, implies_true, ↓reduceIte, reduceCtorEq, if_true, if_false, Nat.reduceAdd, Nat.reduceEqDiff, Nat.reduceMod, Nat.reduceLT, Nat.reduceLeDiff, Nat.reduceSub, Nat.reduceMul, Nat.reduceBEq, Int.reduceAdd, Int.reduceSub, Int.reduceMul, Int.reduceNeg, Int.reduceLT, Int.reduceLE, Int.reduceToNat, Int.reduceEq, Int.reduceBEq, rD, hrD, hv]
          have hgp : decide ((((sealB key head e n l).length : Nat) : Int) > 0) = true := dec_t (by omega)
          refine (ans_samebytes (gA.kept0 kD).rd (gC.kept0 kD).rd (by omega)).mono ?_
          rintro _ MM ⟨rfl, hM⟩
          subst hM
          simp -implicitDefEqProofs (disch := (first | omega | (simp only [lenB, lowB_len, macB_len, tagB_len, turnB_len] <;> omega) | fail)) only [admQ, lenB, lowB_len, macB_len, tagB_len, turnB_len, aFill, AK.cls, implies_true, ↓reduceIte, reduceCtorEq, if_true, if_false, Nat.reduceAdd, Nat.reduceEqDiff, Nat.reduceMod, Nat.reduceLT, Nat.reduceLeDiff, Nat.reduceSub, Nat.reduceMul, Nat.reduceBEq, Int.reduceAdd, Int.reduceSub, Int.reduceMul, Int.reduceNeg, Int.reduceLT, Int.reduceLE, Int.reduceToNat, Int.reduceEq, Int.reduceBEq, beq_self_eq_true, rD, hrD, hv, gA.len, hgp, (gA.kept0 kD).len]
          have rP := RdB.row (m := MM) (l := l) l.length 0 (rowOf_own oD) (Nat.le_refl _)
          refine (ans_samebytes rP (hvl.kept0 KD) (by omega)).mono ?_
          rintro _ MM ⟨rfl, hM⟩
          subst hM
          simp -implicitDefEqProofs (disch := (first | omega | (simp only [lenB, lowB_len, macB_len, tagB_len, turnB_len] <;> omega) | fail)) only [admQ, lenB, lowB_len, macB_len, tagB_len, turnB_len, aFill, AK.cls, implies_true, ↓reduceIte, reduceCtorEq, if_true, if_false, Nat.reduceAdd, Nat.reduceEqDiff, Nat.reduceMod, Nat.reduceLT, Nat.reduceLeDiff, Nat.reduceSub, Nat.reduceMul, Nat.reduceBEq, Int.reduceAdd, Int.reduceSub, Int.reduceMul, Int.reduceNeg, Int.reduceLT, Int.reduceLE, Int.reduceToNat, Int.reduceEq, Int.reduceBEq, beq_self_eq_true, rD, hrD, hv, gA.len, hgp, (gA.kept0 kD).len]
          refine (ans_sesum (s1.kept0 KD).kT (hvl.kept0 KD) (by omega)).mono ?_
          rintro _ M5 ⟨rfl, kE⟩
          have KE := KD.trans kE
          have rE := KE.row r1 (by simp)
          have hrE := KE.row hrM (by simp)
          simp -implicitDefEqProofs (disch := (first | omega | (simp only [lenB, lowB_len, macB_len, tagB_len, turnB_len] <;> omega) | fail)) only [admQ, lenB, lowB_len, macB_len, tagB_len, turnB_len, aFill, AK.cls, implies_true, ↓reduceIte, reduceCtorEq, if_true, if_false, Nat.reduceAdd, Nat.reduceEqDiff, Nat.reduceMod, Nat.reduceLT, Nat.reduceLeDiff, Nat.reduceSub, Nat.reduceMul, Nat.reduceBEq, Int.reduceAdd, Int.reduceSub, Int.reduceMul, Int.reduceNeg, Int.reduceLT, Int.reduceLE, Int.reduceToNat, Int.reduceEq, Int.reduceBEq, rE, hrE, hrD, hv]
          refine (ans_sesum (s1.kept0 KE).kT (hvl.kept0 KE) (by omega)).mono ?_
          rintro _ M6 ⟨rfl, kF⟩
          have KF := KE.trans kF
          simp -implicitDefEqProofs (disch := (first | omega | (simp only [lenB, lowB_len, macB_len, tagB_len, turnB_len] <;> omega) | fail)) only [admQ, lenB, lowB_len, macB_len, tagB_len, turnB_len, aFill, AK.cls, implies_true, ↓reduceIte, reduceCtorEq, if_true, if_false, Nat.reduceAdd, Nat.reduceEqDiff, Nat.reduceMod, Nat.reduceLT, Nat.reduceLeDiff, Nat.reduceSub, Nat.reduceMul, Nat.reduceBEq, Int.reduceAdd, Int.reduceSub, Int.reduceMul, Int.reduceNeg, Int.reduceLT, Int.reduceLE, Int.reduceToNat, Int.reduceEq, Int.reduceBEq, KF.row r1 (by simp), KF.row hrM (by simp), hrD, hrE, hv, beq_self_eq_true, aEq_bys _ _ (shaB_len l) (shaB_len l), Bool.not_true]
          exact hX (i + 1) _ _ rfl (by omega) ⟨by omega, kM.trans KF⟩
        · obtain rfl := gA' hp
          obtain rfl := gC' hp
          refine (ans_seopen (b := []) (s2.kept0 KC) (hh4.kept0 KC) (.nils _) ⟨by omega, by simp⟩).mono ?_
          rintro _ M4 ⟨kD, -, gD⟩
          obtain rfl := gD (fun h => hp h.1)
          have KD := KC.trans kD
          have rD := KD.row r1 (by simp)
          have hrD := KD.row hrM (by simp)
          simp -implicitDefEqProofs (disch := (first | omega | (simp only [lenB, lowB_len, macB_len, tagB_len, turnB_len] <;> omega) | fail)) only [admQ, lenB, lowB_len, macB_len, tagB_len, turnB_len, aFill, AK.cls, implies_true, ↓reduceIte, reduceCtorEq, if_true, if_false, Nat.reduceAdd, Nat.reduceEqDiff, Nat.reduceMod, Nat.reduceLT, Nat.reduceLeDiff, Nat.reduceSub, Nat.reduceMul, Nat.reduceBEq, Int.reduceAdd, Int.reduceSub, Int.reduceMul, Int.reduceNeg, Int.reduceLT, Int.reduceLE, Int.reduceToNat, Int.reduceEq, Int.reduceBEq, rD, hrD, hv]
          refine (ans_samebytes (.nils _) (.nils _) (by simp)).mono ?_
          rintro _ MM ⟨rfl, hM⟩
          subst hM
          simp -implicitDefEqProofs (disch := (first | omega | (simp only [lenB, lowB_len, macB_len, tagB_len, turnB_len] <;> omega) | fail)) only [admQ, lenB, lowB_len, macB_len, tagB_len, turnB_len, aFill, AK.cls, implies_true, ↓reduceIte, reduceCtorEq, if_true, if_false, Nat.reduceAdd, Nat.reduceEqDiff, Nat.reduceMod, Nat.reduceLT, Nat.reduceLeDiff, Nat.reduceSub, Nat.reduceMul, Nat.reduceBEq, Int.reduceAdd, Int.reduceSub, Int.reduceMul, Int.reduceNeg, Int.reduceLT, Int.reduceLE, Int.reduceToNat, Int.reduceEq, Int.reduceBEq, beq_self_eq_true, rD, hrD, hv, (show decide ((0 : Int) > 0) = false from rfl), Bool.not_false, Bool.not_true, (show (false == false) = true from rfl), (show (true == false) = false from rfl)]
          refine (ans_sesum (s1.kept0 KD).kT (hvl.kept0 KD) (by omega)).mono ?_
          rintro _ M5 ⟨rfl, kE⟩
          have KE := KD.trans kE
          have rE := KE.row r1 (by simp)
          have hrE := KE.row hrM (by simp)
          simp -implicitDefEqProofs (disch := (first | omega | (simp only [lenB, lowB_len, macB_len, tagB_len, turnB_len] <;> omega) | fail)) only [admQ, lenB, lowB_len, macB_len, tagB_len, turnB_len, aFill, AK.cls, implies_true, ↓reduceIte, reduceCtorEq, if_true, if_false, Nat.reduceAdd, Nat.reduceEqDiff, Nat.reduceMod, Nat.reduceLT, Nat.reduceLeDiff, Nat.reduceSub, Nat.reduceMul, Nat.reduceBEq, Int.reduceAdd, Int.reduceSub, Int.reduceMul, Int.reduceNeg, Int.reduceLT, Int.reduceLE, Int.reduceToNat, Int.reduceEq, Int.reduceBEq, rE, hrE, hrD, hv]
          refine (ans_sesum (s1.kept0 KE).kT (hvl.kept0 KE) (by omega)).mono ?_
          rintro _ M6 ⟨rfl, kF⟩
          have KF := KE.trans kF
          simp -implicitDefEqProofs (disch := (first | omega | (simp only [lenB, lowB_len, macB_len, tagB_len, turnB_len] <;> omega) | fail)) only [admQ, lenB, lowB_len, macB_len, tagB_len, turnB_len, aFill, AK.cls, implies_true, ↓reduceIte, reduceCtorEq, if_true, if_false, Nat.reduceAdd, Nat.reduceEqDiff, Nat.reduceMod, Nat.reduceLT, Nat.reduceLeDiff, Nat.reduceSub, Nat.reduceMul, Nat.reduceBEq, Int.reduceAdd, Int.reduceSub, Int.reduceMul, Int.reduceNeg, Int.reduceLT, Int.reduceLE, Int.reduceToNat, Int.reduceEq, Int.reduceBEq, KF.row r1 (by simp), KF.row hrM (by simp), hrD, hrE, hv, beq_self_eq_true, aEq_bys _ _ (shaB_len l) (shaB_len l), Bool.not_true]
          exact hX (i + 1) _ _ rfl (by omega) ⟨by omega, kM.trans KF⟩
    · have d1 : decide ((i : Int) < (L.length : Int)) = true := dec_t (by omega)
      have d2 : decide ((i : Int) < 10) = false := dec_f (by omega)
      simp -implicitDefEqProofs (disch := (first | omega | (simp only [lenB, lowB_len, macB_len, tagB_len, turnB_len] <;> omega) | fail)) only [admQ, lenB, lowB_len, macB_len, tagB_len, turnB_len, aFill, AK.cls, implies_true, ↓reduceIte, reduceCtorEq, if_true, if_false, Nat.reduceAdd, Nat.reduceEqDiff, Nat.reduceMod, Nat.reduceLT, Nat.reduceLeDiff, Nat.reduceSub, Nat.reduceMul, Nat.reduceBEq, Int.reduceAdd, Int.reduceSub, Int.reduceMul, Int.reduceNeg, Int.reduceLT, Int.reduceLE, Int.reduceToNat, Int.reduceEq, Int.reduceBEq, d1, d2, hy.len]
      refine (known _ KM).mono ?_
      rintro _ m4 ⟨rfl, k4⟩
      simp -implicitDefEqProofs (disch := (first | omega | (simp only [lenB, lowB_len, macB_len, tagB_len, turnB_len] <;> omega) | fail)) only [admQ, lenB, lowB_len, macB_len, tagB_len, turnB_len, aFill, AK.cls, implies_true, ↓reduceIte, reduceCtorEq, if_true, if_false, Nat.reduceAdd, Nat.reduceEqDiff, Nat.reduceMod, Nat.reduceLT, Nat.reduceLeDiff, Nat.reduceSub, Nat.reduceMul, Nat.reduceBEq, Int.reduceAdd, Int.reduceSub, Int.reduceMul, Int.reduceNeg, Int.reduceLT, Int.reduceLE, Int.reduceToNat, Int.reduceEq, Int.reduceBEq]
      exact k4
  · obtain rfl : i = L.length := by omega
    have d1 : decide ((L.length : Int) < (L.length : Int)) = false := dec_f (by omega)
    simp -implicitDefEqProofs (disch := (first | omega | (simp only [lenB, lowB_len, macB_len, tagB_len, turnB_len] <;> omega) | fail)) only [admQ, lenB, lowB_len, macB_len, tagB_len, turnB_len, aFill, AK.cls, implies_true, ↓reduceIte, reduceCtorEq, if_true, if_false, Nat.reduceAdd, Nat.reduceEqDiff, Nat.reduceMod, Nat.reduceLT, Nat.reduceLeDiff, Nat.reduceSub, Nat.reduceMul, Nat.reduceBEq, Int.reduceAdd, Int.reduceSub, Int.reduceMul, Int.reduceNeg, Int.reduceLT, Int.reduceLE, Int.reduceToNat, Int.reduceEq, Int.reduceBEq, d1, hy.len]
    refine (known _ KM).mono ?_
    rintro _ m4 ⟨rfl, k4⟩
    simp -implicitDefEqProofs (disch := (first | omega | (simp only [lenB, lowB_len, macB_len, tagB_len, turnB_len] <;> omega) | fail)) only [admQ, lenB, lowB_len, macB_len, tagB_len, turnB_len, aFill, AK.cls, implies_true, ↓reduceIte, reduceCtorEq, if_true, if_false, Nat.reduceAdd, Nat.reduceEqDiff, Nat.reduceMod, Nat.reduceLT, Nat.reduceLeDiff, Nat.reduceSub, Nat.reduceMul, Nat.reduceBEq, Int.reduceAdd, Int.reduceSub, Int.reduceMul, Int.reduceNeg, Int.reduceLT, Int.reduceLE, Int.reduceToNat, Int.reduceEq, Int.reduceBEq]
    exact k4
end Go.Proofs.YtdmdakaliilghaaDoor
end
