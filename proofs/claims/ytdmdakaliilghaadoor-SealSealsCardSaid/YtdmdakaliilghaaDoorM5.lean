/- Texts of this seat, joined (part 5 of 5): an abstract memory for Go programs, this seat's functions as abstract code, and what each of them does. -/
import Derived.Test.YtdmdakaliilghaaDoorM4
set_option linter.unusedSimpArgs false
section
/- Digests of bytes; sums under a key. -/
namespace Go.Proofs.YtdmdakaliilghaaDoor
open Go Go.Adm
set_option linter.unusedSimpArgs false
set_option linter.unusedVariables false
set_option maxRecDepth 100000

theorem ans_shaof {m : Mem} {y : AV} {B : List B8} (hK : rowOf m 0 = some (wds kT)) (hB : RdB m y B) (hlen : B.length ≤ 1000000000) :
    Ans Tryd.prog 34 [y] m fun r m' => r = .agg (bys (shaB B)) ∧ Kept [] m m' := by
  refine ans_ret mixed ok34 ?_
  have h0 := rowOf_lt hK
  simp -implicitDefEqProofs (disch := (first | omega | (simp only [lenB, shaB_len] <;> omega) | fail)) only [admQ, lenB, shaB_len, aFill, AK.cls, implies_true, ↓reduceIte, reduceCtorEq, if_true, if_false, Nat.reduceAdd, Nat.reduceEqDiff, Nat.reduceMod, Nat.reduceLT, Nat.reduceLeDiff, Nat.reduceSub, Nat.reduceMul, Nat.reduceBEq, Int.reduceAdd, Int.reduceSub, Int.reduceMul, Int.reduceNeg, Int.reduceLT, Int.reduceLE, Int.reduceToNat, Int.reduceEq, Int.reduceBEq, c34, r34]
  have hA : (m ++ [Blk.row (bys (List.replicate 32 0#8)) false]).length = m.length + 1 := by simp
  have oA : own (m ++ [Blk.row (bys (List.replicate 32 0#8)) false]) m.length = some (bys (List.replicate 32 0#8)) := by rw [own_app_at0]; rfl
  have kA : Kept [] m (m ++ [Blk.row (bys (List.replicate 32 0#8)) false]) := .app _ _ _
  generalize m ++ [Blk.row (bys (List.replicate 32 0#8)) false] = A at hA oA kA
  refine (ans_shanew _).mono ?_
  rintro _ m1 ⟨rfl, k1, d1⟩
  simp -implicitDefEqProofs (disch := (first | omega | (simp only [lenB, shaB_len] <;> omega) | fail)) only [admQ, lenB, shaB_len, aFill, AK.cls, implies_true, ↓reduceIte, reduceCtorEq, if_true, if_false, Nat.reduceAdd, Nat.reduceEqDiff, Nat.reduceMod, Nat.reduceLT, Nat.reduceLeDiff, Nat.reduceSub, Nat.reduceMul, Nat.reduceBEq, Int.reduceAdd, Int.reduceSub, Int.reduceMul, Int.reduceNeg, Int.reduceLT, Int.reduceLE, Int.reduceToNat, Int.reduceEq, Int.reduceBEq]
  refine (ans_shaadd d1 ((kA.trans k1).row hK (by simp)) (by omega) ((hB.kept0 kA).kept0 k1) (fun b hb => by have := hB.blk_lt b hb; omega) (by simpa using hlen)).mono ?_
  rintro _ m2 ⟨rfl, w2, d2⟩
  rw [List.nil_append] at d2
  have w2' : Low A.length A m2 := ⟨Nat.le_trans k1.len w2.1, fun q hq => (w2.2 q hq).trans (k1.eq q hq (by simp))⟩
  simp -implicitDefEqProofs (disch := (first | omega | (simp only [lenB, shaB_len] <;> omega) | fail)) only [admQ, lenB, shaB_len, aFill, AK.cls, implies_true, ↓reduceIte, reduceCtorEq, if_true, if_false, Nat.reduceAdd, Nat.reduceEqDiff, Nat.reduceMod, Nat.reduceLT, Nat.reduceLeDiff, Nat.reduceSub, Nat.reduceMul, Nat.reduceBEq, Int.reduceAdd, Int.reduceSub, Int.reduceMul, Int.reduceNeg, Int.reduceLT, Int.reduceLE, Int.reduceToNat, Int.reduceEq, Int.reduceBEq]
  refine (ans_shasum d2 (w2.row ((kA.trans k1).row hK (by simp)) (by omega)) (by simpa using hlen)).mono ?_
  rintro _ m3 ⟨rfl, k3⟩
  have w3 : Low A.length A m3 := w2'.trans (.of_kept k3 (by simp) w2'.1)
  have oA' : own m3 m.length = some (bys (List.replicate 32 0#8)) := by unfold own at *; rw [w3.2 _ (by omega)]; exact oA
  have hsl := shaB_len B
  simp -implicitDefEqProofs (disch := (first | omega | (simp only [lenB, shaB_len] <;> omega) | fail)) only [admQ, lenB, shaB_len, aFill, AK.cls, implies_true, ↓reduceIte, reduceCtorEq, if_true, if_false, Nat.reduceAdd, Nat.reduceEqDiff, Nat.reduceMod, Nat.reduceLT, Nat.reduceLeDiff, Nat.reduceSub, Nat.reduceMul, Nat.reduceBEq, Int.reduceAdd, Int.reduceSub, Int.reduceMul, Int.reduceNeg, Int.reduceLT, Int.reduceLE, Int.reduceToNat, Int.reduceEq, Int.reduceBEq, oA', own_set (own_lt oA'), rowOf_own (own_set (own_lt oA') _)]
  exact (w3.kept kA (by omega)).write (.inr (Nat.le_refl _)) _

/-- A key's block, each byte xored. -/
def keyB (key : List B8) : List B8 := if 64 < key.length then shaB key ++ List.replicate 32 0#8 else key ++ List.replicate (64 - key.length) 0#8
theorem keyB_len (key : List B8) : (keyB key).length = 64 := by unfold keyB; split <;> simp [shaB_len] <;> omega
def blkX (key : List B8) (x : B8) : List B8 := tab 64 fun i => gb (keyB key) i ^^^ x
theorem blkX_len (key : List B8) (x : B8) : (blkX key x).length = 64 := tab_len _ _
def macB (key b : List B8) : List B8 := shaB (blkX key 92#8 ++ shaB (blkX key 54#8 ++ b))
theorem macB_len (key b : List B8) : (macB key b).length = 32 := shaB_len _

theorem splice_front {L : List B8} {n : Nat} (h : L.length ≤ n) : splice (bys (List.replicate n 0#8)) 0 (bys L) = bys (L ++ List.replicate (n - L.length) 0#8) := by
  simp [splice, List.map_append]
theorem ans_macblk {m : Mem} {y : AV} {key : List B8} (x : B8) (hK : rowOf m 0 = some (wds kT)) (hB : RdB m y key) (hlen : key.length ≤ 1000000000) :
    Ans Tryd.prog 52 [y, b8 x] m fun r m' => r = .agg (bys (blkX key x)) ∧ Kept [] m m' := by
  refine ans_ret mixed ok52 ?_
  simp -implicitDefEqProofs (disch := (first | omega | (simp only [lenB, shaB_len] <;> omega) | fail)) only [admQ, lenB, shaB_len, aFill, AK.cls, implies_true, ↓reduceIte, reduceCtorEq, if_true, if_false, Nat.reduceAdd, Nat.reduceEqDiff, Nat.reduceMod, Nat.reduceLT, Nat.reduceLeDiff, Nat.reduceSub, Nat.reduceMul, Nat.reduceBEq, Int.reduceAdd, Int.reduceSub, Int.reduceMul, Int.reduceNeg, Int.reduceLT, Int.reduceLE, Int.reduceToNat, Int.reduceEq, Int.reduceBEq, p52, r52]
  have hk0 := Kept.app [] m [Blk.row (bys (List.replicate 64 0#8)) false, Blk.row (bys (List.replicate 64 0#8)) false]
  have o4 : own (m ++ [Blk.row (bys (List.replicate 64 0#8)) false, Blk.row (bys (List.replicate 64 0#8)) false]) m.length = some (bys (List.replicate 64 0#8)) := by rw [own_app_at0]; rfl
  have o5 : own (m ++ [Blk.row (bys (List.replicate 64 0#8)) false, Blk.row (bys (List.replicate 64 0#8)) false]) (m.length + 1) = some (bys (List.replicate 64 0#8)) := by rw [own_app_at]; rfl
  generalize m ++ [Blk.row (bys (List.replicate 64 0#8)) false, Blk.row (bys (List.replicate 64 0#8)) false] = A at hk0 o4 o5
  have hl5 := own_lt o5
  refine wp_join2 [1, 4, 5] (fun _ : Unit => [(1, b8 x), (4, .ptr m.length 0), (5, .ptr (m.length + 1) 0)])
    (fun _ M => Kept [] m M ∧ own M m.length = some (bys (List.replicate 64 0#8)) ∧ own M (m.length + 1) = some (bys (keyB key))) rfl ?_ ?_
  · by_cases hlt : 64 < key.length
    · simp -implicitDefEqProofs (disch := (first | omega | (simp only [lenB, shaB_len] <;> omega) | fail)) only [admQ, lenB, shaB_len, aFill, AK.cls, implies_true, ↓reduceIte, reduceCtorEq, if_true, if_false, Nat.reduceAdd, Nat.reduceEqDiff, Nat.reduceMod, Nat.reduceLT, Nat.reduceLeDiff, Nat.reduceSub, Nat.reduceMul, Nat.reduceBEq, Int.reduceAdd, Int.reduceSub, Int.reduceMul, Int.reduceNeg, Int.reduceLT, Int.reduceLE, Int.reduceToNat, Int.reduceEq, Int.reduceBEq, c52_1, joins, hB.len]
      refine (ans_shaof (hk0.row hK (by simp)) (hB.kept0 hk0) hlen).mono ?_
      rintro _ m1 ⟨rfl, k1⟩
      have o4' := k1.own o4 (by simp)
      have o5' := k1.own o5 (by simp)
      have hsl := shaB_len key
      have hcp := copy_row (o := 0) (ld := 64) (cap := 64) (s := 0) (m := m1 ++ [Blk.row (bys (shaB key)) false]) (.row (l := shaB key) 32 0 (by rw [rowOf_own (c := bys (shaB key))]; rw [own_app_at0]; rfl) (by omega)) (own_app o5' _) (by simp) (by omega)
      rw [hsl] at hcp
      simp -implicitDefEqProofs (disch := (first | omega | (simp only [lenB, shaB_len] <;> omega) | fail)) only [admQ, lenB, shaB_len, aFill, AK.cls, implies_true, ↓reduceIte, reduceCtorEq, if_true, if_false, Nat.reduceAdd, Nat.reduceEqDiff, Nat.reduceMod, Nat.reduceLT, Nat.reduceLeDiff, Nat.reduceSub, Nat.reduceMul, Nat.reduceBEq, Int.reduceAdd, Int.reduceSub, Int.reduceMul, Int.reduceNeg, Int.reduceLT, Int.reduceLE, Int.reduceToNat, Int.reduceEq, Int.reduceBEq, hcp, joins]
      have hl1 := own_lt o5'
      refine ⟨(), ((hk0.trans k1).more_app _).write (.inr (by omega)) _, own_set_ne' (own_app o4' _) (by omega) _, ?_⟩
      rw [own_set (by simp; omega), splice_front (by omega), hsl, keyB, if_pos hlt]
    · simp -implicitDefEqProofs (disch := (first | omega | (simp only [lenB, shaB_len] <;> omega) | fail)) only [admQ, lenB, shaB_len, aFill, AK.cls, implies_true, ↓reduceIte, reduceCtorEq, if_true, if_false, Nat.reduceAdd, Nat.reduceEqDiff, Nat.reduceMod, Nat.reduceLT, Nat.reduceLeDiff, Nat.reduceSub, Nat.reduceMul, Nat.reduceBEq, Int.reduceAdd, Int.reduceSub, Int.reduceMul, Int.reduceNeg, Int.reduceLT, Int.reduceLE, Int.reduceToNat, Int.reduceEq, Int.reduceBEq, c52_1, joins, hB.len]
      rw [copy_row (hB.kept0 hk0) o5 (by simp) (by omega)]
      simp -implicitDefEqProofs (disch := (first | omega | (simp only [lenB, shaB_len] <;> omega) | fail)) only [admQ, lenB, shaB_len, aFill, AK.cls, implies_true, ↓reduceIte, reduceCtorEq, if_true, if_false, Nat.reduceAdd, Nat.reduceEqDiff, Nat.reduceMod, Nat.reduceLT, Nat.reduceLeDiff, Nat.reduceSub, Nat.reduceMul, Nat.reduceBEq, Int.reduceAdd, Int.reduceSub, Int.reduceMul, Int.reduceNeg, Int.reduceLT, Int.reduceLE, Int.reduceToNat, Int.reduceEq, Int.reduceBEq, joins]
      refine ⟨(), hk0.write (.inr (by omega)) _, own_set_ne' o4 (by omega) _, ?_⟩
      rw [own_set hl5, splice_front (by omega), keyB, if_neg hlt]
  · rintro _ M ⟨k, q4, q5⟩
    simp -implicitDefEqProofs (disch := (first | omega | (simp only [lenB, shaB_len] <;> omega) | fail)) only [admQ, lenB, shaB_len, aFill, AK.cls, implies_true, ↓reduceIte, reduceCtorEq, if_true, if_false, Nat.reduceAdd, Nat.reduceEqDiff, Nat.reduceMod, Nat.reduceLT, Nat.reduceLeDiff, Nat.reduceSub, Nat.reduceMul, Nat.reduceBEq, Int.reduceAdd, Int.reduceSub, Int.reduceMul, Int.reduceNeg, Int.reduceLT, Int.reduceLE, Int.reduceToNat, Int.reduceEq, Int.reduceBEq, c52_2]
    have hkl := keyB_len key
    refine LoopW.on (fun i : Nat => [(1, b8 x), (4, .ptr m.length 0), (5, .ptr (m.length + 1) 0), (19, .int .i64 i)]) (fun i => 64 - i)
      (fun i M => i ≤ 64 ∧ Kept [] m M ∧ own M m.length = some (bys (List.replicate 64 0#8)) ∧ own M (m.length + 1) = some (bys (upTo 64 (fun j => gb (keyB key) j ^^^ x) (gb (keyB key)) i))) ?_ 0 _ _ rfl ⟨by omega, k, q4, by rw [upTo_zero, tab_gb hkl]; exact q5⟩
    clear k q4 q5 hk0 o4 o5 hl5
    rintro i M X ⟨hi, k, q4, q5⟩ hX
    have hlM := own_lt q5
    by_cases hlt : i < 64
    · have hu := upTo_set (n := 64) (i := i) (f := fun j => gb (keyB key) j ^^^ x) (g := gb (keyB key))
      simp -implicitDefEqProofs (disch := (first | omega | (simp only [lenB, shaB_len] <;> omega) | fail)) only [admQ, lenB, shaB_len, aFill, AK.cls, implies_true, ↓reduceIte, reduceCtorEq, if_true, if_false, Nat.reduceAdd, Nat.reduceEqDiff, Nat.reduceMod, Nat.reduceLT, Nat.reduceLeDiff, Nat.reduceSub, Nat.reduceMul, Nat.reduceBEq, Int.reduceAdd, Int.reduceSub, Int.reduceMul, Int.reduceNeg, Int.reduceLT, Int.reduceLE, Int.reduceToNat, Int.reduceEq, Int.reduceBEq, rowOf_own q5, q5, splice_byte, hu]
      refine hX (i + 1) _ _ rfl (by omega) ⟨by omega, k.write (.inr (by omega)) _, own_set_ne' q4 (by omega) _, own_set hlM _⟩
    · obtain rfl : i = 64 := by omega
      rw [upTo_all, ← blkX] at q5
      have hbl := blkX_len key x
      simp -implicitDefEqProofs (disch := (first | omega | (simp only [lenB, shaB_len] <;> omega) | fail)) only [admQ, lenB, shaB_len, aFill, AK.cls, implies_true, ↓reduceIte, reduceCtorEq, if_true, if_false, Nat.reduceAdd, Nat.reduceEqDiff, Nat.reduceMod, Nat.reduceLT, Nat.reduceLeDiff, Nat.reduceSub, Nat.reduceMul, Nat.reduceBEq, Int.reduceAdd, Int.reduceSub, Int.reduceMul, Int.reduceNeg, Int.reduceLT, Int.reduceLE, Int.reduceToNat, Int.reduceEq, Int.reduceBEq, rowOf_own q5, q4, own_set (own_lt q4), rowOf_own (own_set (own_lt q4) _)]
      exact k.write (.inr (Nat.le_refl _)) _
end Go.Proofs.YtdmdakaliilghaaDoor
end
section
/- Sums under a key. -/
namespace Go.Proofs.YtdmdakaliilghaaDoor
open Go Go.Adm
set_option linter.unusedSimpArgs false
set_option linter.unusedVariables false
set_option maxRecDepth 100000

theorem ans_macof {m : Mem} {x y : AV} {key B : List B8} (hK : rowOf m 0 = some (wds kT)) (hx : RdB m x key) (hB : RdB m y B) (hkl : key.length ≤ 1000000000) (hlen : B.length ≤ 900000000) :
    Ans Tryd.prog 36 [x, y] m fun r m' => r = .agg (bys (macB key B)) ∧ Kept [] m m' := by
  refine ans_ret mixed ok36 ?_
  have h0 := rowOf_lt hK
  simp -implicitDefEqProofs (disch := (first | omega | (simp only [lenB, shaB_len, macB_len] <;> omega) | fail)) only [admQ, lenB, shaB_len, macB_len, aFill, AK.cls, implies_true, ↓reduceIte, reduceCtorEq, if_true, if_false, Nat.reduceAdd, Nat.reduceEqDiff, Nat.reduceMod, Nat.reduceLT, Nat.reduceLeDiff, Nat.reduceSub, Nat.reduceMul, Nat.reduceBEq, Int.reduceAdd, Int.reduceSub, Int.reduceMul, Int.reduceNeg, Int.reduceLT, Int.reduceLE, Int.reduceToNat, Int.reduceEq, Int.reduceBEq, c36, r36]
  have k0 := Kept.app [] m [Blk.row (bys (List.replicate 32 0#8)) false]
  have o0 : own (m ++ [Blk.row (bys (List.replicate 32 0#8)) false]) m.length = some (bys (List.replicate 32 0#8)) := by rw [own_app_at0]; rfl
  generalize m ++ [Blk.row (bys (List.replicate 32 0#8)) false] = A0 at k0 o0
  refine (ans_macblk 54#8 (k0.row hK (by simp)) (hx.kept0 k0) hkl).mono ?_
  rintro _ m1 ⟨rfl, k1⟩
  simp -implicitDefEqProofs (disch := (first | omega | (simp only [lenB, shaB_len, macB_len] <;> omega) | fail)) only [admQ, lenB, shaB_len, macB_len, aFill, AK.cls, implies_true, ↓reduceIte, reduceCtorEq, if_true, if_false, Nat.reduceAdd, Nat.reduceEqDiff, Nat.reduceMod, Nat.reduceLT, Nat.reduceLeDiff, Nat.reduceSub, Nat.reduceMul, Nat.reduceBEq, Int.reduceAdd, Int.reduceSub, Int.reduceMul, Int.reduceNeg, Int.reduceLT, Int.reduceLE, Int.reduceToNat, Int.reduceEq, Int.reduceBEq]
  refine (ans_macblk 92#8 ((k0.trans k1).row hK (by simp)) (hx.kept0 (k0.trans k1)) hkl).mono ?_
  rintro _ m2 ⟨rfl, k2⟩
  have li := blkX_len key 54#8
  have lo := blkX_len key 92#8
  simp -implicitDefEqProofs (disch := (first | omega | (simp only [lenB, shaB_len, macB_len] <;> omega) | fail)) only [admQ, lenB, shaB_len, macB_len, aFill, AK.cls, implies_true, ↓reduceIte, reduceCtorEq, if_true, if_false, Nat.reduceAdd, Nat.reduceEqDiff, Nat.reduceMod, Nat.reduceLT, Nat.reduceLeDiff, Nat.reduceSub, Nat.reduceMul, Nat.reduceBEq, Int.reduceAdd, Int.reduceSub, Int.reduceMul, Int.reduceNeg, Int.reduceLT, Int.reduceLE, Int.reduceToNat, Int.reduceEq, Int.reduceBEq]
  have kA := (k0.trans (k1.trans k2)).more_app [Blk.row (bys (blkX key 54#8)) false, Blk.row (bys (blkX key 92#8)) false]
  have oA := (k2.more_app [Blk.row (bys (blkX key 54#8)) false, Blk.row (bys (blkX key 92#8)) false]).own (k1.own o0 (by simp)) (by simp)
  have rI : RdB (m2 ++ [Blk.row (bys (blkX key 54#8)) false, Blk.row (bys (blkX key 92#8)) false]) (.sl m2.length 0 64 64 0) (blkX key 54#8) := by
    have := RdB.row (m := m2 ++ [Blk.row (bys (blkX key 54#8)) false, Blk.row (bys (blkX key 92#8)) false]) (b := m2.length) (l := blkX key 54#8) 64 0 (by rw [rowOf_app_at0]; rfl) (by omega)
    rwa [li] at this
  have rO : RdB (m2 ++ [Blk.row (bys (blkX key 54#8)) false, Blk.row (bys (blkX key 92#8)) false]) (.sl (m2.length + 1) 0 64 64 0) (blkX key 92#8) := by
    have := RdB.row (m := m2 ++ [Blk.row (bys (blkX key 54#8)) false, Blk.row (bys (blkX key 92#8)) false]) (b := m2.length + 1) (l := blkX key 92#8) 64 0 (by rw [rowOf_app_at]; rfl) (by omega)
    rwa [lo] at this
  have hAl : (m2 ++ [Blk.row (bys (blkX key 54#8)) false, Blk.row (bys (blkX key 92#8)) false]).length = m2.length + 2 := by simp
  have hl0 := own_lt oA
  generalize m2 ++ [Blk.row (bys (blkX key 54#8)) false, Blk.row (bys (blkX key 92#8)) false] = A at kA oA rI rO hAl hl0
  refine (ans_shanew _).mono ?_
  rintro _ m3 ⟨rfl, k3, d3⟩
  simp -implicitDefEqProofs (disch := (first | omega | (simp only [lenB, shaB_len, macB_len] <;> omega) | fail)) only [admQ, lenB, shaB_len, macB_len, aFill, AK.cls, implies_true, ↓reduceIte, reduceCtorEq, if_true, if_false, Nat.reduceAdd, Nat.reduceEqDiff, Nat.reduceMod, Nat.reduceLT, Nat.reduceLeDiff, Nat.reduceSub, Nat.reduceMul, Nat.reduceBEq, Int.reduceAdd, Int.reduceSub, Int.reduceMul, Int.reduceNeg, Int.reduceLT, Int.reduceLE, Int.reduceToNat, Int.reduceEq, Int.reduceBEq]
  have w3 : Low A.length A m3 := .of_kept k3 (by simp) (Nat.le_refl _)
  refine (ans_shaadd d3 ((kA.trans k3).row hK (by simp)) (by omega) (w3.rd rI (by simp [blkOf]; omega)) (by simp [blkOf]; omega) (by simp; omega)).mono ?_
  rintro _ m4 ⟨rfl, w4, d4⟩
  replace w4 := w3.trans w4
  rw [List.nil_append] at d4
  simp -implicitDefEqProofs (disch := (first | omega | (simp only [lenB, shaB_len, macB_len] <;> omega) | fail)) only [admQ, lenB, shaB_len, macB_len, aFill, AK.cls, implies_true, ↓reduceIte, reduceCtorEq, if_true, if_false, Nat.reduceAdd, Nat.reduceEqDiff, Nat.reduceMod, Nat.reduceLT, Nat.reduceLeDiff, Nat.reduceSub, Nat.reduceMul, Nat.reduceBEq, Int.reduceAdd, Int.reduceSub, Int.reduceMul, Int.reduceNeg, Int.reduceLT, Int.reduceLE, Int.reduceToNat, Int.reduceEq, Int.reduceBEq]
  have hym : ∀ b ∈ blkOf y, b < A.length := fun b hb => by have := hB.blk_lt b hb; have := kA.len; omega
  refine (ans_shaadd d4 (w4.row (kA.row hK (by simp)) (by omega)) (by omega) (w4.rd (hB.kept0 kA) hym) hym (by omega)).mono ?_
  rintro _ m5 ⟨rfl, w5, d5⟩
  replace w5 := w4.trans w5
  simp -implicitDefEqProofs (disch := (first | omega | (simp only [lenB, shaB_len, macB_len] <;> omega) | fail)) only [admQ, lenB, shaB_len, macB_len, aFill, AK.cls, implies_true, ↓reduceIte, reduceCtorEq, if_true, if_false, Nat.reduceAdd, Nat.reduceEqDiff, Nat.reduceMod, Nat.reduceLT, Nat.reduceLeDiff, Nat.reduceSub, Nat.reduceMul, Nat.reduceBEq, Int.reduceAdd, Int.reduceSub, Int.reduceMul, Int.reduceNeg, Int.reduceLT, Int.reduceLE, Int.reduceToNat, Int.reduceEq, Int.reduceBEq]
  refine (ans_shasum d5 (w5.row (kA.row hK (by simp)) (by omega)) (by rw [List.length_append]; omega)).mono ?_
  rintro _ m6 ⟨rfl, k6⟩
  have w6 : Low A.length A m6 := w5.trans (.of_kept k6 (by simp) w5.1)
  generalize hs : shaB (blkX key 54#8 ++ B) = S
  have hS : S.length = 32 := by rw [← hs]; exact shaB_len _
  simp -implicitDefEqProofs (disch := (first | omega | (simp only [lenB, shaB_len, macB_len] <;> omega) | fail)) only [admQ, lenB, shaB_len, macB_len, aFill, AK.cls, implies_true, ↓reduceIte, reduceCtorEq, if_true, if_false, Nat.reduceAdd, Nat.reduceEqDiff, Nat.reduceMod, Nat.reduceLT, Nat.reduceLeDiff, Nat.reduceSub, Nat.reduceMul, Nat.reduceBEq, Int.reduceAdd, Int.reduceSub, Int.reduceMul, Int.reduceNeg, Int.reduceLT, Int.reduceLE, Int.reduceToNat, Int.reduceEq, Int.reduceBEq]
  have w7 : Low A.length A (m6 ++ [Blk.row (bys S) false]) := w6.trans (.of_kept (.app [] _ _) (by simp) w6.1)
  have rS : RdB (m6 ++ [Blk.row (bys S) false]) (.sl m6.length 0 32 32 0) S := by
    have := RdB.row (m := m6 ++ [Blk.row (bys S) false]) (b := m6.length) (l := S) 32 0 (by rw [rowOf_app_at0]; rfl) (by omega)
    rwa [hS] at this
  have hBl : (m6 ++ [Blk.row (bys S) false]).length = m6.length + 1 := by simp
  generalize m6 ++ [Blk.row (bys S) false] = C at w7 rS hBl
  have hw6 := w6.1
  refine (ans_shanew _).mono ?_
  rintro _ m8 ⟨rfl, k8, d8⟩
  have w8 : Low C.length C m8 := .of_kept k8 (by simp) (Nat.le_refl _)
  simp -implicitDefEqProofs (disch := (first | omega | (simp only [lenB, shaB_len, macB_len] <;> omega) | fail)) only [admQ, lenB, shaB_len, macB_len, aFill, AK.cls, implies_true, ↓reduceIte, reduceCtorEq, if_true, if_false, Nat.reduceAdd, Nat.reduceEqDiff, Nat.reduceMod, Nat.reduceLT, Nat.reduceLeDiff, Nat.reduceSub, Nat.reduceMul, Nat.reduceBEq, Int.reduceAdd, Int.reduceSub, Int.reduceMul, Int.reduceNeg, Int.reduceLT, Int.reduceLE, Int.reduceToNat, Int.reduceEq, Int.reduceBEq]
  have rO8 := (w8.rd (w7.rd rO (by simp [blkOf]; omega)) (by simp [blkOf]; omega))
  refine (ans_shaadd d8 (w8.row (w7.row (kA.row hK (by simp)) (by omega)) (by omega)) (by omega) rO8 (by simp [blkOf]; omega) (by simp; omega)).mono ?_
  rintro _ m9 ⟨rfl, w9, d9⟩
  replace w9 := w8.trans w9
  rw [List.nil_append] at d9
  simp -implicitDefEqProofs (disch := (first | omega | (simp only [lenB, shaB_len, macB_len] <;> omega) | fail)) only [admQ, lenB, shaB_len, macB_len, aFill, AK.cls, implies_true, ↓reduceIte, reduceCtorEq, if_true, if_false, Nat.reduceAdd, Nat.reduceEqDiff, Nat.reduceMod, Nat.reduceLT, Nat.reduceLeDiff, Nat.reduceSub, Nat.reduceMul, Nat.reduceBEq, Int.reduceAdd, Int.reduceSub, Int.reduceMul, Int.reduceNeg, Int.reduceLT, Int.reduceLE, Int.reduceToNat, Int.reduceEq, Int.reduceBEq]
  refine (ans_shaadd d9 (w9.row (w7.row (kA.row hK (by simp)) (by omega)) (by omega)) (by omega) (w9.rd rS (by simp [blkOf]; omega)) (by simp [blkOf]; omega) (by omega)).mono ?_
  rintro _ m10 ⟨rfl, w10, d10⟩
  replace w10 := w9.trans w10
  simp -implicitDefEqProofs (disch := (first | omega | (simp only [lenB, shaB_len, macB_len] <;> omega) | fail)) only [admQ, lenB, shaB_len, macB_len, aFill, AK.cls, implies_true, ↓reduceIte, reduceCtorEq, if_true, if_false, Nat.reduceAdd, Nat.reduceEqDiff, Nat.reduceMod, Nat.reduceLT, Nat.reduceLeDiff, Nat.reduceSub, Nat.reduceMul, Nat.reduceBEq, Int.reduceAdd, Int.reduceSub, Int.reduceMul, Int.reduceNeg, Int.reduceLT, Int.reduceLE, Int.reduceToNat, Int.reduceEq, Int.reduceBEq]
  refine (ans_shasum d10 (w10.row (w7.row (kA.row hK (by simp)) (by omega)) (by omega)) (by rw [List.length_append]; omega)).mono ?_
  rintro _ m11 ⟨rfl, k11⟩
  have w11 : Low A.length A m11 := (w7.trans (w10.less (by omega))).trans (.of_kept k11 (by simp) (by have := w10.1; omega))
  have oR : own m11 m.length = some (bys (List.replicate 32 0#8)) := by unfold own at *; rw [w11.2 _ (by omega)]; exact oA
  have hml := shaB_len (blkX key 92#8 ++ S)
  simp -implicitDefEqProofs (disch := (first | omega | (simp only [lenB, shaB_len, macB_len] <;> omega) | fail)) only [admQ, lenB, shaB_len, macB_len, aFill, AK.cls, implies_true, ↓reduceIte, reduceCtorEq, if_true, if_false, Nat.reduceAdd, Nat.reduceEqDiff, Nat.reduceMod, Nat.reduceLT, Nat.reduceLeDiff, Nat.reduceSub, Nat.reduceMul, Nat.reduceBEq, Int.reduceAdd, Int.reduceSub, Int.reduceMul, Int.reduceNeg, Int.reduceLT, Int.reduceLE, Int.reduceToNat, Int.reduceEq, Int.reduceBEq, oR, own_set (own_lt oR), rowOf_own (own_set (own_lt oR) _)]
  refine ⟨by rw [macB, hs], (w11.kept kA (by omega)).write (.inr (Nat.le_refl _)) _⟩
def strB (s : ByteArray) : List B8 := s.data.toList.map UInt8.toBitVec
theorem strCells_bys (s : ByteArray) : strCells s = bys (strB s) := by
  simp only [strCells, strB, bys, List.map_map]; rfl
theorem strB_len (s : ByteArray) : (strB s).length = s.size := by rw [strB, List.length_map, Array.length_toList]; rfl
theorem ans_macderive {m : Mem} {x : AV} {key : List B8} (s : ByteArray) (hK : rowOf m 0 = some (wds kT)) (hx : RdB m x key) (hkl : key.length ≤ 1000000000) (hlen : s.size ≤ 1000) :
    Ans Tryd.prog 22 [x, .str s] m fun r m' => r = .agg (bys (macB key (strB s))) ∧ Kept [] m m' := by
  refine ans_ret mixed ok22 ?_
  simp -implicitDefEqProofs (disch := (first | omega | (simp only [lenB, shaB_len, macB_len] <;> omega) | fail)) only [admQ, lenB, shaB_len, macB_len, aFill, AK.cls, implies_true, ↓reduceIte, reduceCtorEq, if_true, if_false, Nat.reduceAdd, Nat.reduceEqDiff, Nat.reduceMod, Nat.reduceLT, Nat.reduceLeDiff, Nat.reduceSub, Nat.reduceMul, Nat.reduceBEq, Int.reduceAdd, Int.reduceSub, Int.reduceMul, Int.reduceNeg, Int.reduceLT, Int.reduceLE, Int.reduceToNat, Int.reduceEq, Int.reduceBEq, c22, r22, opW_s2b, opDW_s2b, mkS2b, strCells_bys]
  have k0 := Kept.app [] m [Blk.row (bys (List.replicate 32 0#8)) false, Blk.row (bys (strB s)) false]
  have o0 : own (m ++ [Blk.row (bys (List.replicate 32 0#8)) false, Blk.row (bys (strB s)) false]) m.length = some (bys (List.replicate 32 0#8)) := by rw [own_app_at0]; rfl
  have o1 : own (m ++ [Blk.row (bys (List.replicate 32 0#8)) false, Blk.row (bys (strB s)) false]) (m.length + 1) = some (bys (strB s)) := by rw [own_app_at]; rfl
  generalize m ++ [Blk.row (bys (List.replicate 32 0#8)) false, Blk.row (bys (strB s)) false] = A0 at k0 o0 o1
  have hr := RdB.row (l := strB s) s.size 1 (rowOf_own o1) (by rw [strB_len]; omega)
  rw [strB_len] at hr
  refine (ans_macof (k0.row hK (by simp)) (hx.kept0 k0) hr hkl (by rw [strB_len]; omega)).mono ?_
  rintro _ m1 ⟨rfl, k1⟩
  have o0' := k1.own o0 (by simp)
  have hml := macB_len key (strB s)
  simp -implicitDefEqProofs (disch := (first | omega | (simp only [lenB, shaB_len, macB_len] <;> omega) | fail)) only [admQ, lenB, shaB_len, macB_len, aFill, AK.cls, implies_true, ↓reduceIte, reduceCtorEq, if_true, if_false, Nat.reduceAdd, Nat.reduceEqDiff, Nat.reduceMod, Nat.reduceLT, Nat.reduceLeDiff, Nat.reduceSub, Nat.reduceMul, Nat.reduceBEq, Int.reduceAdd, Int.reduceSub, Int.reduceMul, Int.reduceNeg, Int.reduceLT, Int.reduceLE, Int.reduceToNat, Int.reduceEq, Int.reduceBEq, o0', own_set (own_lt o0'), rowOf_own (own_set (own_lt o0') _)]
  exact (k0.trans k1).write (.inr (Nat.le_refl _)) _
/-- What is unlike in the first i bytes. -/
def orX (a b : List B8) : Nat → B8
  | 0 => 0#8
  | i + 1 => orX a b i ||| (gb a i ^^^ gb b i)
theorem orX_zero (a b : List B8) : ∀ n, orX a b n = 0#8 ↔ ∀ i, i < n → gb a i = gb b i := by
  intro n
  induction n with
  | zero => simp [orX]
  | succ n ih =>
    have e : ∀ x y : B8, x ||| y = 0#8 ↔ x = 0#8 ∧ y = 0#8 := by intro x y; exact BitVec.or_eq_zero_iff
    have e2 : ∀ x y : B8, x ^^^ y = 0#8 ↔ x = y := by intro x y; exact BitVec.xor_eq_zero_iff
    rw [orX, e, ih, e2]
    constructor
    · rintro ⟨h1, h2⟩ i hi
      by_cases hin : i = n
      · subst hin; exact h2
      · exact h1 i (by omega)
    · intro h
      exact ⟨fun i hi => h i (by omega), h n (by omega)⟩
theorem ans_macsame {m : Mem} {a b : List B8} (ha : a.length = 32) (hb : b.length = 32) :
    Ans Tryd.prog 28 [.agg (bys a), .agg (bys b)] m fun r m' => r = .bool (a == b) ∧ Kept [] m m' := by
  refine ans_ret mixed ok28 ?_
  simp -implicitDefEqProofs (disch := (first | omega | (simp only [lenB, shaB_len, macB_len] <;> omega) | fail)) only [admQ, lenB, shaB_len, macB_len, aFill, AK.cls, implies_true, ↓reduceIte, reduceCtorEq, if_true, if_false, Nat.reduceAdd, Nat.reduceEqDiff, Nat.reduceMod, Nat.reduceLT, Nat.reduceLeDiff, Nat.reduceSub, Nat.reduceMul, Nat.reduceBEq, Int.reduceAdd, Int.reduceSub, Int.reduceMul, Int.reduceNeg, Int.reduceLT, Int.reduceLE, Int.reduceToNat, Int.reduceEq, Int.reduceBEq, c28, r28]
  refine LoopW.on (fun i : Nat => [(2, .ptr m.length 0), (3, .ptr (m.length + 1) 0), (5, b8 (orX a b i)), (7, .int .i64 i)]) (fun i => 32 - i)
    (fun i M => i ≤ 32 ∧ M = m ++ [.row (bys a) false, .row (bys b) false]) ?_ 0 _ _ rfl ⟨by omega, rfl⟩
  rintro i M X ⟨hi, rfl⟩ hX
  by_cases hlt : i < 32
  · simp -implicitDefEqProofs (disch := (first | omega | (simp only [lenB, shaB_len, macB_len] <;> omega) | fail)) only [admQ, lenB, shaB_len, macB_len, aFill, AK.cls, implies_true, ↓reduceIte, reduceCtorEq, if_true, if_false, Nat.reduceAdd, Nat.reduceEqDiff, Nat.reduceMod, Nat.reduceLT, Nat.reduceLeDiff, Nat.reduceSub, Nat.reduceMul, Nat.reduceBEq, Int.reduceAdd, Int.reduceSub, Int.reduceMul, Int.reduceNeg, Int.reduceLT, Int.reduceLE, Int.reduceToNat, Int.reduceEq, Int.reduceBEq]
    refine hX (i + 1) _ _ rfl (by omega) ⟨by omega, rfl⟩
  · obtain rfl : i = 32 := by omega
    simp -implicitDefEqProofs (disch := (first | omega | (simp only [lenB, shaB_len, macB_len] <;> omega) | fail)) only [admQ, lenB, shaB_len, macB_len, aFill, AK.cls, implies_true, ↓reduceIte, reduceCtorEq, if_true, if_false, Nat.reduceAdd, Nat.reduceEqDiff, Nat.reduceMod, Nat.reduceLT, Nat.reduceLeDiff, Nat.reduceSub, Nat.reduceMul, Nat.reduceBEq, Int.reduceAdd, Int.reduceSub, Int.reduceMul, Int.reduceNeg, Int.reduceLT, Int.reduceLE, Int.reduceToNat, Int.reduceEq, Int.reduceBEq, beql_u8]
    refine ⟨?_, .app _ _ _⟩
    congr 1
    rw [Bool.eq_iff_iff, beq_iff_eq, beq_iff_eq, orX_zero]
    exact ⟨fun h => gb_ext (by omega) (fun i hi => h i (by omega)), fun h i _ => by rw [h]⟩
end Go.Proofs.YtdmdakaliilghaaDoor
end
section
/- Digests as the document has them: turns, words, blocks. -/
namespace Go.Proofs.YtdmdakaliilghaaDoor
open Go Go.Adm
set_option linter.unusedSimpArgs false
set_option linter.unusedVariables false
set_option maxRecDepth 100000
theorem ans_rsrot (x : W32) (n : Nat) (hn : n ≤ 32) (m : Mem) : Ans Tryd.prog 62 [.int .u64 n, b32 x] m fun r m' => r = b32 (rotR x n) ∧ m' = m := by
  refine ans_ret mixed ok62 ?_
  simp -implicitDefEqProofs (disch := (first | omega | (simp only [lenB, wS_len] <;> omega) | fail)) only [admQ, lenB, wS_len, aFill, AK.cls, implies_true, ↓reduceIte, reduceCtorEq, if_true, if_false, Nat.reduceAdd, Nat.reduceEqDiff, Nat.reduceMod, Nat.reduceLT, Nat.reduceLeDiff, Nat.reduceSub, Nat.reduceMul, Nat.reduceBEq, Int.reduceAdd, Int.reduceSub, Int.reduceMul, Int.reduceNeg, Int.reduceLT, Int.reduceLE, Int.reduceToNat, Int.reduceEq, Int.reduceBEq, c62, r62, u32R, @w64]
  rfl
theorem ans_rswords {m : Mem} {x : AV} {B : List B8} (hB : RdB m x B) (h64 : B.length = 64) :
    Ans Tryd.prog 61 [x] m fun r m' => Kept [] m m' ∧ GrA 1 m.length m' r (wds (wS B 64)) := by
  refine ans_ret mixed ok61 ?_
  obtain ⟨b, o, cap, sl, c, rfl, hrow, hat, hlen, hcap, hsl, _⟩ := hB.cons (i := 0) (by omega)
  rw [h64] at hat hlen hcap
  rw [show B.length = 64 from h64]
  simp -implicitDefEqProofs (disch := (first | omega | (simp only [lenB, wS_len] <;> omega) | fail)) only [admQ, lenB, wS_len, aFill, AK.cls, implies_true, ↓reduceIte, reduceCtorEq, if_true, if_false, Nat.reduceAdd, Nat.reduceEqDiff, Nat.reduceMod, Nat.reduceLT, Nat.reduceLeDiff, Nat.reduceSub, Nat.reduceMul, Nat.reduceBEq, Int.reduceAdd, Int.reduceSub, Int.reduceMul, Int.reduceNeg, Int.reduceLT, Int.reduceLE, Int.reduceToNat, Int.reduceEq, Int.reduceBEq, c61, r61]
  refine LoopW.on (fun t : Nat × AV => [(0, .sl b o 64 cap sl), (3, t.2), (4, .int .i64 t.1)]) (fun t => 16 - t.1) (fun t M => t.1 ≤ 16 ∧ Kept [] m M ∧ GrA 1 m.length M t.2 (wds (wS B t.1))) ?_ (0, .nils) _ _ rfl ⟨by simp, .refl _ _, .nils ..⟩
  rintro ⟨i, y⟩ M X ⟨hi, kk, g⟩ hX
  change GrA 1 m.length M y (wds (wS B i)) at g
  simp only at hi
  by_cases hlt : i < 16
  · have hr := kk.row hrow (by simp)
    simp -implicitDefEqProofs (disch := (first | omega | (simp only [lenB, wS_len] <;> omega) | fail)) only [admQ, lenB, wS_len, aFill, AK.cls, implies_true, ↓reduceIte, reduceCtorEq, if_true, if_false, Nat.reduceAdd, Nat.reduceEqDiff, Nat.reduceMod, Nat.reduceLT, Nat.reduceLeDiff, Nat.reduceSub, Nat.reduceMul, Nat.reduceBEq, Int.reduceAdd, Int.reduceSub, Int.reduceMul, Int.reduceNeg, Int.reduceLT, Int.reduceLE, Int.reduceToNat, Int.reduceEq, Int.reduceBEq, u32R, hr, hat]
    obtain ⟨x3, m3, e3, g3, k3, a3⟩ := g.push (bytes := 4) (by omega) (l := [b32 (wd0 B i)]) rfl (by simp [wS_len]; omega) kk.len
    refine someW_eq e3 ?_
    simp -implicitDefEqProofs (disch := (first | omega | (simp only [lenB, wS_len] <;> omega) | fail)) only [admQ, lenB, wS_len, aFill, AK.cls, implies_true, ↓reduceIte, reduceCtorEq, if_true, if_false, Nat.reduceAdd, Nat.reduceEqDiff, Nat.reduceMod, Nat.reduceLT, Nat.reduceLeDiff, Nat.reduceSub, Nat.reduceMul, Nat.reduceBEq, Int.reduceAdd, Int.reduceSub, Int.reduceMul, Int.reduceNeg, Int.reduceLT, Int.reduceLE, Int.reduceToNat, Int.reduceEq, Int.reduceBEq]
    refine hX (i + 1, x3) _ _ rfl (by simp only; omega) ⟨by simp only; omega, a3 _ _ kk (Nat.le_refl _), ?_⟩
    show GrA 1 m.length m3 x3 (wds (wS B (i + 1)))
    rw [wS, if_pos hlt, wds, List.map_append]; exact g3
  · obtain rfl : i = 16 := by omega
    simp -implicitDefEqProofs (disch := (first | omega | (simp only [lenB, wS_len] <;> omega) | fail)) only [admQ, lenB, wS_len, aFill, AK.cls, implies_true, ↓reduceIte, reduceCtorEq, if_true, if_false, Nat.reduceAdd, Nat.reduceEqDiff, Nat.reduceMod, Nat.reduceLT, Nat.reduceLeDiff, Nat.reduceSub, Nat.reduceMul, Nat.reduceBEq, Int.reduceAdd, Int.reduceSub, Int.reduceMul, Int.reduceNeg, Int.reduceLT, Int.reduceLE, Int.reduceToNat, Int.reduceEq, Int.reduceBEq]
    clear hX X
    refine LoopW.on (fun t : Nat × AV => [(3, t.2), (5, .int .i64 t.1)]) (fun t => 64 - t.1) (fun t M => 16 ≤ t.1 ∧ t.1 ≤ 64 ∧ Kept [] m M ∧ GrA 1 m.length M t.2 (wds (wS B t.1))) ?_ (16, y) _ _ rfl ⟨by simp, by simp, kk, g⟩
    clear kk g hi hlt M y
    rintro ⟨i, y⟩ M X ⟨h16, hi, kk, g⟩ hX
    change GrA 1 m.length M y (wds (wS B i)) at g
    simp only at hi h16
    have hwl : (wds (wS B i)).length = i := by rw [wds_len, wS_len]
    by_cases hlt : i < 64
    · obtain ⟨q, n, rfl, hn0, hn, hq, hq0⟩ := g.sl (by intro e; rw [e] at hwl; simp at hwl; omega)
      obtain rfl : n = i := by omega
      have hw : ∀ j, j < n → (wds (wS B n))[j]? = some (b32 (gw (wS B n) j)) := fun j hj => wds_at (by rw [wS_len]; exact hj)
      simp -implicitDefEqProofs (disch := (first | omega | (simp only [lenB, wS_len] <;> omega) | fail)) only [admQ, lenB, wS_len, aFill, AK.cls, implies_true, ↓reduceIte, reduceCtorEq, if_true, if_false, Nat.reduceAdd, Nat.reduceEqDiff, Nat.reduceMod, Nat.reduceLT, Nat.reduceLeDiff, Nat.reduceSub, Nat.reduceMul, Nat.reduceBEq, Int.reduceAdd, Int.reduceSub, Int.reduceMul, Int.reduceNeg, Int.reduceLT, Int.reduceLE, Int.reduceToNat, Int.reduceEq, Int.reduceBEq, u32R, rowOf_own hq, hw]
      refine (ans_rsrot _ 17 (by omega) _).mono ?_
      rintro _ _ ⟨rfl, rfl⟩
      simp -implicitDefEqProofs (disch := (first | omega | (simp only [lenB, wS_len] <;> omega) | fail)) only [admQ, lenB, wS_len, aFill, AK.cls, implies_true, ↓reduceIte, reduceCtorEq, if_true, if_false, Nat.reduceAdd, Nat.reduceEqDiff, Nat.reduceMod, Nat.reduceLT, Nat.reduceLeDiff, Nat.reduceSub, Nat.reduceMul, Nat.reduceBEq, Int.reduceAdd, Int.reduceSub, Int.reduceMul, Int.reduceNeg, Int.reduceLT, Int.reduceLE, Int.reduceToNat, Int.reduceEq, Int.reduceBEq, u32R, rowOf_own hq, hw]
      refine (ans_rsrot _ 19 (by omega) _).mono ?_
      rintro _ _ ⟨rfl, rfl⟩
      simp -implicitDefEqProofs (disch := (first | omega | (simp only [lenB, wS_len] <;> omega) | fail)) only [admQ, lenB, wS_len, aFill, AK.cls, implies_true, ↓reduceIte, reduceCtorEq, if_true, if_false, Nat.reduceAdd, Nat.reduceEqDiff, Nat.reduceMod, Nat.reduceLT, Nat.reduceLeDiff, Nat.reduceSub, Nat.reduceMul, Nat.reduceBEq, Int.reduceAdd, Int.reduceSub, Int.reduceMul, Int.reduceNeg, Int.reduceLT, Int.reduceLE, Int.reduceToNat, Int.reduceEq, Int.reduceBEq, u32R, rowOf_own hq, hw]
      refine (ans_rsrot _ 7 (by omega) _).mono ?_
      rintro _ _ ⟨rfl, rfl⟩
      simp -implicitDefEqProofs (disch := (first | omega | (simp only [lenB, wS_len] <;> omega) | fail)) only [admQ, lenB, wS_len, aFill, AK.cls, implies_true, ↓reduceIte, reduceCtorEq, if_true, if_false, Nat.reduceAdd, Nat.reduceEqDiff, Nat.reduceMod, Nat.reduceLT, Nat.reduceLeDiff, Nat.reduceSub, Nat.reduceMul, Nat.reduceBEq, Int.reduceAdd, Int.reduceSub, Int.reduceMul, Int.reduceNeg, Int.reduceLT, Int.reduceLE, Int.reduceToNat, Int.reduceEq, Int.reduceBEq, u32R, rowOf_own hq, hw]
      refine (ans_rsrot _ 18 (by omega) _).mono ?_
      rintro _ _ ⟨rfl, rfl⟩
      simp -implicitDefEqProofs (disch := (first | omega | (simp only [lenB, wS_len] <;> omega) | fail)) only [admQ, lenB, wS_len, aFill, AK.cls, implies_true, ↓reduceIte, reduceCtorEq, if_true, if_false, Nat.reduceAdd, Nat.reduceEqDiff, Nat.reduceMod, Nat.reduceLT, Nat.reduceLeDiff, Nat.reduceSub, Nat.reduceMul, Nat.reduceBEq, Int.reduceAdd, Int.reduceSub, Int.reduceMul, Int.reduceNeg, Int.reduceLT, Int.reduceLE, Int.reduceToNat, Int.reduceEq, Int.reduceBEq, u32R, rowOf_own hq, hw]
      obtain ⟨x3, m3, e3, g3, k3, a3⟩ := g.push (bytes := 4) (by omega) (l := [b32 (wdN (wS B n) n)]) rfl (by simp [wS_len]; omega) kk.len
      refine someW_eq e3 ?_
      simp -implicitDefEqProofs (disch := (first | omega | (simp only [lenB, wS_len] <;> omega) | fail)) only [admQ, lenB, wS_len, aFill, AK.cls, implies_true, ↓reduceIte, reduceCtorEq, if_true, if_false, Nat.reduceAdd, Nat.reduceEqDiff, Nat.reduceMod, Nat.reduceLT, Nat.reduceLeDiff, Nat.reduceSub, Nat.reduceMul, Nat.reduceBEq, Int.reduceAdd, Int.reduceSub, Int.reduceMul, Int.reduceNeg, Int.reduceLT, Int.reduceLE, Int.reduceToNat, Int.reduceEq, Int.reduceBEq]
      refine hX (n + 1, x3) _ _ rfl (by simp only; omega) ⟨by simp only; omega, by simp only; omega, a3 _ _ kk (Nat.le_refl _), ?_⟩
      show GrA 1 m.length m3 x3 (wds (wS B (n + 1)))
      rw [wS, if_neg (by omega), wds, List.map_append]; exact g3
    · obtain rfl : i = 64 := by omega
      simp -implicitDefEqProofs (disch := (first | omega | (simp only [lenB, wS_len] <;> omega) | fail)) only [admQ, lenB, wS_len, aFill, AK.cls, implies_true, ↓reduceIte, reduceCtorEq, if_true, if_false, Nat.reduceAdd, Nat.reduceEqDiff, Nat.reduceMod, Nat.reduceLT, Nat.reduceLeDiff, Nat.reduceSub, Nat.reduceMul, Nat.reduceBEq, Int.reduceAdd, Int.reduceSub, Int.reduceMul, Int.reduceNeg, Int.reduceLT, Int.reduceLE, Int.reduceToNat, Int.reduceEq, Int.reduceBEq]
      exact ⟨kk, g⟩

/-- A slice of eight words: a state. -/
def St8 (m : Mem) (x : AV) (s : S8) : Prop := ∃ b cap z, x = .sl b 0 8 cap z ∧ rowOf m b = some s.cells ∧ 8 ≤ cap
theorem St8.kept0 {m m' : Mem} {x : AV} {s : S8} (h : St8 m x s) (hk : Kept [] m m') : St8 m' x s :=
  let ⟨b, cap, z, h1, h2, h3⟩ := h
  ⟨b, cap, z, h1, hk.row h2 (by simp), h3⟩
theorem St8.elems {m : Mem} {x : AV} {s : S8} (h : St8 m x s) : Adm.elems 1 8 x m = some s.cells ∧ Adm.lenA x = some 8 := by
  obtain ⟨b, cap, z, rfl, h2, h3⟩ := h
  refine ⟨?_, rfl⟩
  unfold Adm.elems
  simp only [h2, Option.bind_some]
  rfl
theorem St8.of_gr {m0 : Nat} {m : Mem} {x : AV} {s : S8} (g : GrA 1 m0 m x s.cells) : St8 m x s := by
  obtain ⟨b, n, rfl, _, hn, hb, _⟩ := g.sl (by simp [S8.cells_eq])
  rw [S8.cells_len] at hn
  obtain rfl : n = 8 := by omega
  exact ⟨b, 8, 1, rfl, rowOf_own hb, Nat.le_refl _⟩
theorem rnd_cells (r : S8) (k w : W32) : (r.rnd k w).cells = [b32 (r.t1 k w + (rotR r.a 2 ^^^ rotR r.a 13 ^^^ rotR r.a 22) + (r.a &&& r.b ^^^ r.a &&& r.c ^^^ r.b &&& r.c)), b32 r.a, b32 r.b, b32 r.c, b32 (r.d + r.t1 k w), b32 r.e, b32 r.f, b32 r.g] := by
  rw [S8.cells_eq, S8.rnd, S8.t2, BitVec.add_assoc]
theorem add_gw (s r : S8) {i : Nat} (h : i < 8) : gw s.l i + gw r.l i = gw (s.add r).l i := by
  rcases (show i = 0 ∨ i = 1 ∨ i = 2 ∨ i = 3 ∨ i = 4 ∨ i = 5 ∨ i = 6 ∨ i = 7 by omega) with rfl | rfl | rfl | rfl | rfl | rfl | rfl | rfl <;> rfl
theorem take_gw {l : List W32} {i : Nat} (h : i < l.length) : l.take (i + 1) = l.take i ++ [gw l i] := by
  rw [List.take_add_one]; simp [gw, h]
set_option maxHeartbeats 2000000 in
theorem ans_rstake (s : S8) {m : Mem} {x y : AV} {B : List B8} (hK : rowOf m 1 = some (wds kT)) (hx : St8 m x s) (hB : RdB m y B) (h64 : B.length = 64) :
    Ans Tryd.prog 51 [x, y] m fun r m' => Kept [] m m' ∧ GrA 1 m.length m' r (s.take B).cells := by
  refine ans_ret mixed ok51 ?_
  simp -implicitDefEqProofs (disch := (first | omega | (simp only [lenB, wS_len] <;> omega) | fail)) only [admQ, lenB, wS_len, aFill, AK.cls, implies_true, ↓reduceIte, reduceCtorEq, if_true, if_false, Nat.reduceAdd, Nat.reduceEqDiff, Nat.reduceMod, Nat.reduceLT, Nat.reduceLeDiff, Nat.reduceSub, Nat.reduceMul, Nat.reduceBEq, Int.reduceAdd, Int.reduceSub, Int.reduceMul, Int.reduceNeg, Int.reduceLT, Int.reduceLE, Int.reduceToNat, Int.reduceEq, Int.reduceBEq, c51, r51]
  refine (ans_rswords hB h64).mono ?_
  rintro w m1 ⟨k1, g1⟩
  have hw64 : (wds (wS B 64)).length = 64 := by rw [wds_len, wS_len]
  obtain ⟨q, n, rfl, hn0, hn, hq, hq0⟩ := g1.sl (by intro e; rw [e] at hw64; simp at hw64)
  obtain rfl : n = 64 := by omega
  simp -implicitDefEqProofs (disch := (first | omega | (simp only [lenB, wS_len] <;> omega) | fail)) only [admQ, lenB, wS_len, aFill, AK.cls, implies_true, ↓reduceIte, reduceCtorEq, if_true, if_false, Nat.reduceAdd, Nat.reduceEqDiff, Nat.reduceMod, Nat.reduceLT, Nat.reduceLeDiff, Nat.reduceSub, Nat.reduceMul, Nat.reduceBEq, Int.reduceAdd, Int.reduceSub, Int.reduceMul, Int.reduceNeg, Int.reduceLT, Int.reduceLE, Int.reduceToNat, Int.reduceEq, Int.reduceBEq]
  have gz : GrA 1 m.length (m1 ++ [Blk.row [] false]) (.sl m1.length 0 0 0 0) [] := .zero (by rw [own_app_at0]; rfl)
  have hx1 := (hx.kept0 k1).kept0 (.app [] m1 [Blk.row [] false])
  have hl1 := k1.len
  obtain ⟨x2, m2, e2, g2, k2, a2⟩ := gz.pushs (bytes := 4) (by omega) hx1.elems.1 hx1.elems.2 (by rw [S8.cells_len]) (by simp) (by simp; omega)
  refine someW_eq e2 ?_
  have K2 := a2 _ _ (k1.more_app [Blk.row [] false]) (Nat.le_refl _)
  have hq2 : rowOf m2 q = some (wds (wS B 64)) := k2.row ((Kept.app [] m1 _).row (rowOf_own hq) (by simp)) (by have := own_lt hq; simp [blkOf]; omega)
  rw [List.nil_append] at g2
  have hx2 : St8 m2 x2 s := .of_gr g2
  have hK2 := K2.row hK (by simp)
  have hxs := hx.kept0 K2
  clear e2 a2 k2 gz hx1 g1 hq hq0 hl1
  simp -implicitDefEqProofs (disch := (first | omega | (simp only [lenB, wS_len] <;> omega) | fail)) only [admQ, lenB, wS_len, aFill, AK.cls, implies_true, ↓reduceIte, reduceCtorEq, if_true, if_false, Nat.reduceAdd, Nat.reduceEqDiff, Nat.reduceMod, Nat.reduceLT, Nat.reduceLeDiff, Nat.reduceSub, Nat.reduceMul, Nat.reduceBEq, Int.reduceAdd, Int.reduceSub, Int.reduceMul, Int.reduceNeg, Int.reduceLT, Int.reduceLE, Int.reduceToNat, Int.reduceEq, Int.reduceBEq]
  have hkT : ∀ j, j < 64 → (wds kT)[j]? = some (b32 (gw kT j)) := fun j hj => wds_at hj
  have hw : ∀ j, j < 64 → (wds (wS B 64))[j]? = some (b32 (gw (wS B 64) j)) := fun j hj => wds_at (by rw [wS_len]; exact hj)
  refine LoopW.on (fun t : Nat × AV => [(0, x), (5, .sl q 0 64 64 1), (6, t.2), (7, .int .i64 t.1)]) (fun t => 64 - t.1) (fun t M => t.1 ≤ 64 ∧ Kept [] m2 M ∧ St8 M t.2 (s.rnds (wS B 64) t.1)) ?_ (0, x2) _ _ rfl ⟨by simp, .refl _ _, hx2⟩
  rintro ⟨i, z⟩ M X ⟨hi, kk, h8⟩ hX
  change St8 M z (s.rnds (wS B 64) i) at h8
  simp only at hi
  generalize hr : s.rnds (wS B 64) i = r at h8
  by_cases hlt : i < 64
  · obtain ⟨b, cap, sz, rfl, hrow, hcap⟩ := h8
    rw [S8.cells_eq] at hrow
    have hqM := kk.row hq2 (by simp)
    have hKM := kk.row hK2 (by simp)
    simp -implicitDefEqProofs (disch := (first | omega | (simp only [lenB, wS_len] <;> omega) | fail)) only [admQ, lenB, wS_len, aFill, AK.cls, implies_true, ↓reduceIte, reduceCtorEq, if_true, if_false, Nat.reduceAdd, Nat.reduceEqDiff, Nat.reduceMod, Nat.reduceLT, Nat.reduceLeDiff, Nat.reduceSub, Nat.reduceMul, Nat.reduceBEq, Int.reduceAdd, Int.reduceSub, Int.reduceMul, Int.reduceNeg, Int.reduceLT, Int.reduceLE, Int.reduceToNat, Int.reduceEq, Int.reduceBEq, u32R, hrow, hqM, hKM, hw, hkT]
    refine (ans_rsrot _ 6 (by omega) _).mono ?_
    rintro _ _ ⟨rfl, rfl⟩
    simp -implicitDefEqProofs (disch := (first | omega | (simp only [lenB, wS_len] <;> omega) | fail)) only [admQ, lenB, wS_len, aFill, AK.cls, implies_true, ↓reduceIte, reduceCtorEq, if_true, if_false, Nat.reduceAdd, Nat.reduceEqDiff, Nat.reduceMod, Nat.reduceLT, Nat.reduceLeDiff, Nat.reduceSub, Nat.reduceMul, Nat.reduceBEq, Int.reduceAdd, Int.reduceSub, Int.reduceMul, Int.reduceNeg, Int.reduceLT, Int.reduceLE, Int.reduceToNat, Int.reduceEq, Int.reduceBEq, u32R, hrow, hqM, hKM, hw, hkT]
    refine (ans_rsrot _ 11 (by omega) _).mono ?_
    rintro _ _ ⟨rfl, rfl⟩
    simp -implicitDefEqProofs (disch := (first | omega | (simp only [lenB, wS_len] <;> omega) | fail)) only [admQ, lenB, wS_len, aFill, AK.cls, implies_true, ↓reduceIte, reduceCtorEq, if_true, if_false, Nat.reduceAdd, Nat.reduceEqDiff, Nat.reduceMod, Nat.reduceLT, Nat.reduceLeDiff, Nat.reduceSub, Nat.reduceMul, Nat.reduceBEq, Int.reduceAdd, Int.reduceSub, Int.reduceMul, Int.reduceNeg, Int.reduceLT, Int.reduceLE, Int.reduceToNat, Int.reduceEq, Int.reduceBEq, u32R, hrow, hqM, hKM, hw, hkT]
    refine (ans_rsrot _ 25 (by omega) _).mono ?_
    rintro _ _ ⟨rfl, rfl⟩
    simp -implicitDefEqProofs (disch := (first | omega | (simp only [lenB, wS_len] <;> omega) | fail)) only [admQ, lenB, wS_len, aFill, AK.cls, implies_true, ↓reduceIte, reduceCtorEq, if_true, if_false, Nat.reduceAdd, Nat.reduceEqDiff, Nat.reduceMod, Nat.reduceLT, Nat.reduceLeDiff, Nat.reduceSub, Nat.reduceMul, Nat.reduceBEq, Int.reduceAdd, Int.reduceSub, Int.reduceMul, Int.reduceNeg, Int.reduceLT, Int.reduceLE, Int.reduceToNat, Int.reduceEq, Int.reduceBEq, u32R, hrow, hqM, hKM, hw, hkT]
    refine (ans_rsrot _ 2 (by omega) _).mono ?_
    rintro _ _ ⟨rfl, rfl⟩
    simp -implicitDefEqProofs (disch := (first | omega | (simp only [lenB, wS_len] <;> omega) | fail)) only [admQ, lenB, wS_len, aFill, AK.cls, implies_true, ↓reduceIte, reduceCtorEq, if_true, if_false, Nat.reduceAdd, Nat.reduceEqDiff, Nat.reduceMod, Nat.reduceLT, Nat.reduceLeDiff, Nat.reduceSub, Nat.reduceMul, Nat.reduceBEq, Int.reduceAdd, Int.reduceSub, Int.reduceMul, Int.reduceNeg, Int.reduceLT, Int.reduceLE, Int.reduceToNat, Int.reduceEq, Int.reduceBEq, u32R, hrow, hqM, hKM, hw, hkT]
    refine (ans_rsrot _ 13 (by omega) _).mono ?_
    rintro _ _ ⟨rfl, rfl⟩
    simp -implicitDefEqProofs (disch := (first | omega | (simp only [lenB, wS_len] <;> omega) | fail)) only [admQ, lenB, wS_len, aFill, AK.cls, implies_true, ↓reduceIte, reduceCtorEq, if_true, if_false, Nat.reduceAdd, Nat.reduceEqDiff, Nat.reduceMod, Nat.reduceLT, Nat.reduceLeDiff, Nat.reduceSub, Nat.reduceMul, Nat.reduceBEq, Int.reduceAdd, Int.reduceSub, Int.reduceMul, Int.reduceNeg, Int.reduceLT, Int.reduceLE, Int.reduceToNat, Int.reduceEq, Int.reduceBEq, u32R, hrow, hqM, hKM, hw, hkT]
    refine (ans_rsrot _ 22 (by omega) _).mono ?_
    rintro _ _ ⟨rfl, rfl⟩
    simp -implicitDefEqProofs (disch := (first | omega | (simp only [lenB, wS_len] <;> omega) | fail)) only [admQ, lenB, wS_len, aFill, AK.cls, implies_true, ↓reduceIte, reduceCtorEq, if_true, if_false, Nat.reduceAdd, Nat.reduceEqDiff, Nat.reduceMod, Nat.reduceLT, Nat.reduceLeDiff, Nat.reduceSub, Nat.reduceMul, Nat.reduceBEq, Int.reduceAdd, Int.reduceSub, Int.reduceMul, Int.reduceNeg, Int.reduceLT, Int.reduceLE, Int.reduceToNat, Int.reduceEq, Int.reduceBEq, u32R, hrow, hqM, hKM, hw, hkT]
    refine hX (i + 1, .sl _ 0 8 8 0) _ _ rfl (by simp only; omega) ⟨by simp only; omega, kk.more_app _, _, 8, 0, rfl, ?_, Nat.le_refl _⟩
    simp only
    rw [rowOf_app_at0, S8.rnds, hr, rnd_cells]; rfl
  · obtain rfl : i = 64 := by omega
    simp -implicitDefEqProofs (disch := (first | omega | (simp only [lenB, wS_len] <;> omega) | fail)) only [admQ, lenB, wS_len, aFill, AK.cls, implies_true, ↓reduceIte, reduceCtorEq, if_true, if_false, Nat.reduceAdd, Nat.reduceEqDiff, Nat.reduceMod, Nat.reduceLT, Nat.reduceLeDiff, Nat.reduceSub, Nat.reduceMul, Nat.reduceBEq, Int.reduceAdd, Int.reduceSub, Int.reduceMul, Int.reduceNeg, Int.reduceLT, Int.reduceLE, Int.reduceToNat, Int.reduceEq, Int.reduceBEq]
    clear hX X
    have KM := K2.trans kk
    have hsM := hxs.kept0 kk
    clear hK hx hB k1 hw64 K2 hq2 hx2 hK2 hxs hkT hw kk hi hlt
    have htk : s.take B = s.add r := by rw [S8.take, hr]
    rw [htk]
    clear htk hr
    have hsl : ∀ j, j < 8 → (wds s.l)[j]? = some (b32 (gw s.l j)) := fun j hj => wds_at (show j < 8 from hj)
    have hrl : ∀ j, j < 8 → (wds r.l)[j]? = some (b32 (gw r.l j)) := fun j hj => wds_at (show j < 8 from hj)
    refine LoopW.on (fun t : Nat × AV => [(0, x), (6, z), (13, t.2), (14, .int .i64 t.1)]) (fun t => 8 - t.1) (fun t N => t.1 ≤ 8 ∧ Kept [] M N ∧ Kept [] m N ∧ GrA 1 M.length N t.2 (wds ((s.add r).l.take t.1))) ?_ (0, .nils) _ _ rfl ⟨by simp, .refl _ _, KM, .nils ..⟩
    rintro ⟨i, v⟩ N X ⟨hi, kN, kmN, g⟩ hX
    change GrA 1 M.length N v (wds ((s.add r).l.take i)) at g
    simp only at hi
    have hal : (s.add r).l.length = 8 := rfl
    by_cases hlt : i < 8
    · obtain ⟨b1, c1, z1, rfl, hr1, hc1⟩ := hsM.kept0 kN
      obtain ⟨b2, c2, z2, rfl, hr2, hc2⟩ := h8.kept0 kN
      rw [S8.cells] at hr1 hr2
      simp -implicitDefEqProofs (disch := (first | omega | (simp only [lenB, wS_len] <;> omega) | fail)) only [admQ, lenB, wS_len, aFill, AK.cls, implies_true, ↓reduceIte, reduceCtorEq, if_true, if_false, Nat.reduceAdd, Nat.reduceEqDiff, Nat.reduceMod, Nat.reduceLT, Nat.reduceLeDiff, Nat.reduceSub, Nat.reduceMul, Nat.reduceBEq, Int.reduceAdd, Int.reduceSub, Int.reduceMul, Int.reduceNeg, Int.reduceLT, Int.reduceLE, Int.reduceToNat, Int.reduceEq, Int.reduceBEq, u32R, hr1, hr2, hsl, hrl]
      obtain ⟨x3, m3, e3, g3, k3, a3⟩ := g.push (bytes := 4) (by omega) (l := [b32 (gw s.l i + gw r.l i)]) rfl (by simp; omega) kN.len
      refine someW_eq e3 ?_
      simp -implicitDefEqProofs (disch := (first | omega | (simp only [lenB, wS_len] <;> omega) | fail)) only [admQ, lenB, wS_len, aFill, AK.cls, implies_true, ↓reduceIte, reduceCtorEq, if_true, if_false, Nat.reduceAdd, Nat.reduceEqDiff, Nat.reduceMod, Nat.reduceLT, Nat.reduceLeDiff, Nat.reduceSub, Nat.reduceMul, Nat.reduceBEq, Int.reduceAdd, Int.reduceSub, Int.reduceMul, Int.reduceNeg, Int.reduceLT, Int.reduceLE, Int.reduceToNat, Int.reduceEq, Int.reduceBEq]
      refine hX (i + 1, x3) _ _ rfl (by simp only; omega) ⟨by simp only; omega, a3 _ _ kN (Nat.le_refl _), a3 _ _ kmN KM.len, ?_⟩
      show GrA 1 M.length m3 x3 (wds ((s.add r).l.take (i + 1)))
      rw [take_gw (by omega), wds, List.map_append, ← add_gw _ _ hlt]; exact g3
    · obtain rfl : i = 8 := by omega
      simp -implicitDefEqProofs (disch := (first | omega | (simp only [lenB, wS_len] <;> omega) | fail)) only [admQ, lenB, wS_len, aFill, AK.cls, implies_true, ↓reduceIte, reduceCtorEq, if_true, if_false, Nat.reduceAdd, Nat.reduceEqDiff, Nat.reduceMod, Nat.reduceLT, Nat.reduceLeDiff, Nat.reduceSub, Nat.reduceMul, Nat.reduceBEq, Int.reduceAdd, Int.reduceSub, Int.reduceMul, Int.reduceNeg, Int.reduceLT, Int.reduceLE, Int.reduceToNat, Int.reduceEq, Int.reduceBEq]
      exact ⟨kmN, g.low KM.len⟩
end Go.Proofs.YtdmdakaliilghaaDoor
end
section
/- Digests as the document has them: rows, and the sum. -/
namespace Go.Proofs.YtdmdakaliilghaaDoor
open Go Go.Adm
set_option linter.unusedSimpArgs false
set_option linter.unusedVariables false
set_option maxRecDepth 100000
theorem take_gb2 {l : List B8} {i : Nat} (h : i < l.length) : l.take (i + 1) = l.take i ++ [gb l i] := by
  rw [List.take_add_one]; simp [gb, h]
theorem ans_rsrows {m : Mem} {x : AV} {l : List B8} (hx : RdB m x l) (hl : l.length ≤ 1000000000) :
    Ans Tryd.prog 49 [x] m fun r m' => Kept [] m m' ∧ GrB m.length m' r (l ++ pad l.length) := by
  refine ans_ret mixed ok49 ?_
  simp -implicitDefEqProofs (disch := (first | omega | (simp only [lenB, wS_len] <;> omega) | fail)) only [admQ, lenB, wS_len, aFill, AK.cls, implies_true, ↓reduceIte, reduceCtorEq, if_true, if_false, Nat.reduceAdd, Nat.reduceEqDiff, Nat.reduceMod, Nat.reduceLT, Nat.reduceLeDiff, Nat.reduceSub, Nat.reduceMul, Nat.reduceBEq, Int.reduceAdd, Int.reduceSub, Int.reduceMul, Int.reduceNeg, Int.reduceLT, Int.reduceLE, Int.reduceToNat, Int.reduceEq, Int.reduceBEq, c49, r49]
  refine LoopW.on (fun t : Nat × AV => [(0, x), (3, t.2), (4, .int .i64 t.1)]) (fun t => l.length - t.1) (fun t M => t.1 ≤ l.length ∧ Kept [] m M ∧ GrB m.length M t.2 (l.take t.1)) ?_ (0, .nils) _ _ rfl ⟨by simp, .refl _ _, .nils ..⟩
  rintro ⟨i, y⟩ M X ⟨hi, kk, g⟩ hX
  change GrB m.length M y (l.take i) at g
  simp only at hi
  by_cases hlt : i < l.length
  · have hlen := hx.len
    obtain ⟨b, o, cap, s, c, rfl, hrow, hat, _⟩ := hx.cons hlt
    have hr := kk.row hrow (by simp)
    have e := hat i hlt
    simp -implicitDefEqProofs (disch := (first | omega | (simp only [lenB, wS_len] <;> omega) | fail)) only [admQ, lenB, wS_len, aFill, AK.cls, implies_true, ↓reduceIte, reduceCtorEq, if_true, if_false, Nat.reduceAdd, Nat.reduceEqDiff, Nat.reduceMod, Nat.reduceLT, Nat.reduceLeDiff, Nat.reduceSub, Nat.reduceMul, Nat.reduceBEq, Int.reduceAdd, Int.reduceSub, Int.reduceMul, Int.reduceNeg, Int.reduceLT, Int.reduceLE, Int.reduceToNat, Int.reduceEq, Int.reduceBEq, hlen, hr, e]
    obtain ⟨x3, m3, e3, g3, k3, a3⟩ := g.push (gb l i) (by simp; omega) kk.len
    refine someW_eq e3 ?_
    simp -implicitDefEqProofs (disch := (first | omega | (simp only [lenB, wS_len] <;> omega) | fail)) only [admQ, lenB, wS_len, aFill, AK.cls, implies_true, ↓reduceIte, reduceCtorEq, if_true, if_false, Nat.reduceAdd, Nat.reduceEqDiff, Nat.reduceMod, Nat.reduceLT, Nat.reduceLeDiff, Nat.reduceSub, Nat.reduceMul, Nat.reduceBEq, Int.reduceAdd, Int.reduceSub, Int.reduceMul, Int.reduceNeg, Int.reduceLT, Int.reduceLE, Int.reduceToNat, Int.reduceEq, Int.reduceBEq]
    refine hX (i + 1, x3) _ _ rfl (by simp only; omega) ⟨by simp only; omega, a3 _ _ kk (Nat.le_refl _), ?_⟩
    show GrB m.length m3 x3 (l.take (i + 1))
    rw [take_gb2 hlt]; exact g3
  · obtain rfl : i = l.length := by omega
    rw [List.take_length] at g
    simp -implicitDefEqProofs (disch := (first | omega | (simp only [lenB, wS_len] <;> omega) | fail)) only [admQ, lenB, wS_len, aFill, AK.cls, implies_true, ↓reduceIte, reduceCtorEq, if_true, if_false, Nat.reduceAdd, Nat.reduceEqDiff, Nat.reduceMod, Nat.reduceLT, Nat.reduceLeDiff, Nat.reduceSub, Nat.reduceMul, Nat.reduceBEq, Int.reduceAdd, Int.reduceSub, Int.reduceMul, Int.reduceNeg, Int.reduceLT, Int.reduceLE, Int.reduceToNat, Int.reduceEq, Int.reduceBEq, hx.len]
    clear hX X
    obtain ⟨x3, m3, e3, g3, k3, a3⟩ := g.push 0x80#8 (by omega) kk.len
    refine someW_eq e3 ?_
    have kk3 := a3 _ _ kk (Nat.le_refl _)
    simp -implicitDefEqProofs (disch := (first | omega | (simp only [lenB, wS_len] <;> omega) | fail)) only [admQ, lenB, wS_len, aFill, AK.cls, implies_true, ↓reduceIte, reduceCtorEq, if_true, if_false, Nat.reduceAdd, Nat.reduceEqDiff, Nat.reduceMod, Nat.reduceLT, Nat.reduceLeDiff, Nat.reduceSub, Nat.reduceMul, Nat.reduceBEq, Int.reduceAdd, Int.reduceSub, Int.reduceMul, Int.reduceNeg, Int.reduceLT, Int.reduceLE, Int.reduceToNat, Int.reduceEq, Int.reduceBEq]
    clear e3 k3 a3 kk g hlt hi
    refine LoopW.on (fun t : Nat × AV => [(0, x), (3, t.2)]) (fun t => padZ l.length - t.1)
      (fun t m' => t.1 ≤ padZ l.length ∧ Kept [] m m' ∧ GrB m.length m' t.2 (l ++ [0x80#8] ++ List.replicate t.1 0#8)) ?_ (0, x3) _ _ rfl ⟨by omega, kk3, by simpa using g3⟩
    clear kk3 g3 M m3
    rintro ⟨j, x1⟩ M X ⟨hj, kk, g⟩ hX
    change GrB m.length M x1 (l ++ [0x80#8] ++ List.replicate j 0#8) at g
    simp only at hj
    have hpz : padZ l.length < 64 := Nat.mod_lt _ (by omega)
    have hfl : (l ++ [0x80#8] ++ List.replicate j 0#8).length = l.length + 1 + j := by simp; omega
    by_cases hlt : j < padZ l.length
    · have hne : (l.length + 1 + j) % 64 ≠ 56 := by unfold padZ at *; omega
      simp -implicitDefEqProofs (disch := (first | omega | (simp only [lenB, wS_len] <;> omega) | fail)) only [admQ, lenB, wS_len, aFill, AK.cls, implies_true, ↓reduceIte, reduceCtorEq, if_true, if_false, Nat.reduceAdd, Nat.reduceEqDiff, Nat.reduceMod, Nat.reduceLT, Nat.reduceLeDiff, Nat.reduceSub, Nat.reduceMul, Nat.reduceBEq, Int.reduceAdd, Int.reduceSub, Int.reduceMul, Int.reduceNeg, Int.reduceLT, Int.reduceLE, Int.reduceToNat, Int.reduceEq, Int.reduceBEq, g.len, hfl]
      obtain ⟨x2, m2, e2, g2, k2, a2⟩ := g.push 0#8 (by omega) kk.len
      refine someW_eq e2 ?_
      simp -implicitDefEqProofs (disch := (first | omega | (simp only [lenB, wS_len] <;> omega) | fail)) only [admQ, lenB, wS_len, aFill, AK.cls, implies_true, ↓reduceIte, reduceCtorEq, if_true, if_false, Nat.reduceAdd, Nat.reduceEqDiff, Nat.reduceMod, Nat.reduceLT, Nat.reduceLeDiff, Nat.reduceSub, Nat.reduceMul, Nat.reduceBEq, Int.reduceAdd, Int.reduceSub, Int.reduceMul, Int.reduceNeg, Int.reduceLT, Int.reduceLE, Int.reduceToNat, Int.reduceEq, Int.reduceBEq]
      refine hX (j + 1, x2) _ _ rfl (by simp only; omega) ⟨by simp only; omega, a2 _ _ kk (Nat.le_refl _), ?_⟩
      rw [List.replicate_succ', ← List.append_assoc]; exact g2
    · obtain rfl : j = padZ l.length := by omega
      have hne : (l.length + 1 + padZ l.length) % 64 = 56 := by unfold padZ; omega
      simp -implicitDefEqProofs (disch := (first | omega | (simp only [lenB, wS_len] <;> omega) | fail)) only [admQ, lenB, wS_len, aFill, AK.cls, implies_true, ↓reduceIte, reduceCtorEq, if_true, if_false, Nat.reduceAdd, Nat.reduceEqDiff, Nat.reduceMod, Nat.reduceLT, Nat.reduceLeDiff, Nat.reduceSub, Nat.reduceMul, Nat.reduceBEq, Int.reduceAdd, Int.reduceSub, Int.reduceMul, Int.reduceNeg, Int.reduceLT, Int.reduceLE, Int.reduceToNat, Int.reduceEq, Int.reduceBEq, g.len, hfl, hx.len, @w64]
      rw [Nat.mul_comm l.length 8]
      have hv : 8 * l.length < 18446744073709551616 := by omega
      have hfin : l ++ [0x80#8] ++ List.replicate (padZ l.length) 0#8 ++ tab 8 (fun i => byV (8 * l.length) (7 - i)) = l ++ pad l.length := by
        simp [pad, lowB]
      generalize l ++ [0x80#8] ++ List.replicate (padZ l.length) 0#8 = P at g hfl hfin
      generalize 8 * l.length = v at hv hfin
      clear hX X
      refine LoopW.on (fun t : Nat × AV => [(3, t.2), (5, .int .u64 v), (6, .int .i64 (7 - (t.1 : Int)))]) (fun t => 8 - t.1)
        (fun t m' => t.1 ≤ 8 ∧ Kept [] m m' ∧ GrB m.length m' t.2 (P ++ tab t.1 (fun i => byV v (7 - i)))) ?_ (0, x1) _ _ rfl ⟨by simp, kk, by simpa [tab] using g⟩
      clear kk g
      rintro ⟨k, x2⟩ m2 X ⟨hk, kk, g⟩ hX
      change GrB m.length m2 x2 (P ++ tab k (fun i => byV v (7 - i))) at g
      simp only at hk
      by_cases hlt : k < 8
      · rw [show (7 - (k : Int)) = ((7 - k : Nat) : Int) by omega]
        have hw : IntKind.u8.wrap ((v >>> (8 * (7 - k)) : Nat) : Int) = ((byV v (7 - k)).toNat : Int) := wrap_u8 _
        simp -implicitDefEqProofs (disch := (first | omega | (simp only [lenB, wS_len] <;> omega) | fail)) only [admQ, lenB, wS_len, aFill, AK.cls, implies_true, ↓reduceIte, reduceCtorEq, if_true, if_false, Nat.reduceAdd, Nat.reduceEqDiff, Nat.reduceMod, Nat.reduceLT, Nat.reduceLeDiff, Nat.reduceSub, Nat.reduceMul, Nat.reduceBEq, Int.reduceAdd, Int.reduceSub, Int.reduceMul, Int.reduceNeg, Int.reduceLT, Int.reduceLE, Int.reduceToNat, Int.reduceEq, Int.reduceBEq, fdiv_nat, hw, @w64]
        obtain ⟨x3, m3, e3, g3, k3, a3⟩ := g.push (byV v (7 - k)) (by simp [tab_len]; omega) kk.len
        refine someW_eq e3 ?_
        simp -implicitDefEqProofs (disch := (first | omega | (simp only [lenB, wS_len] <;> omega) | fail)) only [admQ, lenB, wS_len, aFill, AK.cls, implies_true, ↓reduceIte, reduceCtorEq, if_true, if_false, Nat.reduceAdd, Nat.reduceEqDiff, Nat.reduceMod, Nat.reduceLT, Nat.reduceLeDiff, Nat.reduceSub, Nat.reduceMul, Nat.reduceBEq, Int.reduceAdd, Int.reduceSub, Int.reduceMul, Int.reduceNeg, Int.reduceLT, Int.reduceLE, Int.reduceToNat, Int.reduceEq, Int.reduceBEq]
        rw [show ((7 - k : Nat) : Int) - 1 = 7 - ((k + 1 : Nat) : Int) by omega]
        refine hX (k + 1, x3) _ _ rfl (by simp only; omega) ⟨by simp only; omega, a3 _ _ kk (Nat.le_refl _), ?_⟩
        show GrB m.length m3 x3 (P ++ tab (k + 1) _)
        rw [tab_succ, ← List.append_assoc]; exact g3
      · obtain rfl : k = 8 := by omega
        rw [hfin] at g
        simp -implicitDefEqProofs (disch := (first | omega | (simp only [lenB, wS_len] <;> omega) | fail)) only [admQ, lenB, wS_len, aFill, AK.cls, implies_true, ↓reduceIte, reduceCtorEq, if_true, if_false, Nat.reduceAdd, Nat.reduceEqDiff, Nat.reduceMod, Nat.reduceLT, Nat.reduceLeDiff, Nat.reduceSub, Nat.reduceMul, Nat.reduceBEq, Int.reduceAdd, Int.reduceSub, Int.reduceMul, Int.reduceNeg, Int.reduceLT, Int.reduceLE, Int.reduceToNat, Int.reduceEq, Int.reduceBEq]
        exact ⟨kk, g⟩
theorem ans_rsfirst (m : Mem) : Ans Tryd.prog 50 [] m fun r m' => Kept [] m m' ∧ St8 m' r S8.first := by
  refine ans_ret mixed ok50 ?_
  simp -implicitDefEqProofs (disch := (first | omega | (simp only [lenB, wS_len] <;> omega) | fail)) only [admQ, lenB, wS_len, aFill, AK.cls, implies_true, ↓reduceIte, reduceCtorEq, if_true, if_false, Nat.reduceAdd, Nat.reduceEqDiff, Nat.reduceMod, Nat.reduceLT, Nat.reduceLeDiff, Nat.reduceSub, Nat.reduceMul, Nat.reduceBEq, Int.reduceAdd, Int.reduceSub, Int.reduceMul, Int.reduceNeg, Int.reduceLT, Int.reduceLE, Int.reduceToNat, Int.reduceEq, Int.reduceBEq, c50, r50]
  exact ⟨.app _ _ _, m.length, 8, 0, rfl, by rw [rowOf_app_at0]; rfl, Nat.le_refl _⟩
theorem ans_rsof {m : Mem} {x : AV} {l : List B8} (hK : rowOf m 1 = some (wds kT)) (hx : RdB m x l) (hl : l.length ≤ 900000000) :
    Ans Tryd.prog 35 [x] m fun r m' => r = .agg (bys (shaB l)) ∧ Kept [] m m' := by
  refine ans_ret mixed ok35 ?_
  simp -implicitDefEqProofs (disch := (first | omega | (simp only [lenB, wS_len] <;> omega) | fail)) only [admQ, lenB, wS_len, aFill, AK.cls, implies_true, ↓reduceIte, reduceCtorEq, if_true, if_false, Nat.reduceAdd, Nat.reduceEqDiff, Nat.reduceMod, Nat.reduceLT, Nat.reduceLeDiff, Nat.reduceSub, Nat.reduceMul, Nat.reduceBEq, Int.reduceAdd, Int.reduceSub, Int.reduceMul, Int.reduceNeg, Int.reduceLT, Int.reduceLE, Int.reduceToNat, Int.reduceEq, Int.reduceBEq, c35, r35]
  have k0 := Kept.app [] m [Blk.row (bys (List.replicate 32 0#8)) false]
  have o0 : own (m ++ [Blk.row (bys (List.replicate 32 0#8)) false]) m.length = some (bys (List.replicate 32 0#8)) := by rw [own_app_at0]; rfl
  generalize m ++ [Blk.row (bys (List.replicate 32 0#8)) false] = A at k0 o0
  refine (ans_rsrows (hx.kept0 k0) (by omega)).mono ?_
  rintro y m1 ⟨k1, g1⟩
  simp -implicitDefEqProofs (disch := (first | omega | (simp only [lenB, wS_len] <;> omega) | fail)) only [admQ, lenB, wS_len, aFill, AK.cls, implies_true, ↓reduceIte, reduceCtorEq, if_true, if_false, Nat.reduceAdd, Nat.reduceEqDiff, Nat.reduceMod, Nat.reduceLT, Nat.reduceLeDiff, Nat.reduceSub, Nat.reduceMul, Nat.reduceBEq, Int.reduceAdd, Int.reduceSub, Int.reduceMul, Int.reduceNeg, Int.reduceLT, Int.reduceLE, Int.reduceToNat, Int.reduceEq, Int.reduceBEq]
  refine (ans_rsfirst _).mono ?_
  rintro z m2 ⟨k2, h8⟩
  simp -implicitDefEqProofs (disch := (first | omega | (simp only [lenB, wS_len] <;> omega) | fail)) only [admQ, lenB, wS_len, aFill, AK.cls, implies_true, ↓reduceIte, reduceCtorEq, if_true, if_false, Nat.reduceAdd, Nat.reduceEqDiff, Nat.reduceMod, Nat.reduceLT, Nat.reduceLeDiff, Nat.reduceSub, Nat.reduceMul, Nat.reduceBEq, Int.reduceAdd, Int.reduceSub, Int.reduceMul, Int.reduceNeg, Int.reduceLT, Int.reduceLE, Int.reduceToNat, Int.reduceEq, Int.reduceBEq]
  have hpl := pad_len l.length
  have hpm := pad_mod l.length
  have hpz : padZ l.length < 64 := Nat.mod_lt _ (by omega)
  have hFl : (l ++ pad l.length).length = l.length + (pad l.length).length := List.length_append ..
  have hres : ∀ n, n = (l.length + (pad l.length).length) / 64 → (S8.first.takes (l ++ pad l.length) n).out = shaB l := by rintro n rfl; rfl
  have hA : ∀ n, 64 * n = (l ++ pad l.length).length → (S8.first.takes (l ++ pad l.length) n).out = shaB l := fun n hn => hres n (by omega)
  clear hres
  have gF := g1.kept0 k2
  have KA := k0.trans (k1.trans k2)
  have o2 := (k1.trans k2).own o0 (by simp)
  have hFn : (l ++ pad l.length).length % 64 = 0 := by omega
  have hF0 : 0 < (l ++ pad l.length).length := by omega
  have hFb : (l ++ pad l.length).length ≤ 1000000000 := by omega
  clear g1 k0 o0 k1 k2 hpl hpm hFl
  generalize l ++ pad l.length = F at gF hA hFn hF0 hFb
  obtain ⟨b, n, rfl, hn0, hn, hb, hb0⟩ := gF.sl (by intro e; have : F = [] := List.map_eq_nil_iff.mp e; simp [this] at hF0)
  rw [List.length_map, Nat.mul_one] at hn
  subst hn
  refine LoopW.on (fun t : Nat × AV => [(2, .ptr m.length 0), (3, .sl b 0 F.length F.length 1), (4, t.2), (5, .int .i64 ((64 * t.1 : Nat) : Int))]) (fun t => F.length - 64 * t.1)
    (fun t M => 64 * t.1 ≤ F.length ∧ Kept [] m2 M ∧ St8 M t.2 (S8.first.takes F t.1)) ?_ (0, z) _ _ rfl ⟨by simp, .refl _ _, h8⟩
  rintro ⟨i, z⟩ M X ⟨hi, kk, h8⟩ hX
  change St8 M z (S8.first.takes F i) at h8
  simp only at hi
  by_cases hlt : 64 * i < F.length
  · have hrd := ((RdB.row F.length 1 (kk.row (rowOf_own hb) (by simp)) (Nat.le_refl _)).drop (k := 64 * i) (by omega)).take (k := 64) (by omega)
    rw [Nat.zero_add] at hrd
    simp -implicitDefEqProofs (disch := (first | omega | (simp only [lenB, wS_len] <;> omega) | fail)) only [admQ, lenB, wS_len, aFill, AK.cls, implies_true, ↓reduceIte, reduceCtorEq, if_true, if_false, Nat.reduceAdd, Nat.reduceEqDiff, Nat.reduceMod, Nat.reduceLT, Nat.reduceLeDiff, Nat.reduceSub, Nat.reduceMul, Nat.reduceBEq, Int.reduceAdd, Int.reduceSub, Int.reduceMul, Int.reduceNeg, Int.reduceLT, Int.reduceLE, Int.reduceToNat, Int.reduceEq, Int.reduceBEq]
    rw [show 64 * i + 64 - 64 * i = 64 by omega]
    refine (ans_rstake _ ((KA.trans kk).row hK (by simp)) h8 hrd (by simp; omega)).mono ?_
    rintro z3 m3 ⟨k3, g3⟩
    simp -implicitDefEqProofs (disch := (first | omega | (simp only [lenB, wS_len] <;> omega) | fail)) only [admQ, lenB, wS_len, aFill, AK.cls, implies_true, ↓reduceIte, reduceCtorEq, if_true, if_false, Nat.reduceAdd, Nat.reduceEqDiff, Nat.reduceMod, Nat.reduceLT, Nat.reduceLeDiff, Nat.reduceSub, Nat.reduceMul, Nat.reduceBEq, Int.reduceAdd, Int.reduceSub, Int.reduceMul, Int.reduceNeg, Int.reduceLT, Int.reduceLE, Int.reduceToNat, Int.reduceEq, Int.reduceBEq]
    exact hX (i + 1, z3) _ _ rfl (by simp only; omega) ⟨by simp only; omega, kk.trans k3, .of_gr g3⟩
  · have hq := hA i (by omega)
    generalize S8.first.takes F i = r at h8 hq
    simp -implicitDefEqProofs (disch := (first | omega | (simp only [lenB, wS_len] <;> omega) | fail)) only [admQ, lenB, wS_len, aFill, AK.cls, implies_true, ↓reduceIte, reduceCtorEq, if_true, if_false, Nat.reduceAdd, Nat.reduceEqDiff, Nat.reduceMod, Nat.reduceLT, Nat.reduceLeDiff, Nat.reduceSub, Nat.reduceMul, Nat.reduceBEq, Int.reduceAdd, Int.reduceSub, Int.reduceMul, Int.reduceNeg, Int.reduceLT, Int.reduceLE, Int.reduceToNat, Int.reduceEq, Int.reduceBEq]
    clear hX X
    have kM := KA.trans kk
    have oM := kk.own o2 (by simp)
    have hrl : ∀ j, j < 32 → (r.cells)[j / 4]? = some (b32 (gw r.l (j / 4))) := fun j hj => wds_at (show j / 4 < 8 by omega)
    obtain ⟨b1, c1, z1, rfl, hr1, hc1⟩ := h8
    have hb1 := rowOf_lt hr1
    rw [← tab_const, ← upTo_zero 32 (fun j => (gw r.l (j / 4) >>> (24 - 8 * (j % 4))).setWidth 8) (fun _ => 0#8)]
    refine LoopW.on (fun i : Nat => [(2, .ptr m.length 0), (4, .sl b1 0 8 c1 z1), (6, .ptr M.length 0), (7, .int .i64 i)]) (fun i => 32 - i)
      (fun i M' => i ≤ 32 ∧ Kept [] M M' ∧ own M' M.length = some (bys (upTo 32 (fun j => (gw r.l (j / 4) >>> (24 - 8 * (j % 4))).setWidth 8) (fun _ => 0#8) i))) ?_ 0 _ _ rfl ⟨by omega, .app _ _ _, by rw [own_app_at0]; rfl⟩
    rintro j M' X ⟨hj, w, op⟩ hX
    have hrM := w.row hr1 (by simp)
    by_cases hlt : j < 32
    · have hu := upTo_set (n := 32) (i := j) (f := fun j => (gw r.l (j / 4) >>> (24 - 8 * (j % 4))).setWidth 8) (g := fun _ => 0#8)
      have hca := hrl j hlt
      have hlp := own_lt op
      simp -implicitDefEqProofs (disch := (first | omega | (simp only [lenB, wS_len] <;> omega) | fail)) only [admQ, lenB, wS_len, aFill, AK.cls, implies_true, ↓reduceIte, reduceCtorEq, if_true, if_false, Nat.reduceAdd, Nat.reduceEqDiff, Nat.reduceMod, Nat.reduceLT, Nat.reduceLeDiff, Nat.reduceSub, Nat.reduceMul, Nat.reduceBEq, Int.reduceAdd, Int.reduceSub, Int.reduceMul, Int.reduceNeg, Int.reduceLT, Int.reduceLE, Int.reduceToNat, Int.reduceEq, Int.reduceBEq, hrM, op, hca, u32R, @w64, splice_byte, hu]
      refine hX (j + 1) _ _ rfl (by omega) ⟨by omega, w.write (.inr (Nat.le_refl _)) _, own_set hlp _⟩
    · obtain rfl : j = 32 := by omega
      rw [upTo_all] at op
      have oA' := w.own oM (by simp)
      have hdef : r.out = tab 32 fun j => (gw r.l (j / 4) >>> (24 - 8 * (j % 4))).setWidth 8 := rfl
      rw [← hdef, hq] at op
      have hsl := shaB_len l
      simp -implicitDefEqProofs (disch := (first | omega | (simp only [lenB, wS_len] <;> omega) | fail)) only [admQ, lenB, wS_len, aFill, AK.cls, implies_true, ↓reduceIte, reduceCtorEq, if_true, if_false, Nat.reduceAdd, Nat.reduceEqDiff, Nat.reduceMod, Nat.reduceLT, Nat.reduceLeDiff, Nat.reduceSub, Nat.reduceMul, Nat.reduceBEq, Int.reduceAdd, Int.reduceSub, Int.reduceMul, Int.reduceNeg, Int.reduceLT, Int.reduceLE, Int.reduceToNat, Int.reduceEq, Int.reduceBEq, rowOf_own op, op, oA', own_set (own_lt oA'), rowOf_own (own_set (own_lt oA') _)]
      exact (kM.trans w).write (.inr (Nat.le_refl _)) _
end Go.Proofs.YtdmdakaliilghaaDoor
end
section
/- Sums under a key, as the document has them. -/
namespace Go.Proofs.YtdmdakaliilghaaDoor
open Go Go.Adm
set_option linter.unusedSimpArgs false
set_option linter.unusedVariables false
set_option maxRecDepth 100000
def keyK (key : List B8) : List B8 := if 64 < key.length then shaB key else key
theorem keyK_le (key : List B8) : (keyK key).length ≤ 64 := by
  unfold keyK; split
  · rw [shaB_len]; omega
  · omega
theorem keyB_K (key : List B8) : keyB key = keyK key ++ List.replicate (64 - (keyK key).length) 0#8 := by
  unfold keyB keyK; split
  · rw [shaB_len]
  · rfl
theorem ans_rsblk {m : Mem} {y : AV} {key : List B8} (x : B8) (hK : rowOf m 1 = some (wds kT)) (hB : RdB m y key) (hlen : key.length ≤ 900000000) :
    Ans Tryd.prog 56 [y, b8 x] m fun r m' => Kept [] m m' ∧ GrB m.length m' r (blkX key x) := by
  refine ans_ret mixed ok56 ?_
  simp -implicitDefEqProofs (disch := (first | omega | (simp only [lenB, shaB_len, macB_len] <;> omega) | fail)) only [admQ, lenB, shaB_len, macB_len, aFill, AK.cls, implies_true, ↓reduceIte, reduceCtorEq, if_true, if_false, Nat.reduceAdd, Nat.reduceEqDiff, Nat.reduceMod, Nat.reduceLT, Nat.reduceLeDiff, Nat.reduceSub, Nat.reduceMul, Nat.reduceBEq, Int.reduceAdd, Int.reduceSub, Int.reduceMul, Int.reduceNeg, Int.reduceLT, Int.reduceLE, Int.reduceToNat, Int.reduceEq, Int.reduceBEq, p56, r56, hB.len]
  refine LoopW.on (fun t : Nat × AV => [(0, y), (1, b8 x), (5, t.2), (6, .int .i64 t.1)]) (fun t => key.length - t.1) (fun t M => t.1 ≤ key.length ∧ (64 < key.length → t.1 = 0) ∧ Kept [] m M ∧ GrB m.length M t.2 (key.take t.1)) ?_ (0, .nils) _ _ rfl ⟨by simp, fun _ => rfl, .refl _ _, .nils ..⟩
  rintro ⟨i, v⟩ M X ⟨hi, h0, kk, g⟩ hX
  change GrB m.length M v (key.take i) at g
  simp only at hi h0
  have exit : ∀ (w : AV), (64 < key.length → GrB m.length M w []) → (¬ 64 < key.length → GrB m.length M w key) → wpA Tryd.prog c56_1 [(0, y), (1, b8 x), (5, w)] M (seqK Tryd.prog c56_2 (retQ [.tmp 4] fun r m' => Kept [] m m' ∧ GrB m.length m' r (blkX key x))) := by
    intro w gl gs
    clear hX X g h0 hi
    refine wp_joinL [1, 5] (fun v : AV => [(1, b8 x), (5, v)]) (fun v M => Kept [] m M ∧ GrB m.length M v (keyK key)) rfl ?_ ?_
    · by_cases h64 : 64 < key.length
      · replace gl := gl h64
        simp -implicitDefEqProofs (disch := (first | omega | (simp only [lenB, shaB_len, macB_len] <;> omega) | fail)) only [admQ, lenB, shaB_len, macB_len, aFill, AK.cls, implies_true, ↓reduceIte, reduceCtorEq, if_true, if_false, Nat.reduceAdd, Nat.reduceEqDiff, Nat.reduceMod, Nat.reduceLT, Nat.reduceLeDiff, Nat.reduceSub, Nat.reduceMul, Nat.reduceBEq, Int.reduceAdd, Int.reduceSub, Int.reduceMul, Int.reduceNeg, Int.reduceLT, Int.reduceLE, Int.reduceToNat, Int.reduceEq, Int.reduceBEq, c56_1, joins, hB.len]
        refine (ans_rsof (kk.row hK (by simp)) (hB.kept0 kk) hlen).mono ?_
        rintro _ m1 ⟨rfl, k1⟩
        have hsl := shaB_len key
        have hkK : keyK key = shaB key := by rw [keyK, if_pos h64]
        rw [hkK]
        generalize shaB key = S at hsl
        simp -implicitDefEqProofs (disch := (first | omega | (simp only [lenB, shaB_len, macB_len] <;> omega) | fail)) only [admQ, lenB, shaB_len, macB_len, aFill, AK.cls, implies_true, ↓reduceIte, reduceCtorEq, if_true, if_false, Nat.reduceAdd, Nat.reduceEqDiff, Nat.reduceMod, Nat.reduceLT, Nat.reduceLeDiff, Nat.reduceSub, Nat.reduceMul, Nat.reduceBEq, Int.reduceAdd, Int.reduceSub, Int.reduceMul, Int.reduceNeg, Int.reduceLT, Int.reduceLE, Int.reduceToNat, Int.reduceEq, Int.reduceBEq, joins]
        have k0 := (kk.trans k1).more_app [Blk.row (bys S) false]
        have o0 : own (m1 ++ [Blk.row (bys S) false]) m1.length = some (bys S) := by rw [own_app_at0]; rfl
        have g0 := (gl.kept0 k1).kept0 (.app [] m1 [Blk.row (bys S) false])
        have hw : ∀ b ∈ blkOf w, b < m1.length := fun b hb => by have := g0.lt; exact ((gl.kept0 k1).lt b hb)
        generalize m1 ++ [Blk.row (bys S) false] = A at k0 o0 g0
        refine LoopW.on (fun t : Nat × AV => [(1, b8 x), (5, t.2), (7, .ptr m1.length 0), (8, .int .i64 t.1)]) (fun t => 32 - t.1) (fun t M => t.1 ≤ 32 ∧ Kept [] m M ∧ own M m1.length = some (bys S) ∧ m1.length ∉ blkOf t.2 ∧ GrB m.length M t.2 (S.take t.1)) ?_ (0, w) _ _ rfl ⟨by simp, k0, o0, fun h => by have := hw _ h; omega, by simpa using g0⟩
        clear gl gs g0 o0 k0 hw kk k1
        rintro ⟨i, v⟩ M X ⟨hi, kk, o, hnb, g⟩ hX
        change GrB m.length M v (S.take i) at g
        simp only at hi hnb
        by_cases hlt : i < 32
        · have e : (bys S)[i]? = some (b8 (gb S i)) := bys_at (by omega)
          simp -implicitDefEqProofs (disch := (first | omega | (simp only [lenB, shaB_len, macB_len] <;> omega) | fail)) only [admQ, lenB, shaB_len, macB_len, aFill, AK.cls, implies_true, ↓reduceIte, reduceCtorEq, if_true, if_false, Nat.reduceAdd, Nat.reduceEqDiff, Nat.reduceMod, Nat.reduceLT, Nat.reduceLeDiff, Nat.reduceSub, Nat.reduceMul, Nat.reduceBEq, Int.reduceAdd, Int.reduceSub, Int.reduceMul, Int.reduceNeg, Int.reduceLT, Int.reduceLE, Int.reduceToNat, Int.reduceEq, Int.reduceBEq, rowOf_own o, e, joins]
          obtain ⟨x3, m3, e3, g3, k3, a3, n3⟩ := GrA.push5 (bytes := 1) g (by omega) (l := [b8 (gb S i)]) rfl (by simp; omega) kk.len
          refine someW_eq e3 ?_
          simp -implicitDefEqProofs (disch := (first | omega | (simp only [lenB, shaB_len, macB_len] <;> omega) | fail)) only [admQ, lenB, shaB_len, macB_len, aFill, AK.cls, implies_true, ↓reduceIte, reduceCtorEq, if_true, if_false, Nat.reduceAdd, Nat.reduceEqDiff, Nat.reduceMod, Nat.reduceLT, Nat.reduceLeDiff, Nat.reduceSub, Nat.reduceMul, Nat.reduceBEq, Int.reduceAdd, Int.reduceSub, Int.reduceMul, Int.reduceNeg, Int.reduceLT, Int.reduceLE, Int.reduceToNat, Int.reduceEq, Int.reduceBEq, joins]
          refine hX (i + 1, x3) _ _ rfl (by simp only; omega) ⟨by simp only; omega, a3 _ _ kk (Nat.le_refl _), k3.own o hnb, fun h => ?_, ?_⟩
          · have := n3 _ h; have := own_lt o; omega
          · show GrA 1 m.length m3 x3 (bys (S.take (i + 1)))
            rw [take_gb2 (by omega), bys, List.map_append]; exact g3
        · obtain rfl : i = 32 := by omega
          rw [List.take_of_length_le (by omega)] at g
          simp -implicitDefEqProofs (disch := (first | omega | (simp only [lenB, shaB_len, macB_len] <;> omega) | fail)) only [admQ, lenB, shaB_len, macB_len, aFill, AK.cls, implies_true, ↓reduceIte, reduceCtorEq, if_true, if_false, Nat.reduceAdd, Nat.reduceEqDiff, Nat.reduceMod, Nat.reduceLT, Nat.reduceLeDiff, Nat.reduceSub, Nat.reduceMul, Nat.reduceBEq, Int.reduceAdd, Int.reduceSub, Int.reduceMul, Int.reduceNeg, Int.reduceLT, Int.reduceLE, Int.reduceToNat, Int.reduceEq, Int.reduceBEq, joins]
          exact ⟨v, rfl, kk, g⟩
      · replace gs := gs h64
        have hkK : keyK key = key := by rw [keyK, if_neg h64]
        rw [hkK]
        simp -implicitDefEqProofs (disch := (first | omega | (simp only [lenB, shaB_len, macB_len] <;> omega) | fail)) only [admQ, lenB, shaB_len, macB_len, aFill, AK.cls, implies_true, ↓reduceIte, reduceCtorEq, if_true, if_false, Nat.reduceAdd, Nat.reduceEqDiff, Nat.reduceMod, Nat.reduceLT, Nat.reduceLeDiff, Nat.reduceSub, Nat.reduceMul, Nat.reduceBEq, Int.reduceAdd, Int.reduceSub, Int.reduceMul, Int.reduceNeg, Int.reduceLT, Int.reduceLE, Int.reduceToNat, Int.reduceEq, Int.reduceBEq, c56_1, joins, hB.len]
        exact ⟨w, rfl, kk, gs⟩
    · clear gl gs kk
      rintro v M ⟨kk, g⟩
      simp -implicitDefEqProofs (disch := (first | omega | (simp only [lenB, shaB_len, macB_len] <;> omega) | fail)) only [admQ, lenB, shaB_len, macB_len, aFill, AK.cls, implies_true, ↓reduceIte, reduceCtorEq, if_true, if_false, Nat.reduceAdd, Nat.reduceEqDiff, Nat.reduceMod, Nat.reduceLT, Nat.reduceLeDiff, Nat.reduceSub, Nat.reduceMul, Nat.reduceBEq, Int.reduceAdd, Int.reduceSub, Int.reduceMul, Int.reduceNeg, Int.reduceLT, Int.reduceLE, Int.reduceToNat, Int.reduceEq, Int.reduceBEq, c56_2]
      have hle := keyK_le key
      have hbk := keyB_K key
      have hbl := keyB_len key
      have hfin : blkX key x = tab 64 fun j => gb (keyB key) j ^^^ x := rfl
      rw [hfin]
      clear hfin
      generalize keyB key = Kb at hbk hbl
      generalize keyK key = k at g hle hbk
      refine LoopW.on (fun t : Nat × AV => [(1, b8 x), (5, t.2)]) (fun t => 64 - k.length - t.1) (fun t M => t.1 ≤ 64 - k.length ∧ Kept [] m M ∧ GrB m.length M t.2 (k ++ List.replicate t.1 0#8)) ?_ (0, v) _ _ rfl ⟨by simp, kk, by simpa using g⟩
      clear g kk
      rintro ⟨j, v⟩ M X ⟨hj, kk, g⟩ hX
      change GrB m.length M v (k ++ List.replicate j 0#8) at g
      simp only at hj
      have hgl : (k ++ List.replicate j 0#8).length = k.length + j := by simp
      by_cases hlt : j < 64 - k.length
      · simp -implicitDefEqProofs (disch := (first | omega | (simp only [lenB, shaB_len, macB_len] <;> omega) | fail)) only [admQ, lenB, shaB_len, macB_len, aFill, AK.cls, implies_true, ↓reduceIte, reduceCtorEq, if_true, if_false, Nat.reduceAdd, Nat.reduceEqDiff, Nat.reduceMod, Nat.reduceLT, Nat.reduceLeDiff, Nat.reduceSub, Nat.reduceMul, Nat.reduceBEq, Int.reduceAdd, Int.reduceSub, Int.reduceMul, Int.reduceNeg, Int.reduceLT, Int.reduceLE, Int.reduceToNat, Int.reduceEq, Int.reduceBEq, g.len, hgl]
        obtain ⟨x3, m3, e3, g3, k3, a3⟩ := g.push 0#8 (by omega) kk.len
        refine someW_eq e3 ?_
        simp -implicitDefEqProofs (disch := (first | omega | (simp only [lenB, shaB_len, macB_len] <;> omega) | fail)) only [admQ, lenB, shaB_len, macB_len, aFill, AK.cls, implies_true, ↓reduceIte, reduceCtorEq, if_true, if_false, Nat.reduceAdd, Nat.reduceEqDiff, Nat.reduceMod, Nat.reduceLT, Nat.reduceLeDiff, Nat.reduceSub, Nat.reduceMul, Nat.reduceBEq, Int.reduceAdd, Int.reduceSub, Int.reduceMul, Int.reduceNeg, Int.reduceLT, Int.reduceLE, Int.reduceToNat, Int.reduceEq, Int.reduceBEq]
        refine hX (j + 1, x3) _ _ rfl (by simp only; omega) ⟨by simp only; omega, a3 _ _ kk (Nat.le_refl _), ?_⟩
        show GrB m.length m3 x3 (k ++ List.replicate (j + 1) 0#8)
        rw [List.replicate_succ', ← List.append_assoc]; exact g3
      · obtain rfl : j = 64 - k.length := by omega
        simp -implicitDefEqProofs (disch := (first | omega | (simp only [lenB, shaB_len, macB_len] <;> omega) | fail)) only [admQ, lenB, shaB_len, macB_len, aFill, AK.cls, implies_true, ↓reduceIte, reduceCtorEq, if_true, if_false, Nat.reduceAdd, Nat.reduceEqDiff, Nat.reduceMod, Nat.reduceLT, Nat.reduceLeDiff, Nat.reduceSub, Nat.reduceMul, Nat.reduceBEq, Int.reduceAdd, Int.reduceSub, Int.reduceMul, Int.reduceNeg, Int.reduceLT, Int.reduceLE, Int.reduceToNat, Int.reduceEq, Int.reduceBEq, g.len, hgl]
        clear hX X
        rw [← hbk] at g
        obtain ⟨b, n, rfl, hn0, hn, hb, hb0⟩ := g.sl (by intro e; have : Kb = [] := List.map_eq_nil_iff.mp e; simp [this] at hbl)
        rw [List.length_map, Nat.mul_one, hbl] at hn
        subst hn
        refine LoopW.on (fun i : Nat => [(1, b8 x), (5, .sl b 0 64 64 1), (9, .int .i64 i)]) (fun i => 64 - i) (fun i M => i ≤ 64 ∧ Kept [] m M ∧ own M b = some (bys (upTo 64 (fun j => gb Kb j ^^^ x) (gb Kb) i))) ?_ 0 _ _ rfl ⟨by omega, kk, by rw [upTo_zero, tab_gb hbl]; exact hb⟩
        clear g kk hb
        rintro i M X ⟨hi, kk, o⟩ hX
        by_cases hlt : i < 64
        · have hu := upTo_set (n := 64) (i := i) (f := fun j => gb Kb j ^^^ x) (g := gb Kb)
          have hlo := own_lt o
          simp -implicitDefEqProofs (disch := (first | omega | (simp only [lenB, shaB_len, macB_len] <;> omega) | fail)) only [admQ, lenB, shaB_len, macB_len, aFill, AK.cls, implies_true, ↓reduceIte, reduceCtorEq, if_true, if_false, Nat.reduceAdd, Nat.reduceEqDiff, Nat.reduceMod, Nat.reduceLT, Nat.reduceLeDiff, Nat.reduceSub, Nat.reduceMul, Nat.reduceBEq, Int.reduceAdd, Int.reduceSub, Int.reduceMul, Int.reduceNeg, Int.reduceLT, Int.reduceLE, Int.reduceToNat, Int.reduceEq, Int.reduceBEq, rowOf_own o, o, splice_byte, hu]
          exact hX (i + 1) _ _ rfl (by omega) ⟨by omega, kk.write (.inr (by omega)) _, own_set hlo _⟩
        · obtain rfl : i = 64 := by omega
          rw [upTo_all] at o
          simp -implicitDefEqProofs (disch := (first | omega | (simp only [lenB, shaB_len, macB_len] <;> omega) | fail)) only [admQ, lenB, shaB_len, macB_len, aFill, AK.cls, implies_true, ↓reduceIte, reduceCtorEq, if_true, if_false, Nat.reduceAdd, Nat.reduceEqDiff, Nat.reduceMod, Nat.reduceLT, Nat.reduceLeDiff, Nat.reduceSub, Nat.reduceMul, Nat.reduceBEq, Int.reduceAdd, Int.reduceSub, Int.reduceMul, Int.reduceNeg, Int.reduceLT, Int.reduceLE, Int.reduceToNat, Int.reduceEq, Int.reduceBEq]
          exact ⟨kk, .inr ⟨b, 64, by omega, by simp [tab_len], rfl, o, hb0⟩⟩
  by_cases h64 : 64 < key.length
  · obtain rfl := h0 h64
    have d1 : decide ((0 : Int) < (key.length : Int)) = true := dec_t (by omega)
    simp -implicitDefEqProofs (disch := (first | omega | (simp only [lenB, shaB_len, macB_len] <;> omega) | fail)) only [admQ, lenB, shaB_len, macB_len, aFill, AK.cls, implies_true, ↓reduceIte, reduceCtorEq, if_true, if_false, Nat.reduceAdd, Nat.reduceEqDiff, Nat.reduceMod, Nat.reduceLT, Nat.reduceLeDiff, Nat.reduceSub, Nat.reduceMul, Nat.reduceBEq, Int.reduceAdd, Int.reduceSub, Int.reduceMul, Int.reduceNeg, Int.reduceLT, Int.reduceLE, Int.reduceToNat, Int.reduceEq, Int.reduceBEq, d1, hB.len]
    exact exit v (fun _ => by simpa using g) (fun h => absurd h64 h)
  · by_cases hlt : i < key.length
    · have d1 : decide ((i : Int) < (key.length : Int)) = true := dec_t (by omega)
      have hl := hB.len
      obtain ⟨b, o, cap, s, c, rfl, hrow, hat, _⟩ := hB.cons hlt
      have hr := kk.row hrow (by simp)
      have e := hat i hlt
      clear exit
      simp -implicitDefEqProofs (disch := (first | omega | (simp only [lenB, shaB_len, macB_len] <;> omega) | fail)) only [admQ, lenB, shaB_len, macB_len, aFill, AK.cls, implies_true, ↓reduceIte, reduceCtorEq, if_true, if_false, Nat.reduceAdd, Nat.reduceEqDiff, Nat.reduceMod, Nat.reduceLT, Nat.reduceLeDiff, Nat.reduceSub, Nat.reduceMul, Nat.reduceBEq, Int.reduceAdd, Int.reduceSub, Int.reduceMul, Int.reduceNeg, Int.reduceLT, Int.reduceLE, Int.reduceToNat, Int.reduceEq, Int.reduceBEq, d1, hl, hr, e]
      obtain ⟨x3, m3, e3, g3, k3, a3⟩ := g.push (gb key i) (by simp; omega) kk.len
      refine someW_eq e3 ?_
      simp -implicitDefEqProofs (disch := (first | omega | (simp only [lenB, shaB_len, macB_len] <;> omega) | fail)) only [admQ, lenB, shaB_len, macB_len, aFill, AK.cls, implies_true, ↓reduceIte, reduceCtorEq, if_true, if_false, Nat.reduceAdd, Nat.reduceEqDiff, Nat.reduceMod, Nat.reduceLT, Nat.reduceLeDiff, Nat.reduceSub, Nat.reduceMul, Nat.reduceBEq, Int.reduceAdd, Int.reduceSub, Int.reduceMul, Int.reduceNeg, Int.reduceLT, Int.reduceLE, Int.reduceToNat, Int.reduceEq, Int.reduceBEq]
      refine hX (i + 1, x3) _ _ rfl (by simp only; omega) ⟨by simp only; omega, fun h => absurd h h64, a3 _ _ kk (Nat.le_refl _), ?_⟩
      show GrB m.length m3 x3 (key.take (i + 1))
      rw [take_gb2 hlt]; exact g3
    · obtain rfl : i = key.length := by omega
      rw [List.take_length] at g
      have d1 : decide ((key.length : Int) < (key.length : Int)) = false := dec_f (by omega)
      simp -implicitDefEqProofs (disch := (first | omega | (simp only [lenB, shaB_len, macB_len] <;> omega) | fail)) only [admQ, lenB, shaB_len, macB_len, aFill, AK.cls, implies_true, ↓reduceIte, reduceCtorEq, if_true, if_false, Nat.reduceAdd, Nat.reduceEqDiff, Nat.reduceMod, Nat.reduceLT, Nat.reduceLeDiff, Nat.reduceSub, Nat.reduceMul, Nat.reduceBEq, Int.reduceAdd, Int.reduceSub, Int.reduceMul, Int.reduceNeg, Int.reduceLT, Int.reduceLE, Int.reduceToNat, Int.reduceEq, Int.reduceBEq, d1, hB.len]
      exact exit v (fun h => absurd h h64) (fun _ => g)
theorem ans_rsmac {m : Mem} {x y : AV} {key B : List B8} (hK : rowOf m 1 = some (wds kT)) (hx : RdB m x key) (hB : RdB m y B) (hkl : key.length ≤ 900000000) (hlen : B.length ≤ 800000000) :
    Ans Tryd.prog 41 [x, y] m fun r m' => r = .agg (bys (macB key B)) ∧ Kept [] m m' := by
  refine ans_ret mixed ok41 ?_
  simp -implicitDefEqProofs (disch := (first | omega | (simp only [lenB, shaB_len, macB_len] <;> omega) | fail)) only [admQ, lenB, shaB_len, macB_len, aFill, AK.cls, implies_true, ↓reduceIte, reduceCtorEq, if_true, if_false, Nat.reduceAdd, Nat.reduceEqDiff, Nat.reduceMod, Nat.reduceLT, Nat.reduceLeDiff, Nat.reduceSub, Nat.reduceMul, Nat.reduceBEq, Int.reduceAdd, Int.reduceSub, Int.reduceMul, Int.reduceNeg, Int.reduceLT, Int.reduceLE, Int.reduceToNat, Int.reduceEq, Int.reduceBEq, c41, r41]
  have k0 := Kept.app [] m [Blk.row (bys (List.replicate 32 0#8)) false]
  have o0 : own (m ++ [Blk.row (bys (List.replicate 32 0#8)) false]) m.length = some (bys (List.replicate 32 0#8)) := by rw [own_app_at0]; rfl
  generalize m ++ [Blk.row (bys (List.replicate 32 0#8)) false] = A at k0 o0
  refine (ans_rsblk 54#8 (k0.row hK (by simp)) (hx.kept0 k0) hkl).mono ?_
  rintro z m1 ⟨k1, g1⟩
  have li := blkX_len key 54#8
  have lo := blkX_len key 92#8
  simp -implicitDefEqProofs (disch := (first | omega | (simp only [lenB, shaB_len, macB_len] <;> omega) | fail)) only [admQ, lenB, shaB_len, macB_len, aFill, AK.cls, implies_true, ↓reduceIte, reduceCtorEq, if_true, if_false, Nat.reduceAdd, Nat.reduceEqDiff, Nat.reduceMod, Nat.reduceLT, Nat.reduceLeDiff, Nat.reduceSub, Nat.reduceMul, Nat.reduceBEq, Int.reduceAdd, Int.reduceSub, Int.reduceMul, Int.reduceNeg, Int.reduceLT, Int.reduceLE, Int.reduceToNat, Int.reduceEq, Int.reduceBEq]
  have hl0 := k0.len
  refine LoopW.on (fun t : Nat × AV => [(0, x), (1, y), (4, .ptr m.length 0), (5, t.2), (6, .int .i64 t.1)]) (fun t => B.length - t.1) (fun t M => t.1 ≤ B.length ∧ Kept [] A M ∧ GrB A.length M t.2 (blkX key 54#8 ++ B.take t.1)) ?_ (0, z) _ _ rfl ⟨by simp, k1, by simpa using g1⟩
  rintro ⟨i, v⟩ M X ⟨hi, kk, g⟩ hX
  change GrB A.length M v (blkX key 54#8 ++ B.take i) at g
  simp only at hi
  by_cases hlt : i < B.length
  · have hl := hB.len
    obtain ⟨b, o, cap, s, c, rfl, hrow, hat, _⟩ := hB.cons hlt
    have hr := (k0.trans kk).row hrow (by simp)
    have e := hat i hlt
    simp -implicitDefEqProofs (disch := (first | omega | (simp only [lenB, shaB_len, macB_len] <;> omega) | fail)) only [admQ, lenB, shaB_len, macB_len, aFill, AK.cls, implies_true, ↓reduceIte, reduceCtorEq, if_true, if_false, Nat.reduceAdd, Nat.reduceEqDiff, Nat.reduceMod, Nat.reduceLT, Nat.reduceLeDiff, Nat.reduceSub, Nat.reduceMul, Nat.reduceBEq, Int.reduceAdd, Int.reduceSub, Int.reduceMul, Int.reduceNeg, Int.reduceLT, Int.reduceLE, Int.reduceToNat, Int.reduceEq, Int.reduceBEq, hl, hr, e]
    obtain ⟨x3, m3, e3, g3, k3, a3⟩ := g.push (gb B i) (by simp; omega) kk.len
    refine someW_eq e3 ?_
    simp -implicitDefEqProofs (disch := (first | omega | (simp only [lenB, shaB_len, macB_len] <;> omega) | fail)) only [admQ, lenB, shaB_len, macB_len, aFill, AK.cls, implies_true, ↓reduceIte, reduceCtorEq, if_true, if_false, Nat.reduceAdd, Nat.reduceEqDiff, Nat.reduceMod, Nat.reduceLT, Nat.reduceLeDiff, Nat.reduceSub, Nat.reduceMul, Nat.reduceBEq, Int.reduceAdd, Int.reduceSub, Int.reduceMul, Int.reduceNeg, Int.reduceLT, Int.reduceLE, Int.reduceToNat, Int.reduceEq, Int.reduceBEq]
    refine hX (i + 1, x3) _ _ rfl (by simp only; omega) ⟨by simp only; omega, a3 _ _ kk (Nat.le_refl _), ?_⟩
    show GrB A.length m3 x3 (blkX key 54#8 ++ B.take (i + 1))
    rw [take_gb2 hlt, ← List.append_assoc]; exact g3
  · obtain rfl : i = B.length := by omega
    rw [List.take_length] at g
    simp -implicitDefEqProofs (disch := (first | omega | (simp only [lenB, shaB_len, macB_len] <;> omega) | fail)) only [admQ, lenB, shaB_len, macB_len, aFill, AK.cls, implies_true, ↓reduceIte, reduceCtorEq, if_true, if_false, Nat.reduceAdd, Nat.reduceEqDiff, Nat.reduceMod, Nat.reduceLT, Nat.reduceLeDiff, Nat.reduceSub, Nat.reduceMul, Nat.reduceBEq, Int.reduceAdd, Int.reduceSub, Int.reduceMul, Int.reduceNeg, Int.reduceLT, Int.reduceLE, Int.reduceToNat, Int.reduceEq, Int.reduceBEq, hB.len]
    clear hX X hlt hi
    refine (ans_rsof ((k0.trans kk).row hK (by simp)) g.rd (by simp; omega)).mono ?_
    rintro _ m2 ⟨rfl, k2⟩
    generalize hS : shaB (blkX key 54#8 ++ B) = S
    have hSl : S.length = 32 := by rw [← hS]; exact shaB_len _
    simp -implicitDefEqProofs (disch := (first | omega | (simp only [lenB, shaB_len, macB_len] <;> omega) | fail)) only [admQ, lenB, shaB_len, macB_len, aFill, AK.cls, implies_true, ↓reduceIte, reduceCtorEq, if_true, if_false, Nat.reduceAdd, Nat.reduceEqDiff, Nat.reduceMod, Nat.reduceLT, Nat.reduceLeDiff, Nat.reduceSub, Nat.reduceMul, Nat.reduceBEq, Int.reduceAdd, Int.reduceSub, Int.reduceMul, Int.reduceNeg, Int.reduceLT, Int.reduceLE, Int.reduceToNat, Int.reduceEq, Int.reduceBEq]
    have K2 := (k0.trans (kk.trans k2)).more_app [Blk.row (bys S) false]
    have o2 := ((kk.trans k2).more_app [Blk.row (bys S) false]).own o0 (by simp)
    have oS : own (m2 ++ [Blk.row (bys S) false]) m2.length = some (bys S) := by rw [own_app_at0]; rfl
    clear k2 g kk k1 g1 k0 o0
    generalize m2 ++ [Blk.row (bys S) false] = C at K2 o2 oS
    refine (ans_rsblk 92#8 (K2.row hK (by simp)) (hx.kept0 K2) hkl).mono ?_
    rintro z m4 ⟨k4, g4⟩
    simp -implicitDefEqProofs (disch := (first | omega | (simp only [lenB, shaB_len, macB_len] <;> omega) | fail)) only [admQ, lenB, shaB_len, macB_len, aFill, AK.cls, implies_true, ↓reduceIte, reduceCtorEq, if_true, if_false, Nat.reduceAdd, Nat.reduceEqDiff, Nat.reduceMod, Nat.reduceLT, Nat.reduceLeDiff, Nat.reduceSub, Nat.reduceMul, Nat.reduceBEq, Int.reduceAdd, Int.reduceSub, Int.reduceMul, Int.reduceNeg, Int.reduceLT, Int.reduceLE, Int.reduceToNat, Int.reduceEq, Int.reduceBEq]
    refine LoopW.on (fun t : Nat × AV => [(4, .ptr m.length 0), (5, t.2), (7, .ptr m2.length 0), (8, .int .i64 t.1)]) (fun t => 32 - t.1) (fun t M => t.1 ≤ 32 ∧ Kept [] C M ∧ GrB C.length M t.2 (blkX key 92#8 ++ S.take t.1)) ?_ (0, z) _ _ rfl ⟨by simp, k4, by simpa using g4⟩
    rintro ⟨i, v⟩ M X ⟨hi, kk, g⟩ hX
    change GrB C.length M v (blkX key 92#8 ++ S.take i) at g
    simp only at hi
    have oM := kk.own oS (by simp)
    by_cases hlt : i < 32
    · have e : (bys S)[i]? = some (b8 (gb S i)) := bys_at (by omega)
      simp -implicitDefEqProofs (disch := (first | omega | (simp only [lenB, shaB_len, macB_len] <;> omega) | fail)) only [admQ, lenB, shaB_len, macB_len, aFill, AK.cls, implies_true, ↓reduceIte, reduceCtorEq, if_true, if_false, Nat.reduceAdd, Nat.reduceEqDiff, Nat.reduceMod, Nat.reduceLT, Nat.reduceLeDiff, Nat.reduceSub, Nat.reduceMul, Nat.reduceBEq, Int.reduceAdd, Int.reduceSub, Int.reduceMul, Int.reduceNeg, Int.reduceLT, Int.reduceLE, Int.reduceToNat, Int.reduceEq, Int.reduceBEq, rowOf_own oM, e]
      obtain ⟨x3, m3, e3, g3, k3, a3⟩ := g.push (gb S i) (by simp; omega) kk.len
      refine someW_eq e3 ?_
      simp -implicitDefEqProofs (disch := (first | omega | (simp only [lenB, shaB_len, macB_len] <;> omega) | fail)) only [admQ, lenB, shaB_len, macB_len, aFill, AK.cls, implies_true, ↓reduceIte, reduceCtorEq, if_true, if_false, Nat.reduceAdd, Nat.reduceEqDiff, Nat.reduceMod, Nat.reduceLT, Nat.reduceLeDiff, Nat.reduceSub, Nat.reduceMul, Nat.reduceBEq, Int.reduceAdd, Int.reduceSub, Int.reduceMul, Int.reduceNeg, Int.reduceLT, Int.reduceLE, Int.reduceToNat, Int.reduceEq, Int.reduceBEq]
      refine hX (i + 1, x3) _ _ rfl (by simp only; omega) ⟨by simp only; omega, a3 _ _ kk (Nat.le_refl _), ?_⟩
      show GrB C.length m3 x3 (blkX key 92#8 ++ S.take (i + 1))
      rw [take_gb2 (by omega), ← List.append_assoc]; exact g3
    · obtain rfl : i = 32 := by omega
      rw [List.take_of_length_le (by omega)] at g
      simp -implicitDefEqProofs (disch := (first | omega | (simp only [lenB, shaB_len, macB_len] <;> omega) | fail)) only [admQ, lenB, shaB_len, macB_len, aFill, AK.cls, implies_true, ↓reduceIte, reduceCtorEq, if_true, if_false, Nat.reduceAdd, Nat.reduceEqDiff, Nat.reduceMod, Nat.reduceLT, Nat.reduceLeDiff, Nat.reduceSub, Nat.reduceMul, Nat.reduceBEq, Int.reduceAdd, Int.reduceSub, Int.reduceMul, Int.reduceNeg, Int.reduceLT, Int.reduceLE, Int.reduceToNat, Int.reduceEq, Int.reduceBEq]
      refine (ans_rsof ((K2.trans kk).row hK (by simp)) g.rd (by simp; omega)).mono ?_
      rintro _ m5 ⟨rfl, k5⟩
      have oR := (kk.trans k5).own o2 (by simp)
      have hml := shaB_len (blkX key 92#8 ++ S)
      simp -implicitDefEqProofs (disch := (first | omega | (simp only [lenB, shaB_len, macB_len] <;> omega) | fail)) only [admQ, lenB, shaB_len, macB_len, aFill, AK.cls, implies_true, ↓reduceIte, reduceCtorEq, if_true, if_false, Nat.reduceAdd, Nat.reduceEqDiff, Nat.reduceMod, Nat.reduceLT, Nat.reduceLeDiff, Nat.reduceSub, Nat.reduceMul, Nat.reduceBEq, Int.reduceAdd, Int.reduceSub, Int.reduceMul, Int.reduceNeg, Int.reduceLT, Int.reduceLE, Int.reduceToNat, Int.reduceEq, Int.reduceBEq, oR, own_set (own_lt oR), rowOf_own (own_set (own_lt oR) _)]
      exact ⟨by rw [macB, hS], (K2.trans (kk.trans k5)).write (.inr (Nat.le_refl _)) _⟩
theorem ans_rsderive {m : Mem} {x : AV} {key : List B8} (s : ByteArray) (hK : rowOf m 1 = some (wds kT)) (hx : RdB m x key) (hkl : key.length ≤ 900000000) (hlen : s.size ≤ 1000) :
    Ans Tryd.prog 29 [x, .str s] m fun r m' => r = .agg (bys (macB key (strB s))) ∧ Kept [] m m' := by
  refine ans_ret mixed ok29 ?_
  simp -implicitDefEqProofs (disch := (first | omega | (simp only [lenB, shaB_len, macB_len] <;> omega) | fail)) only [admQ, lenB, shaB_len, macB_len, aFill, AK.cls, implies_true, ↓reduceIte, reduceCtorEq, if_true, if_false, Nat.reduceAdd, Nat.reduceEqDiff, Nat.reduceMod, Nat.reduceLT, Nat.reduceLeDiff, Nat.reduceSub, Nat.reduceMul, Nat.reduceBEq, Int.reduceAdd, Int.reduceSub, Int.reduceMul, Int.reduceNeg, Int.reduceLT, Int.reduceLE, Int.reduceToNat, Int.reduceEq, Int.reduceBEq, c29, r29, opW_s2b, opDW_s2b, mkS2b, strCells_bys]
  have k0 := Kept.app [] m [Blk.row (bys (List.replicate 32 0#8)) false, Blk.row (bys (strB s)) false]
  have o0 : own (m ++ [Blk.row (bys (List.replicate 32 0#8)) false, Blk.row (bys (strB s)) false]) m.length = some (bys (List.replicate 32 0#8)) := by rw [own_app_at0]; rfl
  have o1 : own (m ++ [Blk.row (bys (List.replicate 32 0#8)) false, Blk.row (bys (strB s)) false]) (m.length + 1) = some (bys (strB s)) := by rw [own_app_at]; rfl
  generalize m ++ [Blk.row (bys (List.replicate 32 0#8)) false, Blk.row (bys (strB s)) false] = A0 at k0 o0 o1
  have hr := RdB.row (l := strB s) s.size 1 (rowOf_own o1) (by rw [strB_len]; omega)
  rw [strB_len] at hr
  refine (ans_rsmac (k0.row hK (by simp)) (hx.kept0 k0) hr hkl (by rw [strB_len]; omega)).mono ?_
  rintro _ m1 ⟨rfl, k1⟩
  have o0' := k1.own o0 (by simp)
  have hml := macB_len key (strB s)
  simp -implicitDefEqProofs (disch := (first | omega | (simp only [lenB, shaB_len, macB_len] <;> omega) | fail)) only [admQ, lenB, shaB_len, macB_len, aFill, AK.cls, implies_true, ↓reduceIte, reduceCtorEq, if_true, if_false, Nat.reduceAdd, Nat.reduceEqDiff, Nat.reduceMod, Nat.reduceLT, Nat.reduceLeDiff, Nat.reduceSub, Nat.reduceMul, Nat.reduceBEq, Int.reduceAdd, Int.reduceSub, Int.reduceMul, Int.reduceNeg, Int.reduceLT, Int.reduceLE, Int.reduceToNat, Int.reduceEq, Int.reduceBEq, o0', own_set (own_lt o0'), rowOf_own (own_set (own_lt o0') _)]
  exact (k0.trans k1).write (.inr (Nat.le_refl _)) _
end Go.Proofs.YtdmdakaliilghaaDoor
end
section
/- Sealing: numbers as bytes, bytes joined, places. -/
namespace Go.Proofs.YtdmdakaliilghaaDoor
open Go Go.Adm
set_option linter.unusedSimpArgs false
set_option linter.unusedVariables false
set_option maxRecDepth 100000

theorem fdiv_pow (v k : Nat) : ((v : Nat) : Int).fdiv (2 ^ Nat.min k IntKind.i64.bits) = ((v >>> Nat.min k 64 : Nat) : Int) := by
  have e : (2 : Int) ^ Nat.min k IntKind.i64.bits = ((2 ^ Nat.min k 64 : Nat) : Int) := by simp [IntKind.bits]
  rw [e, Int.fdiv_eq_ediv_of_nonneg _ (Int.natCast_nonneg _), Nat.shiftRight_eq_div_pow, ← Int.natCast_ediv]
theorem ans_seeight (v : Nat) (hv : v < 4611686018427387904) (m : Mem) : Ans Tryd.prog 40 [.int .i64 v] m fun r m' => Kept [] m m' ∧ GrB m.length m' r (lowB v 8) := by
  refine ans_ret mixed ok40 ?_
  simp -implicitDefEqProofs (disch := (first | omega | (simp only [lenB, lowB_len] <;> omega) | fail)) only [admQ, lenB, lowB_len, aFill, AK.cls, implies_true, ↓reduceIte, reduceCtorEq, if_true, if_false, Nat.reduceAdd, Nat.reduceEqDiff, Nat.reduceMod, Nat.reduceLT, Nat.reduceLeDiff, Nat.reduceSub, Nat.reduceMul, Nat.reduceBEq, Int.reduceAdd, Int.reduceSub, Int.reduceMul, Int.reduceNeg, Int.reduceLT, Int.reduceLE, Int.reduceToNat, Int.reduceEq, Int.reduceBEq, c40, r40]
  refine LoopW.on (fun t : Nat × AV => [(0, .int .i64 v), (3, t.2), (4, .int .i64 (56 - 8 * (t.1 : Int)))]) (fun t => 8 - t.1)
    (fun t M => t.1 ≤ 8 ∧ Kept [] m M ∧ GrB m.length M t.2 (tab t.1 (fun i => byV v (7 - i)))) ?_ (0, .nils) _ _ rfl ⟨by simp, .refl _ _, .nils ..⟩
  rintro ⟨k, x⟩ M X ⟨hk, kk, g⟩ hX
  change GrB m.length M x (tab k (fun i => byV v (7 - i))) at g
  simp only at hk
  by_cases hlt : k < 8
  · rw [show (56 - 8 * (k : Int)) = ((8 * (7 - k) : Nat) : Int) by omega]
    have hw : IntKind.u8.wrap ((v >>> (8 * (7 - k)) : Nat) : Int) = ((byV v (7 - k)).toNat : Int) := wrap_u8 _
    have hmin : Nat.min (8 * (7 - k)) 64 = 8 * (7 - k) := Nat.min_eq_left (by omega)
    simp -implicitDefEqProofs (disch := (first | omega | (simp only [lenB, lowB_len] <;> omega) | fail)) only [admQ, lenB, lowB_len, aFill, AK.cls, implies_true, ↓reduceIte, reduceCtorEq, if_true, if_false, Nat.reduceAdd, Nat.reduceEqDiff, Nat.reduceMod, Nat.reduceLT, Nat.reduceLeDiff, Nat.reduceSub, Nat.reduceMul, Nat.reduceBEq, Int.reduceAdd, Int.reduceSub, Int.reduceMul, Int.reduceNeg, Int.reduceLT, Int.reduceLE, Int.reduceToNat, Int.reduceEq, Int.reduceBEq, fdiv_pow, hmin, hw]
    obtain ⟨x3, m3, e3, g3, k3, a3⟩ := g.push (byV v (7 - k)) (by simp [tab_len]; omega) kk.len
    refine someW_eq e3 ?_
    simp -implicitDefEqProofs (disch := (first | omega | (simp only [lenB, lowB_len] <;> omega) | fail)) only [admQ, lenB, lowB_len, aFill, AK.cls, implies_true, ↓reduceIte, reduceCtorEq, if_true, if_false, Nat.reduceAdd, Nat.reduceEqDiff, Nat.reduceMod, Nat.reduceLT, Nat.reduceLeDiff, Nat.reduceSub, Nat.reduceMul, Nat.reduceBEq, Int.reduceAdd, Int.reduceSub, Int.reduceMul, Int.reduceNeg, Int.reduceLT, Int.reduceLE, Int.reduceToNat, Int.reduceEq, Int.reduceBEq]
    rw [show ((8 * (7 - k) : Nat) : Int) - 8 = 56 - 8 * ((k + 1 : Nat) : Int) by omega]
    refine hX (k + 1, x3) _ _ rfl (by simp only; omega) ⟨by simp only; omega, a3 _ _ kk (Nat.le_refl _), ?_⟩
    show GrB m.length m3 x3 (tab (k + 1) _)
    rw [tab_succ]; exact g3
  · obtain rfl : k = 8 := by omega
    simp -implicitDefEqProofs (disch := (first | omega | (simp only [lenB, lowB_len] <;> omega) | fail)) only [admQ, lenB, lowB_len, aFill, AK.cls, implies_true, ↓reduceIte, reduceCtorEq, if_true, if_false, Nat.reduceAdd, Nat.reduceEqDiff, Nat.reduceMod, Nat.reduceLT, Nat.reduceLeDiff, Nat.reduceSub, Nat.reduceMul, Nat.reduceBEq, Int.reduceAdd, Int.reduceSub, Int.reduceMul, Int.reduceNeg, Int.reduceLT, Int.reduceLE, Int.reduceToNat, Int.reduceEq, Int.reduceBEq]
    exact ⟨kk, g⟩

/-- May an epoch and a number be? -/
def placedP (e n : Int) : Prop := (0 ≤ e ∧ e ≤ 1099511627776) ∧ 0 ≤ n ∧ n ≤ 1099511627776
instance (e n : Int) : Decidable (placedP e n) := by unfold placedP; infer_instance
theorem ans_seplaced {m : Mem} {p : Nat} {e n : Int} (hp : rowOf m p = some [.int .i64 e, .int .i64 n]) : Ans Tryd.prog 24 [.sl p 0 2 2 0] m fun r m' => r = .bool (decide (placedP e n)) ∧ m' = m := by
  refine ans_ret mixed ok24 ?_
  simp -implicitDefEqProofs (disch := (first | omega | (simp only [lenB, lowB_len] <;> omega) | fail)) only [admQ, lenB, lowB_len, aFill, AK.cls, implies_true, ↓reduceIte, reduceCtorEq, if_true, if_false, Nat.reduceAdd, Nat.reduceEqDiff, Nat.reduceMod, Nat.reduceLT, Nat.reduceLeDiff, Nat.reduceSub, Nat.reduceMul, Nat.reduceBEq, Int.reduceAdd, Int.reduceSub, Int.reduceMul, Int.reduceNeg, Int.reduceLT, Int.reduceLE, Int.reduceToNat, Int.reduceEq, Int.reduceBEq, c24, r24]
  refine LoopW.on (fun i : Nat => [(5, .sl p 0 2 2 0), (6, .int .i64 2), (7, .int .i64 i)]) (fun i => 2 - i) (fun i M => i ≤ 2 ∧ M = m ∧ (1 ≤ i → 0 ≤ e ∧ e ≤ 1099511627776) ∧ (2 ≤ i → 0 ≤ n ∧ n ≤ 1099511627776)) ?_ 0 _ _ rfl ⟨by omega, rfl, by omega, by omega⟩
  rintro i M X ⟨hi, rfl, h1, h2⟩ hX
  rcases (show i = 0 ∨ i = 1 ∨ i = 2 by omega) with rfl | rfl | rfl
  · by_cases ha : e < 0
    · have hno : ¬ placedP e n := by unfold placedP; omega
      simp -implicitDefEqProofs (disch := (first | omega | (simp only [lenB, lowB_len] <;> omega) | fail)) only [admQ, lenB, lowB_len, aFill, AK.cls, implies_true, ↓reduceIte, reduceCtorEq, if_true, if_false, Nat.reduceAdd, Nat.reduceEqDiff, Nat.reduceMod, Nat.reduceLT, Nat.reduceLeDiff, Nat.reduceSub, Nat.reduceMul, Nat.reduceBEq, Int.reduceAdd, Int.reduceSub, Int.reduceMul, Int.reduceNeg, Int.reduceLT, Int.reduceLE, Int.reduceToNat, Int.reduceEq, Int.reduceBEq, hp, decide_eq_false hno, dec_t ha]
    · by_cases hb : e > 1099511627776
      · have hno : ¬ placedP e n := by unfold placedP; omega
        simp -implicitDefEqProofs (disch := (first | omega | (simp only [lenB, lowB_len] <;> omega) | fail)) only [admQ, lenB, lowB_len, aFill, AK.cls, implies_true, ↓reduceIte, reduceCtorEq, if_true, if_false, Nat.reduceAdd, Nat.reduceEqDiff, Nat.reduceMod, Nat.reduceLT, Nat.reduceLeDiff, Nat.reduceSub, Nat.reduceMul, Nat.reduceBEq, Int.reduceAdd, Int.reduceSub, Int.reduceMul, Int.reduceNeg, Int.reduceLT, Int.reduceLE, Int.reduceToNat, Int.reduceEq, Int.reduceBEq, hp, decide_eq_false hno, dec_f ha, dec_t hb]
      · simp -implicitDefEqProofs (disch := (first | omega | (simp only [lenB, lowB_len] <;> omega) | fail)) only [admQ, lenB, lowB_len, aFill, AK.cls, implies_true, ↓reduceIte, reduceCtorEq, if_true, if_false, Nat.reduceAdd, Nat.reduceEqDiff, Nat.reduceMod, Nat.reduceLT, Nat.reduceLeDiff, Nat.reduceSub, Nat.reduceMul, Nat.reduceBEq, Int.reduceAdd, Int.reduceSub, Int.reduceMul, Int.reduceNeg, Int.reduceLT, Int.reduceLE, Int.reduceToNat, Int.reduceEq, Int.reduceBEq, hp, dec_f ha, dec_f hb]
        exact hX 1 _ _ rfl (by omega) ⟨by omega, rfl, by omega, by omega⟩
  · have he := h1 (by omega)
    by_cases ha : n < 0
    · have hno : ¬ placedP e n := by unfold placedP; omega
      simp -implicitDefEqProofs (disch := (first | omega | (simp only [lenB, lowB_len] <;> omega) | fail)) only [admQ, lenB, lowB_len, aFill, AK.cls, implies_true, ↓reduceIte, reduceCtorEq, if_true, if_false, Nat.reduceAdd, Nat.reduceEqDiff, Nat.reduceMod, Nat.reduceLT, Nat.reduceLeDiff, Nat.reduceSub, Nat.reduceMul, Nat.reduceBEq, Int.reduceAdd, Int.reduceSub, Int.reduceMul, Int.reduceNeg, Int.reduceLT, Int.reduceLE, Int.reduceToNat, Int.reduceEq, Int.reduceBEq, hp, decide_eq_false hno, dec_t ha]
    · by_cases hb : n > 1099511627776
      · have hno : ¬ placedP e n := by unfold placedP; omega
        simp -implicitDefEqProofs (disch := (first | omega | (simp only [lenB, lowB_len] <;> omega) | fail)) only [admQ, lenB, lowB_len, aFill, AK.cls, implies_true, ↓reduceIte, reduceCtorEq, if_true, if_false, Nat.reduceAdd, Nat.reduceEqDiff, Nat.reduceMod, Nat.reduceLT, Nat.reduceLeDiff, Nat.reduceSub, Nat.reduceMul, Nat.reduceBEq, Int.reduceAdd, Int.reduceSub, Int.reduceMul, Int.reduceNeg, Int.reduceLT, Int.reduceLE, Int.reduceToNat, Int.reduceEq, Int.reduceBEq, hp, decide_eq_false hno, dec_f ha, dec_t hb]
      · simp -implicitDefEqProofs (disch := (first | omega | (simp only [lenB, lowB_len] <;> omega) | fail)) only [admQ, lenB, lowB_len, aFill, AK.cls, implies_true, ↓reduceIte, reduceCtorEq, if_true, if_false, Nat.reduceAdd, Nat.reduceEqDiff, Nat.reduceMod, Nat.reduceLT, Nat.reduceLeDiff, Nat.reduceSub, Nat.reduceMul, Nat.reduceBEq, Int.reduceAdd, Int.reduceSub, Int.reduceMul, Int.reduceNeg, Int.reduceLT, Int.reduceLE, Int.reduceToNat, Int.reduceEq, Int.reduceBEq, hp, dec_f ha, dec_f hb]
        exact hX 2 _ _ rfl (by omega) ⟨by omega, rfl, by omega, by omega⟩
  · have he := h1 (by omega)
    have hn := h2 (by omega)
    have hyes : placedP e n := ⟨he, hn⟩
    simp -implicitDefEqProofs (disch := (first | omega | (simp only [lenB, lowB_len] <;> omega) | fail)) only [admQ, lenB, lowB_len, aFill, AK.cls, implies_true, ↓reduceIte, reduceCtorEq, if_true, if_false, Nat.reduceAdd, Nat.reduceEqDiff, Nat.reduceMod, Nat.reduceLT, Nat.reduceLeDiff, Nat.reduceSub, Nat.reduceMul, Nat.reduceBEq, Int.reduceAdd, Int.reduceSub, Int.reduceMul, Int.reduceNeg, Int.reduceLT, Int.reduceLE, Int.reduceToNat, Int.reduceEq, Int.reduceBEq, decide_eq_true hyes]

/-- Lists of bytes, one behind the other. -/
def RdL (m : Mem) (xs : List AV) (ls : List (List B8)) : Prop := xs.length = ls.length ∧ ∀ (i : Nat) (l : List B8), ls[i]? = some l → ∃ x, xs[i]? = some x ∧ RdB m x l
theorem RdL.nil (m : Mem) : RdL m [] [] := ⟨rfl, fun i l h => by simp at h⟩
theorem RdL.cons {m : Mem} {x : AV} {l : List B8} {xs : List AV} {ls : List (List B8)} (h : RdB m x l) (hs : RdL m xs ls) : RdL m (x :: xs) (l :: ls) := by
  refine ⟨by simp [hs.1], fun i l' hl => ?_⟩
  cases i with
  | zero => cases hl; exact ⟨x, rfl, h⟩
  | succ i => exact hs.2 i l' (by simpa using hl)
theorem RdL.kept0 {m m' : Mem} {xs : List AV} {ls : List (List B8)} (h : RdL m xs ls) (hk : Kept [] m m') : RdL m' xs ls :=
  ⟨h.1, fun i l hl => let ⟨x, a, b⟩ := h.2 i l hl; ⟨x, a, b.kept0 hk⟩⟩
theorem flat_take {ls : List (List B8)} {i : Nat} {l : List B8} (h : ls[i]? = some l) : (ls.take (i + 1)).flatten = (ls.take i).flatten ++ l := by
  rw [List.take_add_one, h]; simp
theorem flat_len {ls : List (List B8)} (i : Nat) : (ls.take i).flatten.length ≤ ls.flatten.length := by
  have : ls.flatten = (ls.take i).flatten ++ (ls.drop i).flatten := by rw [← List.flatten_append, List.take_append_drop]
  rw [this, List.length_append]; omega
theorem ans_sejoin {m : Mem} {p k : Nat} {xs : List AV} {ls : List (List B8)} (hp : rowOf m p = some xs) (hr : RdL m xs ls) (hk : ls.length = k) (hb : k ≤ 1000 ∧ ls.flatten.length ≤ 900000000) :
    Ans Tryd.prog 27 [.sl p 0 k k 0] m fun r m' => Kept [] m m' ∧ GrB m.length m' r ls.flatten := by
  refine ans_ret mixed ok27 ?_
  simp -implicitDefEqProofs (disch := (first | omega | (simp only [lenB, lowB_len] <;> omega) | fail)) only [admQ, lenB, lowB_len, aFill, AK.cls, implies_true, ↓reduceIte, reduceCtorEq, if_true, if_false, Nat.reduceAdd, Nat.reduceEqDiff, Nat.reduceMod, Nat.reduceLT, Nat.reduceLeDiff, Nat.reduceSub, Nat.reduceMul, Nat.reduceBEq, Int.reduceAdd, Int.reduceSub, Int.reduceMul, Int.reduceNeg, Int.reduceLT, Int.reduceLE, Int.reduceToNat, Int.reduceEq, Int.reduceBEq, c27, r27]
  refine LoopW.on (fun t : Nat × AV => [(3, t.2), (6, .sl p 0 k k 0), (7, .int .i64 k), (8, .int .i64 t.1)]) (fun t => k - t.1) (fun t M => t.1 ≤ k ∧ Kept [] m M ∧ GrB m.length M t.2 (ls.take t.1).flatten) ?_ (0, .nils) _ _ rfl ⟨by simp, .refl _ _, .nils ..⟩
  rintro ⟨i, x⟩ M X ⟨hi, kk, g⟩ hX
  change GrB m.length M x (ls.take i).flatten at g
  simp only at hi
  by_cases hlt : i < k
  · obtain ⟨l, hl⟩ : ∃ l, ls[i]? = some l := ⟨_, List.getElem?_eq_getElem (by omega)⟩
    obtain ⟨y, hy, hyr⟩ := hr.2 i l hl
    have hrow := kk.row hp (by simp)
    have hcat := flat_take hl
    have h1 := flat_len (ls := ls) (i + 1)
    rw [hcat, List.length_append] at h1
    simp -implicitDefEqProofs (disch := (first | omega | (simp only [lenB, lowB_len] <;> omega) | fail)) only [admQ, lenB, lowB_len, aFill, AK.cls, implies_true, ↓reduceIte, reduceCtorEq, if_true, if_false, Nat.reduceAdd, Nat.reduceEqDiff, Nat.reduceMod, Nat.reduceLT, Nat.reduceLeDiff, Nat.reduceSub, Nat.reduceMul, Nat.reduceBEq, Int.reduceAdd, Int.reduceSub, Int.reduceMul, Int.reduceNeg, Int.reduceLT, Int.reduceLE, Int.reduceToNat, Int.reduceEq, Int.reduceBEq, hrow, hy]
    obtain ⟨x3, m3, e3, g3, k3, a3⟩ := g.pushs (hyr.kept0 kk) (by omega) kk.len
    refine someW_eq e3 ?_
    simp -implicitDefEqProofs (disch := (first | omega | (simp only [lenB, lowB_len] <;> omega) | fail)) only [admQ, lenB, lowB_len, aFill, AK.cls, implies_true, ↓reduceIte, reduceCtorEq, if_true, if_false, Nat.reduceAdd, Nat.reduceEqDiff, Nat.reduceMod, Nat.reduceLT, Nat.reduceLeDiff, Nat.reduceSub, Nat.reduceMul, Nat.reduceBEq, Int.reduceAdd, Int.reduceSub, Int.reduceMul, Int.reduceNeg, Int.reduceLT, Int.reduceLE, Int.reduceToNat, Int.reduceEq, Int.reduceBEq]
    refine hX (i + 1, x3) _ _ rfl (by simp only; omega) ⟨by simp only; omega, a3 _ _ kk (Nat.le_refl _), ?_⟩
    show GrB m.length m3 x3 (ls.take (i + 1)).flatten
    rw [hcat]; exact g3
  · obtain rfl : i = k := by omega
    rw [List.take_of_length_le (by omega)] at g
    simp -implicitDefEqProofs (disch := (first | omega | (simp only [lenB, lowB_len] <;> omega) | fail)) only [admQ, lenB, lowB_len, aFill, AK.cls, implies_true, ↓reduceIte, reduceCtorEq, if_true, if_false, Nat.reduceAdd, Nat.reduceEqDiff, Nat.reduceMod, Nat.reduceLT, Nat.reduceLeDiff, Nat.reduceSub, Nat.reduceMul, Nat.reduceBEq, Int.reduceAdd, Int.reduceSub, Int.reduceMul, Int.reduceNeg, Int.reduceLT, Int.reduceLE, Int.reduceToNat, Int.reduceEq, Int.reduceBEq]
    exact ⟨kk, g⟩
end Go.Proofs.YtdmdakaliilghaaDoor
end
section
/- Sealing: the box. -/
namespace Go.Proofs.YtdmdakaliilghaaDoor
open Go Go.Adm
set_option linter.unusedSimpArgs false
set_option linter.unusedVariables false
set_option maxRecDepth 100000

def encS : ByteArray := ⟨#[101, 110, 99, 114, 121, 112, 116]⟩
def authS : ByteArray := ⟨#[97, 117, 116, 104, 101, 110, 116, 105, 99, 97, 116, 101]⟩
def encK (key : List B8) : List B8 := (macB key (strB encS)).take 16
def authK (key : List B8) : List B8 := macB key (strB authS)
theorem encK_len (key : List B8) : (encK key).length = 16 := by simp [encK, macB_len]
theorem authK_len (key : List B8) : (authK key).length = 32 := macB_len _ _
def tagB (key head : List B8) (e n : Int) (b : List B8) : List B8 := macB (authK key) [lowB head.length 8, head, lowB e.toNat 8, lowB n.toNat 8, b].flatten
theorem tagB_len (key head : List B8) (e n : Int) (b : List B8) : (tagB key head e n b).length = 32 := macB_len _ _
def turnB (key : List B8) (e n : Int) (b : List B8) : List B8 := xorB (expand (encK key)) 11 (e64 e) (e64 n) b
theorem turnB_len (key : List B8) (e n : Int) (b : List B8) : (turnB key e n b).length = b.length := xorB_len _ _ _ _ _
def sealB (key head : List B8) (e n : Int) (b : List B8) : List B8 := turnB key e n b ++ tagB key head e n (turnB key e n b)

theorem rd_one {m : Mem} {x : AV} {l : List B8} (h : RdB m x l) : cellsV x = [x] ∧ x.solid = true := by
  rcases h with ⟨rfl, _⟩ | ⟨b, o, cap, s, c, rfl, _⟩ <;> exact ⟨rfl, rfl⟩
/-- A box under a key. -/
structure SBox (m : Mem) (x c kb k : Nat) (key : List B8) : Prop where
  hd : rowOf m x = some [.ptr c 0, .sl k 0 32 32 0]
  au : rowOf m k = some (bys (authK key))
  ci : Ciph m c kb 11 (expand (encK key))
  kT : rowOf m 0 = some (wds kT)
theorem SBox.kept {X : List Nat} {m m' : Mem} {x c kb k : Nat} {key : List B8} (h : SBox m x c kb k key) (hk : Kept X m m') (hX : x ∉ X ∧ c ∉ X ∧ kb ∉ X ∧ k ∉ X ∧ 0 ∉ X) : SBox m' x c kb k key :=
  ⟨hk.row h.hd hX.1, hk.row h.au hX.2.2.2.1, h.ci.kept hk hX.2.1 hX.2.2.1, hk.row h.kT hX.2.2.2.2⟩
theorem SBox.kept0 {m m' : Mem} {x c kb k : Nat} {key : List B8} (h : SBox m x c kb k key) (hk : Kept [] m m') : SBox m' x c kb k key := h.kept hk (by simp)

theorem ans_senew {m : Mem} {y : AV} {key : List B8} (hK : rowOf m 0 = some (wds kT)) (hy : RdB m y key) (hkl : key.length ≤ 1000000000) :
    Ans Tryd.prog 9 [y] m fun r m' => ∃ x c kb k, r = .ptr x 0 ∧ Kept [] m m' ∧ (m.length ≤ x ∧ m.length ≤ c ∧ m.length ≤ kb ∧ m.length ≤ k) ∧ SBox m' x c kb k key := by
  refine ans_ret mixed ok9 ?_
  simp -implicitDefEqProofs (disch := (first | omega | (simp only [lenB, lowB_len, macB_len] <;> omega) | fail)) only [admQ, lenB, lowB_len, macB_len, aFill, AK.cls, implies_true, ↓reduceIte, reduceCtorEq, if_true, if_false, Nat.reduceAdd, Nat.reduceEqDiff, Nat.reduceMod, Nat.reduceLT, Nat.reduceLeDiff, Nat.reduceSub, Nat.reduceMul, Nat.reduceBEq, Int.reduceAdd, Int.reduceSub, Int.reduceMul, Int.reduceNeg, Int.reduceLT, Int.reduceLE, Int.reduceToNat, Int.reduceEq, Int.reduceBEq, c9, r9]
  refine (ans_macderive encS hK hy hkl (by decide)).mono ?_
  rintro _ m1 ⟨rfl, k1⟩
  simp -implicitDefEqProofs (disch := (first | omega | (simp only [lenB, lowB_len, macB_len] <;> omega) | fail)) only [admQ, lenB, lowB_len, macB_len, aFill, AK.cls, implies_true, ↓reduceIte, reduceCtorEq, if_true, if_false, Nat.reduceAdd, Nat.reduceEqDiff, Nat.reduceMod, Nat.reduceLT, Nat.reduceLeDiff, Nat.reduceSub, Nat.reduceMul, Nat.reduceBEq, Int.reduceAdd, Int.reduceSub, Int.reduceMul, Int.reduceNeg, Int.reduceLT, Int.reduceLE, Int.reduceToNat, Int.reduceEq, Int.reduceBEq]
  refine (ans_macderive authS (k1.row hK (by simp)) (hy.kept0 k1) hkl (by decide)).mono ?_
  rintro _ m2 ⟨rfl, k2⟩
  have h1 := macB_len key (strB encS)
  have h2 := macB_len key (strB authS)
  simp -implicitDefEqProofs (disch := (first | omega | (simp only [lenB, lowB_len, macB_len] <;> omega) | fail)) only [admQ, lenB, lowB_len, macB_len, aFill, AK.cls, implies_true, ↓reduceIte, reduceCtorEq, if_true, if_false, Nat.reduceAdd, Nat.reduceEqDiff, Nat.reduceMod, Nat.reduceLT, Nat.reduceLeDiff, Nat.reduceSub, Nat.reduceMul, Nat.reduceBEq, Int.reduceAdd, Int.reduceSub, Int.reduceMul, Int.reduceNeg, Int.reduceLT, Int.reduceLE, Int.reduceToNat, Int.reduceEq, Int.reduceBEq]
  have kA := (k1.trans k2).more_app [Blk.row (bys (macB key (strB encS))) false, Blk.row (bys (macB key (strB authS))) false]
  have rE : RdB (m2 ++ [Blk.row (bys (macB key (strB encS))) false, Blk.row (bys (macB key (strB authS))) false]) (.sl m2.length 0 16 32 0) (encK key) := by
    have := RdB.row (m := m2 ++ [Blk.row (bys (macB key (strB encS))) false, Blk.row (bys (macB key (strB authS))) false]) (b := m2.length) (l := macB key (strB encS)) 32 0 (by rw [rowOf_app_at0]; rfl) (by omega)
    rw [h1] at this
    exact this.take (k := 16) (by omega)
  have rA : rowOf (m2 ++ [Blk.row (bys (macB key (strB encS))) false, Blk.row (bys (macB key (strB authS))) false]) (m2.length + 1) = some (bys (authK key)) := by rw [rowOf_app_at]; rfl
  have hAl : (m2 ++ [Blk.row (bys (macB key (strB encS))) false, Blk.row (bys (macB key (strB authS))) false]).length = m2.length + 2 := by simp
  generalize m2 ++ [Blk.row (bys (macB key (strB encS))) false, Blk.row (bys (macB key (strB authS))) false] = A at kA rE rA hAl
  have hel := encK_len key
  refine (ans_new rE (.inl hel)).mono ?_
  rintro _ m3 ⟨c, kb, rfl, k3, hc, hkb, ci⟩
  rw [hel] at ci
  simp -implicitDefEqProofs (disch := (first | omega | (simp only [lenB, lowB_len, macB_len] <;> omega) | fail)) only [admQ, lenB, lowB_len, macB_len, aFill, AK.cls, implies_true, ↓reduceIte, reduceCtorEq, if_true, if_false, Nat.reduceAdd, Nat.reduceEqDiff, Nat.reduceMod, Nat.reduceLT, Nat.reduceLeDiff, Nat.reduceSub, Nat.reduceMul, Nat.reduceBEq, Int.reduceAdd, Int.reduceSub, Int.reduceMul, Int.reduceNeg, Int.reduceLT, Int.reduceLE, Int.reduceToNat, Int.reduceEq, Int.reduceBEq]
  have hlA := kA.len
  have hl1 := (k1.trans k2).len
  have hl3 := k3.len
  refine ⟨_, c, kb, m2.length + 1, rfl, (kA.trans k3).more_app _, ⟨by omega, by omega, by omega, by omega⟩, ⟨by rw [rowOf_app_at0]; rfl, (k3.more_app _).row rA (by simp), ci.app _, ((kA.trans k3).more_app _).row hK (by simp)⟩⟩
theorem ans_sesum {m : Mem} {x : AV} {y : AV} {B : List B8} (hK : rowOf m 0 = some (wds kT)) (hB : RdB m y B) (hlen : B.length ≤ 1000000000) :
    Ans Tryd.prog 19 [x, y] m fun r m' => r = .agg (bys (shaB B)) ∧ Kept [] m m' := by
  refine ans_ret mixed ok19 ?_
  have h0 := rowOf_lt hK
  simp -implicitDefEqProofs (disch := (first | omega | (simp only [lenB, lowB_len, macB_len] <;> omega) | fail)) only [admQ, lenB, lowB_len, macB_len, aFill, AK.cls, implies_true, ↓reduceIte, reduceCtorEq, if_true, if_false, Nat.reduceAdd, Nat.reduceEqDiff, Nat.reduceMod, Nat.reduceLT, Nat.reduceLeDiff, Nat.reduceSub, Nat.reduceMul, Nat.reduceBEq, Int.reduceAdd, Int.reduceSub, Int.reduceMul, Int.reduceNeg, Int.reduceLT, Int.reduceLE, Int.reduceToNat, Int.reduceEq, Int.reduceBEq, c19, r19]
  have k0 := Kept.app [] m [Blk.row (bys (List.replicate 32 0#8)) false]
  have o0 : own (m ++ [Blk.row (bys (List.replicate 32 0#8)) false]) m.length = some (bys (List.replicate 32 0#8)) := by rw [own_app_at0]; rfl
  generalize m ++ [Blk.row (bys (List.replicate 32 0#8)) false] = A0 at k0 o0
  refine (ans_shaof (k0.row hK (by simp)) (hB.kept0 k0) hlen).mono ?_
  rintro _ m1 ⟨rfl, k1⟩
  have o1 := k1.own o0 (by simp)
  have hs := shaB_len B
  simp -implicitDefEqProofs (disch := (first | omega | (simp only [lenB, lowB_len, macB_len] <;> omega) | fail)) only [admQ, lenB, lowB_len, macB_len, aFill, AK.cls, implies_true, ↓reduceIte, reduceCtorEq, if_true, if_false, Nat.reduceAdd, Nat.reduceEqDiff, Nat.reduceMod, Nat.reduceLT, Nat.reduceLeDiff, Nat.reduceSub, Nat.reduceMul, Nat.reduceBEq, Int.reduceAdd, Int.reduceSub, Int.reduceMul, Int.reduceNeg, Int.reduceLT, Int.reduceLE, Int.reduceToNat, Int.reduceEq, Int.reduceBEq, o1, own_set (own_lt o1), rowOf_own (own_set (own_lt o1) _)]
  exact (k0.trans k1).write (.inr (Nat.le_refl _)) _
theorem ans_setag {m : Mem} {x c kb k : Nat} {key head b : List B8} {hx bx : AV} {e n : Int} (hs : SBox m x c kb k key) (hh : RdB m hx head) (hb : RdB m bx b) (he : placedP e n) (hl : head.length ≤ 100000000 ∧ b.length ≤ 100000000) :
    Ans Tryd.prog 26 [.ptr x 0, .int .i64 e, .int .i64 n, hx, bx] m fun r m' => r = .agg (bys (tagB key head e n b)) ∧ Kept [] m m' := by
  refine ans_ret mixed ok26 ?_
  obtain ⟨⟨e0, e1⟩, n0, n1⟩ := he
  obtain ⟨e, rfl⟩ := Int.eq_ofNat_of_zero_le e0
  obtain ⟨n, rfl⟩ := Int.eq_ofNat_of_zero_le n0
  have hd := fun e => (Kept.app [] m e).row hs.hd (by simp)
  simp -implicitDefEqProofs (disch := (first | omega | (simp only [lenB, lowB_len, macB_len] <;> omega) | fail)) only [admQ, lenB, lowB_len, macB_len, aFill, AK.cls, implies_true, ↓reduceIte, reduceCtorEq, if_true, if_false, Nat.reduceAdd, Nat.reduceEqDiff, Nat.reduceMod, Nat.reduceLT, Nat.reduceLeDiff, Nat.reduceSub, Nat.reduceMul, Nat.reduceBEq, Int.reduceAdd, Int.reduceSub, Int.reduceMul, Int.reduceNeg, Int.reduceLT, Int.reduceLE, Int.reduceToNat, Int.reduceEq, Int.reduceBEq, c26, r26, hd, hh.len]
  have k0 := Kept.app [] m [Blk.row (bys (List.replicate 32 0#8)) false]
  have o0 : own (m ++ [Blk.row (bys (List.replicate 32 0#8)) false]) m.length = some (bys (List.replicate 32 0#8)) := by rw [own_app_at0]; rfl
  have hA0 : (m ++ [Blk.row (bys (List.replicate 32 0#8)) false]).length = m.length + 1 := by simp
  generalize m ++ [Blk.row (bys (List.replicate 32 0#8)) false] = A at k0 o0 hA0
  refine (ans_seeight head.length (by omega) _).mono ?_
  rintro r1 m1 ⟨k1, g1⟩
  simp -implicitDefEqProofs (disch := (first | omega | (simp only [lenB, lowB_len, macB_len] <;> omega) | fail)) only [admQ, lenB, lowB_len, macB_len, aFill, AK.cls, implies_true, ↓reduceIte, reduceCtorEq, if_true, if_false, Nat.reduceAdd, Nat.reduceEqDiff, Nat.reduceMod, Nat.reduceLT, Nat.reduceLeDiff, Nat.reduceSub, Nat.reduceMul, Nat.reduceBEq, Int.reduceAdd, Int.reduceSub, Int.reduceMul, Int.reduceNeg, Int.reduceLT, Int.reduceLE, Int.reduceToNat, Int.reduceEq, Int.reduceBEq, (k0.trans k1).row hs.hd (by simp)]
  refine (ans_seeight e (by omega) _).mono ?_
  rintro r2 m2 ⟨k12, g2⟩
  have k2 := k1.trans k12
  simp -implicitDefEqProofs (disch := (first | omega | (simp only [lenB, lowB_len, macB_len] <;> omega) | fail)) only [admQ, lenB, lowB_len, macB_len, aFill, AK.cls, implies_true, ↓reduceIte, reduceCtorEq, if_true, if_false, Nat.reduceAdd, Nat.reduceEqDiff, Nat.reduceMod, Nat.reduceLT, Nat.reduceLeDiff, Nat.reduceSub, Nat.reduceMul, Nat.reduceBEq, Int.reduceAdd, Int.reduceSub, Int.reduceMul, Int.reduceNeg, Int.reduceLT, Int.reduceLE, Int.reduceToNat, Int.reduceEq, Int.reduceBEq, (k0.trans k2).row hs.hd (by simp)]
  refine (ans_seeight n (by omega) _).mono ?_
  rintro r3 m3 ⟨k23, g3⟩
  have k3 := k2.trans k23
  simp -implicitDefEqProofs (disch := (first | omega | (simp only [lenB, lowB_len, macB_len] <;> omega) | fail)) only [admQ, lenB, lowB_len, macB_len, aFill, AK.cls, implies_true, ↓reduceIte, reduceCtorEq, if_true, if_false, Nat.reduceAdd, Nat.reduceEqDiff, Nat.reduceMod, Nat.reduceLT, Nat.reduceLeDiff, Nat.reduceSub, Nat.reduceMul, Nat.reduceBEq, Int.reduceAdd, Int.reduceSub, Int.reduceMul, Int.reduceNeg, Int.reduceLT, Int.reduceLE, Int.reduceToNat, Int.reduceEq, Int.reduceBEq, (k0.trans k3).row hs.hd (by simp), (gr_one g1).1, (gr_one g1).2, (gr_one g2).1, (gr_one g2).2, (gr_one g3).1, (gr_one g3).2, (rd_one hh).1, (rd_one hh).2, (rd_one hb).1, (rd_one hb).2]
  have kB := k3.more_app [Blk.row [r1, hx, r2, r3, bx] false]
  have rB : rowOf (m3 ++ [Blk.row [r1, hx, r2, r3, bx] false]) m3.length = some [r1, hx, r2, r3, bx] := by rw [rowOf_app_at0]; rfl
  have rl : RdL (m3 ++ [Blk.row [r1, hx, r2, r3, bx] false]) [r1, hx, r2, r3, bx] [lowB head.length 8, head, lowB e 8, lowB n 8, b] := by
    exact .cons ((g1.rd.kept0 (k12.trans k23)).app _) (.cons ((hh.kept0 (k0.trans k3)).app _) (.cons ((g2.rd.kept0 k23).app _) (.cons (g3.rd.app _) (.cons ((hb.kept0 (k0.trans k3)).app _) (.nil _)))))
  generalize m3 ++ [Blk.row [r1, hx, r2, r3, bx] false] = C at kB rB rl
  refine (ans_sejoin (k := 5) rB rl rfl ⟨by omega, by simp [lowB_len]; omega⟩).mono ?_
  rintro r m4 ⟨k4, g4⟩
  replace k4 := kB.trans k4
  have hs4 := hs.kept0 (k0.trans k4)
  simp -implicitDefEqProofs (disch := (first | omega | (simp only [lenB, lowB_len, macB_len] <;> omega) | fail)) only [admQ, lenB, lowB_len, macB_len, aFill, AK.cls, implies_true, ↓reduceIte, reduceCtorEq, if_true, if_false, Nat.reduceAdd, Nat.reduceEqDiff, Nat.reduceMod, Nat.reduceLT, Nat.reduceLeDiff, Nat.reduceSub, Nat.reduceMul, Nat.reduceBEq, Int.reduceAdd, Int.reduceSub, Int.reduceMul, Int.reduceNeg, Int.reduceLT, Int.reduceLE, Int.reduceToNat, Int.reduceEq, Int.reduceBEq, hs4.hd]
  have hak := authK_len key
  have rk := RdB.row (m := m4) (l := authK key) 32 0 hs4.au (by omega)
  rw [hak] at rk
  refine (ans_macof hs4.kT rk g4.rd (by omega) (by simp [lowB_len]; omega)).mono ?_
  rintro _ m5 ⟨rfl, k5⟩
  have o5 := (k4.trans k5).own o0 (by simp)
  have hml := macB_len (authK key) [lowB head.length 8, head, lowB e 8, lowB n 8, b].flatten
  simp -implicitDefEqProofs (disch := (first | omega | (simp only [lenB, lowB_len, macB_len] <;> omega) | fail)) only [admQ, lenB, lowB_len, macB_len, aFill, AK.cls, implies_true, ↓reduceIte, reduceCtorEq, if_true, if_false, Nat.reduceAdd, Nat.reduceEqDiff, Nat.reduceMod, Nat.reduceLT, Nat.reduceLeDiff, Nat.reduceSub, Nat.reduceMul, Nat.reduceBEq, Int.reduceAdd, Int.reduceSub, Int.reduceMul, Int.reduceNeg, Int.reduceLT, Int.reduceLE, Int.reduceToNat, Int.reduceEq, Int.reduceBEq, o5, own_set (own_lt o5), rowOf_own (own_set (own_lt o5) _), (hs4.kept0 k5).hd]
  exact ⟨rfl, (k0.trans (k4.trans k5)).write (.inr (Nat.le_refl _)) _⟩
end Go.Proofs.YtdmdakaliilghaaDoor
end
section
/- Sealing: sealed, and opened. -/
namespace Go.Proofs.YtdmdakaliilghaaDoor
open Go Go.Adm
set_option linter.unusedSimpArgs false
set_option linter.unusedVariables false
set_option maxRecDepth 100000

theorem ans_seseal {m : Mem} {x c kb k : Nat} {key head b : List B8} {hx bx : AV} {e n : Int} (hs : SBox m x c kb k key) (hh : RdB m hx head) (hb : RdB m bx b) (hl : head.length ≤ 100000 ∧ b.length ≤ 100000) :
    Ans Tryd.prog 10 [.ptr x 0, .int .i64 e, .int .i64 n, hx, bx] m fun r m' => Kept [] m m' ∧ (placedP e n → GrB m.length m' r (sealB key head e n b)) ∧ (¬ placedP e n → r = .nils) := by
  refine ans_ret mixed ok10 ?_
  have hd := fun e => (Kept.app [] m e).row hs.hd (by simp)
  simp -implicitDefEqProofs (disch := (first | omega | (simp only [lenB, lowB_len, macB_len, tagB_len, turnB_len] <;> omega) | fail)) only [admQ, lenB, lowB_len, macB_len, tagB_len, turnB_len, aFill, AK.cls, implies_true, ↓reduceIte, reduceCtorEq, if_true, if_false, Nat.reduceAdd, Nat.reduceEqDiff, Nat.reduceMod, Nat.reduceLT, Nat.reduceLeDiff, Nat.reduceSub, Nat.reduceMul, Nat.reduceBEq, Int.reduceAdd, Int.reduceSub, Int.reduceMul, Int.reduceNeg, Int.reduceLT, Int.reduceLE, Int.reduceToNat, Int.reduceEq, Int.reduceBEq, c10, r10, hd]
  refine (ans_seplaced (by rw [rowOf_app_at0]; rfl)).mono ?_
  rintro _ _ ⟨rfl, rfl⟩
  by_cases hp : placedP e n
  · simp -implicitDefEqProofs (disch := (first | omega | (simp only [lenB, lowB_len, macB_len, tagB_len, turnB_len] <;> omega) | fail)) only [admQ, lenB, lowB_len, macB_len, tagB_len, turnB_len, aFill, AK.cls, implies_true, ↓reduceIte, reduceCtorEq, if_true, if_false, Nat.reduceAdd, Nat.reduceEqDiff, Nat.reduceMod, Nat.reduceLT, Nat.reduceLeDiff, Nat.reduceSub, Nat.reduceMul, Nat.reduceBEq, Int.reduceAdd, Int.reduceSub, Int.reduceMul, Int.reduceNeg, Int.reduceLT, Int.reduceLE, Int.reduceToNat, Int.reduceEq, Int.reduceBEq, decide_eq_true hp, hd, Bool.not_true]
    have k0 := Kept.app [] m [Blk.row [.int .i64 e, .int .i64 n] false]
    generalize m ++ [Blk.row [.int .i64 e, .int .i64 n] false] = A at k0
    refine (ans_ctrxor (hs.kept0 k0).ci e n (hb.kept0 k0) hl.2).mono ?_
    rintro _ m1 ⟨p, rfl, k1, hp1, o1⟩
    have hk1 := k0.trans k1
    change own m1 p = some (bys (turnB key e n b)) at o1
    have htl := turnB_len key e n b
    have rt := RdB.row (m := m1) (b := p) (l := turnB key e n b) b.length 0 (rowOf_own o1) (by omega)
    rw [htl] at rt
    simp -implicitDefEqProofs (disch := (first | omega | (simp only [lenB, lowB_len, macB_len, tagB_len, turnB_len] <;> omega) | fail)) only [admQ, lenB, lowB_len, macB_len, tagB_len, turnB_len, aFill, AK.cls, implies_true, ↓reduceIte, reduceCtorEq, if_true, if_false, Nat.reduceAdd, Nat.reduceEqDiff, Nat.reduceMod, Nat.reduceLT, Nat.reduceLeDiff, Nat.reduceSub, Nat.reduceMul, Nat.reduceBEq, Int.reduceAdd, Int.reduceSub, Int.reduceMul, Int.reduceNeg, Int.reduceLT, Int.reduceLE, Int.reduceToNat, Int.reduceEq, Int.reduceBEq]
    refine (ans_setag (hs.kept0 hk1) (hh.kept0 hk1) rt hp ⟨by omega, by omega⟩).mono ?_
    rintro _ m2 ⟨rfl, k2⟩
    have hgl := tagB_len key head e n (turnB key e n b)
    simp -implicitDefEqProofs (disch := (first | omega | (simp only [lenB, lowB_len, macB_len, tagB_len, turnB_len] <;> omega) | fail)) only [admQ, lenB, lowB_len, macB_len, tagB_len, turnB_len, aFill, AK.cls, implies_true, ↓reduceIte, reduceCtorEq, if_true, if_false, Nat.reduceAdd, Nat.reduceEqDiff, Nat.reduceMod, Nat.reduceLT, Nat.reduceLeDiff, Nat.reduceSub, Nat.reduceMul, Nat.reduceBEq, Int.reduceAdd, Int.reduceSub, Int.reduceMul, Int.reduceNeg, Int.reduceLT, Int.reduceLE, Int.reduceToNat, Int.reduceEq, Int.reduceBEq]
    have k2' := hk1.trans k2
    have kC := k2'.more_app [Blk.row (bys (tagB key head e n (turnB key e n b))) false, Blk.row [.sl p 0 b.length b.length 0, .sl m2.length 0 32 32 0] false]
    have rT : RdB (m2 ++ [Blk.row (bys (tagB key head e n (turnB key e n b))) false, Blk.row [.sl p 0 b.length b.length 0, .sl m2.length 0 32 32 0] false]) (.sl m2.length 0 32 32 0) (tagB key head e n (turnB key e n b)) := by
      have := RdB.row (m := m2 ++ [Blk.row (bys (tagB key head e n (turnB key e n b))) false, Blk.row [.sl p 0 b.length b.length 0, .sl m2.length 0 32 32 0] false]) (b := m2.length) (l := tagB key head e n (turnB key e n b)) 32 0 (by rw [rowOf_app_at0]; rfl) (by omega)
      rwa [hgl] at this
    refine (ans_sejoin (k := 2) (ls := [turnB key e n b, tagB key head e n (turnB key e n b)]) (by rw [rowOf_app_at]; rfl) (.cons ((rt.kept0 k2).app _) (.cons rT (.nil _))) rfl ⟨by omega, by simp [htl, hgl]; omega⟩).mono ?_
    rintro r m3 ⟨k3, g3⟩
    simp -implicitDefEqProofs (disch := (first | omega | (simp only [lenB, lowB_len, macB_len, tagB_len, turnB_len] <;> omega) | fail)) only [admQ, lenB, lowB_len, macB_len, tagB_len, turnB_len, aFill, AK.cls, implies_true, ↓reduceIte, reduceCtorEq, if_true, if_false, Nat.reduceAdd, Nat.reduceEqDiff, Nat.reduceMod, Nat.reduceLT, Nat.reduceLeDiff, Nat.reduceSub, Nat.reduceMul, Nat.reduceBEq, Int.reduceAdd, Int.reduceSub, Int.reduceMul, Int.reduceNeg, Int.reduceLT, Int.reduceLE, Int.reduceToNat, Int.reduceEq, Int.reduceBEq]
    have hlC := kC.len
    refine ⟨kC.trans k3, fun _ => ?_, fun h => absurd hp h⟩
    have e1 : [turnB key e n b, tagB key head e n (turnB key e n b)].flatten = sealB key head e n b := by simp [sealB]
    rw [e1] at g3
    exact g3.low hlC
  · simp -implicitDefEqProofs (disch := (first | omega | (simp only [lenB, lowB_len, macB_len, tagB_len, turnB_len] <;> omega) | fail)) only [admQ, lenB, lowB_len, macB_len, tagB_len, turnB_len, aFill, AK.cls, implies_true, ↓reduceIte, reduceCtorEq, if_true, if_false, Nat.reduceAdd, Nat.reduceEqDiff, Nat.reduceMod, Nat.reduceLT, Nat.reduceLeDiff, Nat.reduceSub, Nat.reduceMul, Nat.reduceBEq, Int.reduceAdd, Int.reduceSub, Int.reduceMul, Int.reduceNeg, Int.reduceLT, Int.reduceLE, Int.reduceToNat, Int.reduceEq, Int.reduceBEq, decide_eq_false hp, Bool.not_false]
    exact ⟨.app _ _ _, fun h => absurd h hp⟩

/-- Was it sealed so? -/
def openP (key head : List B8) (e n : Int) (s : List B8) : Prop := placedP e n ∧ 32 ≤ s.length ∧ tagB key head e n (s.take (s.length - 32)) = s.drop (s.length - 32)
theorem ans_seopen {m : Mem} {x c kb k : Nat} {key head b : List B8} {hx bx : AV} {e n : Int} (hs : SBox m x c kb k key) (hh : RdB m hx head) (hb : RdB m bx b) (hl : head.length ≤ 100000 ∧ b.length ≤ 100000) :
    Ans Tryd.prog 11 [.ptr x 0, .int .i64 e, .int .i64 n, hx, bx] m fun r m' => Kept [] m m' ∧ (openP key head e n b → ∃ p, m.length ≤ p ∧ r = .tup [.sl p 0 (b.length - 32) (b.length - 32) 0, .bool true] ∧ own m' p = some (bys (turnB key e n (b.take (b.length - 32))))) ∧ (¬ openP key head e n b → r = .tup [.nils, .bool false]) := by
  refine ans_ret mixed ok11 ?_
  have hd := fun e => (Kept.app [] m e).row hs.hd (by simp)
  simp -implicitDefEqProofs (disch := (first | omega | (simp only [lenB, lowB_len, macB_len, tagB_len, turnB_len] <;> omega) | fail)) only [admQ, lenB, lowB_len, macB_len, tagB_len, turnB_len, aFill, AK.cls, implies_true, ↓reduceIte, reduceCtorEq, if_true, if_false, Nat.reduceAdd, Nat.reduceEqDiff, Nat.reduceMod, Nat.reduceLT, Nat.reduceLeDiff, Nat.reduceSub, Nat.reduceMul, Nat.reduceBEq, Int.reduceAdd, Int.reduceSub, Int.reduceMul, Int.reduceNeg, Int.reduceLT, Int.reduceLE, Int.reduceToNat, Int.reduceEq, Int.reduceBEq, c11, r11, hd, hb.len]
  refine (ans_seplaced (by rw [rowOf_app_at0]; rfl)).mono ?_
  rintro _ _ ⟨rfl, rfl⟩
  by_cases hp : placedP e n
  · simp -implicitDefEqProofs (disch := (first | omega | (simp only [lenB, lowB_len, macB_len, tagB_len, turnB_len] <;> omega) | fail)) only [admQ, lenB, lowB_len, macB_len, tagB_len, turnB_len, aFill, AK.cls, implies_true, ↓reduceIte, reduceCtorEq, if_true, if_false, Nat.reduceAdd, Nat.reduceEqDiff, Nat.reduceMod, Nat.reduceLT, Nat.reduceLeDiff, Nat.reduceSub, Nat.reduceMul, Nat.reduceBEq, Int.reduceAdd, Int.reduceSub, Int.reduceMul, Int.reduceNeg, Int.reduceLT, Int.reduceLE, Int.reduceToNat, Int.reduceEq, Int.reduceBEq, decide_eq_true hp, hd, Bool.not_true]
    have k0 := Kept.app [] m [Blk.row [.int .i64 e, .int .i64 n] false]
    generalize m ++ [Blk.row [.int .i64 e, .int .i64 n] false] = A at k0
    by_cases h32 : b.length < 32
    · have hno : ¬ openP key head e n b := fun h => by have := h.2.1; omega
      simp -implicitDefEqProofs (disch := (first | omega | (simp only [lenB, lowB_len, macB_len, tagB_len, turnB_len] <;> omega) | fail)) only [admQ, lenB, lowB_len, macB_len, tagB_len, turnB_len, aFill, AK.cls, implies_true, ↓reduceIte, reduceCtorEq, if_true, if_false, Nat.reduceAdd, Nat.reduceEqDiff, Nat.reduceMod, Nat.reduceLT, Nat.reduceLeDiff, Nat.reduceSub, Nat.reduceMul, Nat.reduceBEq, Int.reduceAdd, Int.reduceSub, Int.reduceMul, Int.reduceNeg, Int.reduceLT, Int.reduceLE, Int.reduceToNat, Int.reduceEq, Int.reduceBEq]
      exact ⟨k0, fun h => absurd h hno⟩
    · rw [show (b.length : Int) - 32 = ((b.length - 32 : Nat) : Int) by omega]
      obtain ⟨q, o, cap, sl, cc, rfl, hrow, hat, hlen, hcap, hsl, htk⟩ := hb.cons (i := 0) (by omega)
      have hbA := hb.kept0 k0
      have hrA := k0.row hrow (by simp)
      simp -implicitDefEqProofs (disch := (first | omega | (simp only [lenB, lowB_len, macB_len, tagB_len, turnB_len] <;> omega) | fail)) only [admQ, lenB, lowB_len, macB_len, tagB_len, turnB_len, aFill, AK.cls, implies_true, ↓reduceIte, reduceCtorEq, if_true, if_false, Nat.reduceAdd, Nat.reduceEqDiff, Nat.reduceMod, Nat.reduceLT, Nat.reduceLeDiff, Nat.reduceSub, Nat.reduceMul, Nat.reduceBEq, Int.reduceAdd, Int.reduceSub, Int.reduceMul, Int.reduceNeg, Int.reduceLT, Int.reduceLE, Int.reduceToNat, Int.reduceEq, Int.reduceBEq]
      refine (ans_setag (hs.kept0 k0) (hh.kept0 k0) (hbA.take (k := b.length - 32) (by omega)) hp ⟨by omega, by simp; omega⟩).mono ?_
      rintro _ m1 ⟨rfl, k1⟩
      have hr1 := k1.row hrA (by simp)
      have hcut : List.take 32 (List.drop (o + (b.length - 32)) cc) = bys (b.drop (b.length - 32)) := by
        show _ = (b.drop (b.length - 32)).map b8
        have h4 : b.map b8 = List.take b.length (List.drop o cc) := htk.symm
        rw [List.map_drop, h4, List.drop_take, List.drop_drop, show b.length - (b.length - 32) = 32 by omega]
      have hdl : (b.drop (b.length - 32)).length = 32 := by simp; omega
      simp -implicitDefEqProofs (disch := (first | omega | (simp only [lenB, lowB_len, macB_len, tagB_len, turnB_len] <;> omega) | fail)) only [admQ, lenB, lowB_len, macB_len, tagB_len, turnB_len, aFill, AK.cls, implies_true, ↓reduceIte, reduceCtorEq, if_true, if_false, Nat.reduceAdd, Nat.reduceEqDiff, Nat.reduceMod, Nat.reduceLT, Nat.reduceLeDiff, Nat.reduceSub, Nat.reduceMul, Nat.reduceBEq, Int.reduceAdd, Int.reduceSub, Int.reduceMul, Int.reduceNeg, Int.reduceLT, Int.reduceLE, Int.reduceToNat, Int.reduceEq, Int.reduceBEq, hr1, hrA, hcut]
      refine (ans_macsame (tagB_len _ _ _ _ _) hdl).mono ?_
      rintro _ m2 ⟨rfl, k2⟩
      have K2 := k0.trans (k1.trans k2)
      by_cases hok : tagB key head e n (b.take (b.length - 32)) = b.drop (b.length - 32)
      · have hyes : openP key head e n b := ⟨hp, by omega, hok⟩
        have hb2 := hb.kept0 K2
        simp -implicitDefEqProofs (disch := (first | omega | (simp only [lenB, lowB_len, macB_len, tagB_len, turnB_len] <;> omega) | fail)) only [admQ, lenB, lowB_len, macB_len, tagB_len, turnB_len, aFill, AK.cls, implies_true, ↓reduceIte, reduceCtorEq, if_true, if_false, Nat.reduceAdd, Nat.reduceEqDiff, Nat.reduceMod, Nat.reduceLT, Nat.reduceLeDiff, Nat.reduceSub, Nat.reduceMul, Nat.reduceBEq, Int.reduceAdd, Int.reduceSub, Int.reduceMul, Int.reduceNeg, Int.reduceLT, Int.reduceLE, Int.reduceToNat, Int.reduceEq, Int.reduceBEq, beq_iff_eq.mpr hok, Bool.not_true, (hs.kept0 K2).hd, k2.row hr1 (by simp), hcut]
        have h8 : (b.take (b.length - 32)).length = b.length - 32 := by simp
        refine (ans_ctrxor (hs.kept0 K2).ci e n (hb2.take (k := b.length - 32) (by omega)) (by omega)).mono ?_
        rintro _ m3 ⟨p, rfl, k3, hp3, o3⟩
        simp -implicitDefEqProofs (disch := (first | omega | (simp only [lenB, lowB_len, macB_len, tagB_len, turnB_len] <;> omega) | fail)) only [admQ, lenB, lowB_len, macB_len, tagB_len, turnB_len, aFill, AK.cls, implies_true, ↓reduceIte, reduceCtorEq, if_true, if_false, Nat.reduceAdd, Nat.reduceEqDiff, Nat.reduceMod, Nat.reduceLT, Nat.reduceLeDiff, Nat.reduceSub, Nat.reduceMul, Nat.reduceBEq, Int.reduceAdd, Int.reduceSub, Int.reduceMul, Int.reduceNeg, Int.reduceLT, Int.reduceLE, Int.reduceToNat, Int.reduceEq, Int.reduceBEq]
        rw [h8]
        have hl2 := K2.len
        exact ⟨K2.trans k3, fun _ => ⟨p, by omega, rfl, o3⟩, fun h => absurd hyes h⟩
      · have hno : ¬ openP key head e n b := fun h => hok h.2.2
        simp -implicitDefEqProofs (disch := (first | omega | (simp only [lenB, lowB_len, macB_len, tagB_len, turnB_len] <;> omega) | fail)) only [admQ, lenB, lowB_len, macB_len, tagB_len, turnB_len, aFill, AK.cls, implies_true, ↓reduceIte, reduceCtorEq, if_true, if_false, Nat.reduceAdd, Nat.reduceEqDiff, Nat.reduceMod, Nat.reduceLT, Nat.reduceLeDiff, Nat.reduceSub, Nat.reduceMul, Nat.reduceBEq, Int.reduceAdd, Int.reduceSub, Int.reduceMul, Int.reduceNeg, Int.reduceLT, Int.reduceLE, Int.reduceToNat, Int.reduceEq, Int.reduceBEq, beq_eq_false_iff_ne.mpr hok, Bool.not_false, k2.row hr1 (by simp), hcut]
        exact ⟨K2, fun h => absurd h hno⟩
  · have hno : ¬ openP key head e n b := fun h => hp h.1
    simp -implicitDefEqProofs (disch := (first | omega | (simp only [lenB, lowB_len, macB_len, tagB_len, turnB_len] <;> omega) | fail)) only [admQ, lenB, lowB_len, macB_len, tagB_len, turnB_len, aFill, AK.cls, implies_true, ↓reduceIte, reduceCtorEq, if_true, if_false, Nat.reduceAdd, Nat.reduceEqDiff, Nat.reduceMod, Nat.reduceLT, Nat.reduceLeDiff, Nat.reduceSub, Nat.reduceMul, Nat.reduceBEq, Int.reduceAdd, Int.reduceSub, Int.reduceMul, Int.reduceNeg, Int.reduceLT, Int.reduceLE, Int.reduceToNat, Int.reduceEq, Int.reduceBEq, decide_eq_false hp, Bool.not_false]
    exact ⟨.app _ _ _, fun h => absurd h hno⟩
end Go.Proofs.YtdmdakaliilghaaDoor
end
section
/- Sealing, as the document has it. -/
namespace Go.Proofs.YtdmdakaliilghaaDoor
open Go Go.Adm
set_option linter.unusedSimpArgs false
set_option linter.unusedVariables false
set_option maxRecDepth 100000
theorem ans_rseight (v : Nat) (hv : v < 4611686018427387904) (m : Mem) : Ans Tryd.prog 44 [.int .i64 v] m fun r m' => Kept [] m m' ∧ GrB m.length m' r (lowB v 8) := by
  refine ans_ret mixed ok44 ?_
  simp -implicitDefEqProofs (disch := (first | omega | (simp only [lenB, lowB_len, macB_len, tagB_len, turnB_len] <;> omega) | fail)) only [admQ, lenB, lowB_len, macB_len, tagB_len, turnB_len, aFill, AK.cls, implies_true, ↓reduceIte, reduceCtorEq, if_true, if_false, Nat.reduceAdd, Nat.reduceEqDiff, Nat.reduceMod, Nat.reduceLT, Nat.reduceLeDiff, Nat.reduceSub, Nat.reduceMul, Nat.reduceBEq, Int.reduceAdd, Int.reduceSub, Int.reduceMul, Int.reduceNeg, Int.reduceLT, Int.reduceLE, Int.reduceToNat, Int.reduceEq, Int.reduceBEq, c44, r44]
  refine LoopW.on (fun t : Nat × AV => [(0, .int .i64 v), (3, t.2), (4, .int .i64 (7 - (t.1 : Int)))]) (fun t => 8 - t.1)
    (fun t M => t.1 ≤ 8 ∧ Kept [] m M ∧ GrB m.length M t.2 (tab t.1 (fun i => byV v (7 - i)))) ?_ (0, .nils) _ _ rfl ⟨by simp, .refl _ _, .nils ..⟩
  rintro ⟨k, x⟩ M X ⟨hk, kk, g⟩ hX
  change GrB m.length M x (tab k (fun i => byV v (7 - i))) at g
  simp only at hk
  by_cases hlt : k < 8
  · rw [show (7 - (k : Int)) = ((7 - k : Nat) : Int) by omega]
    have hw : IntKind.u8.wrap ((v >>> (8 * (7 - k)) : Nat) : Int) = ((byV v (7 - k)).toNat : Int) := wrap_u8 _
    have hmin : Nat.min (8 * (7 - k)) 64 = 8 * (7 - k) := Nat.min_eq_left (by omega)
    simp -implicitDefEqProofs (disch := (first | omega | (simp only [lenB, lowB_len, macB_len, tagB_len, turnB_len] <;> omega) | fail)) only [admQ, lenB, lowB_len, macB_len, tagB_len, turnB_len, aFill, AK.cls, implies_true, ↓reduceIte, reduceCtorEq, if_true, if_false, Nat.reduceAdd, Nat.reduceEqDiff, Nat.reduceMod, Nat.reduceLT, Nat.reduceLeDiff, Nat.reduceSub, Nat.reduceMul, Nat.reduceBEq, Int.reduceAdd, Int.reduceSub, Int.reduceMul, Int.reduceNeg, Int.reduceLT, Int.reduceLE, Int.reduceToNat, Int.reduceEq, Int.reduceBEq, fdiv_pow, hmin, hw, @w64]
    obtain ⟨x3, m3, e3, g3, k3, a3⟩ := g.push (byV v (7 - k)) (by simp [tab_len]; omega) kk.len
    refine someW_eq e3 ?_
    simp -implicitDefEqProofs (disch := (first | omega | (simp only [lenB, lowB_len, macB_len, tagB_len, turnB_len] <;> omega) | fail)) only [admQ, lenB, lowB_len, macB_len, tagB_len, turnB_len, aFill, AK.cls, implies_true, ↓reduceIte, reduceCtorEq, if_true, if_false, Nat.reduceAdd, Nat.reduceEqDiff, Nat.reduceMod, Nat.reduceLT, Nat.reduceLeDiff, Nat.reduceSub, Nat.reduceMul, Nat.reduceBEq, Int.reduceAdd, Int.reduceSub, Int.reduceMul, Int.reduceNeg, Int.reduceLT, Int.reduceLE, Int.reduceToNat, Int.reduceEq, Int.reduceBEq]
    rw [show ((7 - k : Nat) : Int) - 1 = 7 - ((k + 1 : Nat) : Int) by omega]
    refine hX (k + 1, x3) _ _ rfl (by simp only; omega) ⟨by simp only; omega, a3 _ _ kk (Nat.le_refl _), ?_⟩
    show GrB m.length m3 x3 (tab (k + 1) _)
    rw [tab_succ]; exact g3
  · obtain rfl : k = 8 := by omega
    simp -implicitDefEqProofs (disch := (first | omega | (simp only [lenB, lowB_len, macB_len, tagB_len, turnB_len] <;> omega) | fail)) only [admQ, lenB, lowB_len, macB_len, tagB_len, turnB_len, aFill, AK.cls, implies_true, ↓reduceIte, reduceCtorEq, if_true, if_false, Nat.reduceAdd, Nat.reduceEqDiff, Nat.reduceMod, Nat.reduceLT, Nat.reduceLeDiff, Nat.reduceSub, Nat.reduceMul, Nat.reduceBEq, Int.reduceAdd, Int.reduceSub, Int.reduceMul, Int.reduceNeg, Int.reduceLT, Int.reduceLE, Int.reduceToNat, Int.reduceEq, Int.reduceBEq]
    exact ⟨kk, g⟩
theorem ans_rsright (e n : Int) (m : Mem) : Ans Tryd.prog 31 [.int .i64 e, .int .i64 n] m fun r m' => r = .bool (decide (placedP e n)) ∧ m' = m := by
  refine ans_ret mixed ok31 ?_
  by_cases h1 : e ≥ 0
  · by_cases h2 : e ≤ 1099511627776
    · by_cases h3 : n ≥ 0
      · by_cases h4 : n ≤ 1099511627776
        · have hp : placedP e n := ⟨⟨h1, h2⟩, h3, h4⟩
          simp -implicitDefEqProofs (disch := (first | omega | (simp only [lenB, lowB_len, macB_len, tagB_len, turnB_len] <;> omega) | fail)) only [admQ, lenB, lowB_len, macB_len, tagB_len, turnB_len, aFill, AK.cls, implies_true, ↓reduceIte, reduceCtorEq, if_true, if_false, Nat.reduceAdd, Nat.reduceEqDiff, Nat.reduceMod, Nat.reduceLT, Nat.reduceLeDiff, Nat.reduceSub, Nat.reduceMul, Nat.reduceBEq, Int.reduceAdd, Int.reduceSub, Int.reduceMul, Int.reduceNeg, Int.reduceLT, Int.reduceLE, Int.reduceToNat, Int.reduceEq, Int.reduceBEq, c31, r31, dec_t h1, dec_t h2, dec_t h3, dec_t h4, decide_eq_true hp]
        · have hp : ¬ placedP e n := fun h => h4 h.2.2
          simp -implicitDefEqProofs (disch := (first | omega | (simp only [lenB, lowB_len, macB_len, tagB_len, turnB_len] <;> omega) | fail)) only [admQ, lenB, lowB_len, macB_len, tagB_len, turnB_len, aFill, AK.cls, implies_true, ↓reduceIte, reduceCtorEq, if_true, if_false, Nat.reduceAdd, Nat.reduceEqDiff, Nat.reduceMod, Nat.reduceLT, Nat.reduceLeDiff, Nat.reduceSub, Nat.reduceMul, Nat.reduceBEq, Int.reduceAdd, Int.reduceSub, Int.reduceMul, Int.reduceNeg, Int.reduceLT, Int.reduceLE, Int.reduceToNat, Int.reduceEq, Int.reduceBEq, c31, r31, dec_t h1, dec_t h2, dec_t h3, dec_f h4, decide_eq_false hp]
      · have hp : ¬ placedP e n := fun h => h3 h.2.1
        simp -implicitDefEqProofs (disch := (first | omega | (simp only [lenB, lowB_len, macB_len, tagB_len, turnB_len] <;> omega) | fail)) only [admQ, lenB, lowB_len, macB_len, tagB_len, turnB_len, aFill, AK.cls, implies_true, ↓reduceIte, reduceCtorEq, if_true, if_false, Nat.reduceAdd, Nat.reduceEqDiff, Nat.reduceMod, Nat.reduceLT, Nat.reduceLeDiff, Nat.reduceSub, Nat.reduceMul, Nat.reduceBEq, Int.reduceAdd, Int.reduceSub, Int.reduceMul, Int.reduceNeg, Int.reduceLT, Int.reduceLE, Int.reduceToNat, Int.reduceEq, Int.reduceBEq, c31, r31, dec_t h1, dec_t h2, dec_f h3, decide_eq_false hp]
    · have hp : ¬ placedP e n := fun h => h2 h.1.2
      simp -implicitDefEqProofs (disch := (first | omega | (simp only [lenB, lowB_len, macB_len, tagB_len, turnB_len] <;> omega) | fail)) only [admQ, lenB, lowB_len, macB_len, tagB_len, turnB_len, aFill, AK.cls, implies_true, ↓reduceIte, reduceCtorEq, if_true, if_false, Nat.reduceAdd, Nat.reduceEqDiff, Nat.reduceMod, Nat.reduceLT, Nat.reduceLeDiff, Nat.reduceSub, Nat.reduceMul, Nat.reduceBEq, Int.reduceAdd, Int.reduceSub, Int.reduceMul, Int.reduceNeg, Int.reduceLT, Int.reduceLE, Int.reduceToNat, Int.reduceEq, Int.reduceBEq, c31, r31, dec_t h1, dec_f h2, decide_eq_false hp]
  · have hp : ¬ placedP e n := fun h => h1 h.1.1
    simp -implicitDefEqProofs (disch := (first | omega | (simp only [lenB, lowB_len, macB_len, tagB_len, turnB_len] <;> omega) | fail)) only [admQ, lenB, lowB_len, macB_len, tagB_len, turnB_len, aFill, AK.cls, implies_true, ↓reduceIte, reduceCtorEq, if_true, if_false, Nat.reduceAdd, Nat.reduceEqDiff, Nat.reduceMod, Nat.reduceLT, Nat.reduceLeDiff, Nat.reduceSub, Nat.reduceMul, Nat.reduceBEq, Int.reduceAdd, Int.reduceSub, Int.reduceMul, Int.reduceNeg, Int.reduceLT, Int.reduceLE, Int.reduceToNat, Int.reduceEq, Int.reduceBEq, c31, r31, dec_f h1, decide_eq_false hp]
/-- The document's box under a key. -/
structure RBox (m : Mem) (x c : Nat) (key : List B8) : Prop where
  hd : ∃ v, rowOf m x = some [.ptr c 0, v] ∧ RdB m v (authK key)
  ci : RCiph m c 11 (expand (encK key))
  kR : rowOf m 1 = some (wds kT)
theorem RBox.kept0 {m m' : Mem} {x c : Nat} {key : List B8} (h : RBox m x c key) (hk : Kept [] m m') : RBox m' x c key :=
  ⟨let ⟨v, h1, h2⟩ := h.hd; ⟨v, hk.row h1 (by simp), h2.kept0 hk⟩, h.ci.kept0 hk, hk.row h.kR (by simp)⟩
theorem ans_rsnew {m : Mem} {y : AV} {key : List B8} (hK : rowOf m 1 = some (wds kT)) (hy : RdB m y key) (hkl : key.length ≤ 900000000) :
    Ans Tryd.prog 14 [y] m fun r m' => ∃ x c, r = .ptr x 0 ∧ Kept [] m m' ∧ ∀ M : Mem, (∀ q, m.length ≤ q → q < m'.length → M[q]? = m'[q]?) → rowOf M 1 = some (wds kT) → RBox M x c key := by
  refine ans_ret mixed ok14 ?_
  simp -implicitDefEqProofs (disch := (first | omega | (simp only [lenB, lowB_len, macB_len, tagB_len, turnB_len] <;> omega) | fail)) only [admQ, lenB, lowB_len, macB_len, tagB_len, turnB_len, aFill, AK.cls, implies_true, ↓reduceIte, reduceCtorEq, if_true, if_false, Nat.reduceAdd, Nat.reduceEqDiff, Nat.reduceMod, Nat.reduceLT, Nat.reduceLeDiff, Nat.reduceSub, Nat.reduceMul, Nat.reduceBEq, Int.reduceAdd, Int.reduceSub, Int.reduceMul, Int.reduceNeg, Int.reduceLT, Int.reduceLE, Int.reduceToNat, Int.reduceEq, Int.reduceBEq, c14, r14]
  refine (ans_rsderive encS hK hy hkl (by decide)).mono ?_
  rintro _ m1 ⟨rfl, k1⟩
  have h1 := macB_len key (strB encS)
  have h2 := macB_len key (strB authS)
  simp -implicitDefEqProofs (disch := (first | omega | (simp only [lenB, lowB_len, macB_len, tagB_len, turnB_len] <;> omega) | fail)) only [admQ, lenB, lowB_len, macB_len, tagB_len, turnB_len, aFill, AK.cls, implies_true, ↓reduceIte, reduceCtorEq, if_true, if_false, Nat.reduceAdd, Nat.reduceEqDiff, Nat.reduceMod, Nat.reduceLT, Nat.reduceLeDiff, Nat.reduceSub, Nat.reduceMul, Nat.reduceBEq, Int.reduceAdd, Int.reduceSub, Int.reduceMul, Int.reduceNeg, Int.reduceLT, Int.reduceLE, Int.reduceToNat, Int.reduceEq, Int.reduceBEq]
  have kA := k1.more_app [Blk.row (bys (macB key (strB encS))) false]
  have rE : RdB (m1 ++ [Blk.row (bys (macB key (strB encS))) false]) (.sl m1.length 0 16 32 0) (encK key) := by
    have := RdB.row (m := m1 ++ [Blk.row (bys (macB key (strB encS))) false]) (b := m1.length) (l := macB key (strB encS)) 32 0 (by rw [rowOf_app_at0]; rfl) (by omega)
    rw [h1] at this
    exact this.take (k := 16) (by omega)
  generalize m1 ++ [Blk.row (bys (macB key (strB encS))) false] = A at kA rE
  refine (ans_rsderive authS (kA.row hK (by simp)) (hy.kept0 kA) hkl (by decide)).mono ?_
  rintro _ m2 ⟨rfl, k2⟩
  simp -implicitDefEqProofs (disch := (first | omega | (simp only [lenB, lowB_len, macB_len, tagB_len, turnB_len] <;> omega) | fail)) only [admQ, lenB, lowB_len, macB_len, tagB_len, turnB_len, aFill, AK.cls, implies_true, ↓reduceIte, reduceCtorEq, if_true, if_false, Nat.reduceAdd, Nat.reduceEqDiff, Nat.reduceMod, Nat.reduceLT, Nat.reduceLeDiff, Nat.reduceSub, Nat.reduceMul, Nat.reduceBEq, Int.reduceAdd, Int.reduceSub, Int.reduceMul, Int.reduceNeg, Int.reduceLT, Int.reduceLE, Int.reduceToNat, Int.reduceEq, Int.reduceBEq]
  have kB := (kA.trans k2).more_app [Blk.row (bys (macB key (strB authS))) false]
  have oB : own (m2 ++ [Blk.row (bys (macB key (strB authS))) false]) m2.length = some (bys (macB key (strB authS))) := by rw [own_app_at0]; rfl
  have rE2 := (rE.kept0 k2).app [Blk.row (bys (macB key (strB authS))) false]
  generalize m2 ++ [Blk.row (bys (macB key (strB authS))) false] = B at kB oB rE2
  have hel := encK_len key
  refine (ans_rnew rE2 (.inl hel)).mono ?_
  rintro _ m3 ⟨c, rfl, k3, hc, ci⟩
  rw [hel] at ci
  have ci3 := ci m3 (fun _ _ _ => rfl)
  have o3 := k3.own oB (by simp)
  simp -implicitDefEqProofs (disch := (first | omega | (simp only [lenB, lowB_len, macB_len, tagB_len, turnB_len] <;> omega) | fail)) only [admQ, lenB, lowB_len, macB_len, tagB_len, turnB_len, aFill, AK.cls, implies_true, ↓reduceIte, reduceCtorEq, if_true, if_false, Nat.reduceAdd, Nat.reduceEqDiff, Nat.reduceMod, Nat.reduceLT, Nat.reduceLeDiff, Nat.reduceSub, Nat.reduceMul, Nat.reduceBEq, Int.reduceAdd, Int.reduceSub, Int.reduceMul, Int.reduceNeg, Int.reduceLT, Int.reduceLE, Int.reduceToNat, Int.reduceEq, Int.reduceBEq]
  have hau : macB key (strB authS) = authK key := rfl
  rw [hau] at o3 h2
  have hal := h2
  have r3 := RdB.row (m := m3) (l := authK key) 32 0 (rowOf_own o3) (by omega)
  rw [hal] at r3
  have gz : GrB (m3 ++ [Blk.row [] false]).length (m3 ++ [Blk.row [] false]) (.sl m3.length 0 0 0 0) [] := .zero (by rw [own_app_at0]; rfl)
  obtain ⟨x4, m4, e4, g4, k4, a4⟩ := gz.pushs (r3.app [Blk.row [] false]) (by simp only [List.length_nil]; omega) (Nat.le_refl _)
  refine someW_eq e4 ?_
  have K4 : Kept [] m3 m4 := by
    have ha : Kept [] m3 (m3 ++ [Blk.row [] false]) := .app _ _ _
    exact ha.trans (a4 _ _ (.refl _ _) (Nat.le_refl _))
  rw [List.nil_append] at g4
  simp -implicitDefEqProofs (disch := (first | omega | (simp only [lenB, lowB_len, macB_len, tagB_len, turnB_len] <;> omega) | fail)) only [admQ, lenB, lowB_len, macB_len, tagB_len, turnB_len, aFill, AK.cls, implies_true, ↓reduceIte, reduceCtorEq, if_true, if_false, Nat.reduceAdd, Nat.reduceEqDiff, Nat.reduceMod, Nat.reduceLT, Nat.reduceLeDiff, Nat.reduceSub, Nat.reduceMul, Nat.reduceBEq, Int.reduceAdd, Int.reduceSub, Int.reduceMul, Int.reduceNeg, Int.reduceLT, Int.reduceLE, Int.reduceToNat, Int.reduceEq, Int.reduceBEq, (gr_one g4).1, (gr_one g4).2]
  have kZ := (kB.trans (k3.trans K4))
  refine ⟨_, c, rfl, kZ.more_app _, fun M hM hK' => ?_⟩
  have hmB := kB.len
  have hB3 := k3.len
  have h34 := K4.len
  have hcut : ∀ q, m.length ≤ q → q < m4.length → M[q]? = m4[q]? := fun q h1 h2 => by
    rw [hM q h1 (by omega), List.getElem?_append_left h2]
  have hx : rowOf M m4.length = some [.ptr c 0, x4] := rowOf_at (m := m4 ++ [Blk.row [.ptr c 0, x4] false]) (by rw [rowOf_app_at0]; rfl) (hM _ (by omega) (by omega))
  have hne : bys (authK key) ≠ [] := by intro e; have := congrArg List.length e; simp [hal] at this
  refine ⟨⟨x4, hx, g4.rd.at_ fun b hb => hcut b ?_ (g4.lt b hb)⟩, ci M fun q h1 h2 => ?_, hK'⟩
  · have := GrA.blk g4 hne b hb
    rw [List.length_append] at this; omega
  · rw [hcut q (by omega) (by omega)]
    exact K4.eq q h2 (by simp)
theorem ans_rstag {m : Mem} {x c : Nat} {key head b : List B8} {hx bx : AV} {e n : Int} (hs : RBox m x c key) (hh : RdB m hx head) (hb : RdB m bx b) (he : placedP e n) (hl : head.length ≤ 100000000 ∧ b.length ≤ 100000000) :
    Ans Tryd.prog 32 [.ptr x 0, .int .i64 e, .int .i64 n, hx, bx] m fun r m' => r = .agg (bys (tagB key head e n b)) ∧ Kept [] m m' := by
  refine ans_ret mixed ok32 ?_
  obtain ⟨v, hv, hav⟩ := hs.hd
  obtain ⟨⟨e0, e1⟩, n0, n1⟩ := he
  obtain ⟨e, rfl⟩ := Int.eq_ofNat_of_zero_le e0
  obtain ⟨n, rfl⟩ := Int.eq_ofNat_of_zero_le n0
  simp -implicitDefEqProofs (disch := (first | omega | (simp only [lenB, lowB_len, macB_len, tagB_len, turnB_len] <;> omega) | fail)) only [admQ, lenB, lowB_len, macB_len, tagB_len, turnB_len, aFill, AK.cls, implies_true, ↓reduceIte, reduceCtorEq, if_true, if_false, Nat.reduceAdd, Nat.reduceEqDiff, Nat.reduceMod, Nat.reduceLT, Nat.reduceLeDiff, Nat.reduceSub, Nat.reduceMul, Nat.reduceBEq, Int.reduceAdd, Int.reduceSub, Int.reduceMul, Int.reduceNeg, Int.reduceLT, Int.reduceLE, Int.reduceToNat, Int.reduceEq, Int.reduceBEq, c32, r32, hh.len]
  have k0 := Kept.app [] m [Blk.row (bys (List.replicate 32 0#8)) false]
  have o0 : own (m ++ [Blk.row (bys (List.replicate 32 0#8)) false]) m.length = some (bys (List.replicate 32 0#8)) := by rw [own_app_at0]; rfl
  generalize m ++ [Blk.row (bys (List.replicate 32 0#8)) false] = A at k0 o0
  refine (ans_rseight head.length (by omega) _).mono ?_
  rintro r1 m1 ⟨k1, g1⟩
  simp -implicitDefEqProofs (disch := (first | omega | (simp only [lenB, lowB_len, macB_len, tagB_len, turnB_len] <;> omega) | fail)) only [admQ, lenB, lowB_len, macB_len, tagB_len, turnB_len, aFill, AK.cls, implies_true, ↓reduceIte, reduceCtorEq, if_true, if_false, Nat.reduceAdd, Nat.reduceEqDiff, Nat.reduceMod, Nat.reduceLT, Nat.reduceLeDiff, Nat.reduceSub, Nat.reduceMul, Nat.reduceBEq, Int.reduceAdd, Int.reduceSub, Int.reduceMul, Int.reduceNeg, Int.reduceLT, Int.reduceLE, Int.reduceToNat, Int.reduceEq, Int.reduceBEq]
  obtain ⟨x2, m2, e2, g2, k2, a2⟩ := g1.pushs (hh.kept0 (k0.trans k1)) (by simp [lowB_len]; omega) k1.len
  refine someW_eq e2 ?_
  have K2 := a2 _ _ k1 (Nat.le_refl _)
  simp -implicitDefEqProofs (disch := (first | omega | (simp only [lenB, lowB_len, macB_len, tagB_len, turnB_len] <;> omega) | fail)) only [admQ, lenB, lowB_len, macB_len, tagB_len, turnB_len, aFill, AK.cls, implies_true, ↓reduceIte, reduceCtorEq, if_true, if_false, Nat.reduceAdd, Nat.reduceEqDiff, Nat.reduceMod, Nat.reduceLT, Nat.reduceLeDiff, Nat.reduceSub, Nat.reduceMul, Nat.reduceBEq, Int.reduceAdd, Int.reduceSub, Int.reduceMul, Int.reduceNeg, Int.reduceLT, Int.reduceLE, Int.reduceToNat, Int.reduceEq, Int.reduceBEq]
  refine (ans_rseight e (by omega) _).mono ?_
  rintro r3 m3 ⟨k3, g3⟩
  have K3 := K2.trans k3
  have g2' := g2.kept0 k3
  simp -implicitDefEqProofs (disch := (first | omega | (simp only [lenB, lowB_len, macB_len, tagB_len, turnB_len] <;> omega) | fail)) only [admQ, lenB, lowB_len, macB_len, tagB_len, turnB_len, aFill, AK.cls, implies_true, ↓reduceIte, reduceCtorEq, if_true, if_false, Nat.reduceAdd, Nat.reduceEqDiff, Nat.reduceMod, Nat.reduceLT, Nat.reduceLeDiff, Nat.reduceSub, Nat.reduceMul, Nat.reduceBEq, Int.reduceAdd, Int.reduceSub, Int.reduceMul, Int.reduceNeg, Int.reduceLT, Int.reduceLE, Int.reduceToNat, Int.reduceEq, Int.reduceBEq]
  obtain ⟨x4, m4, e4, g4, k4, a4⟩ := g2'.pushs g3.rd (by simp [lowB_len]; omega) K3.len
  refine someW_eq e4 ?_
  have K4 := a4 _ _ K3 (Nat.le_refl _)
  simp -implicitDefEqProofs (disch := (first | omega | (simp only [lenB, lowB_len, macB_len, tagB_len, turnB_len] <;> omega) | fail)) only [admQ, lenB, lowB_len, macB_len, tagB_len, turnB_len, aFill, AK.cls, implies_true, ↓reduceIte, reduceCtorEq, if_true, if_false, Nat.reduceAdd, Nat.reduceEqDiff, Nat.reduceMod, Nat.reduceLT, Nat.reduceLeDiff, Nat.reduceSub, Nat.reduceMul, Nat.reduceBEq, Int.reduceAdd, Int.reduceSub, Int.reduceMul, Int.reduceNeg, Int.reduceLT, Int.reduceLE, Int.reduceToNat, Int.reduceEq, Int.reduceBEq]
  refine (ans_rseight n (by omega) _).mono ?_
  rintro r5 m5 ⟨k5, g5⟩
  have K5 := K4.trans k5
  have g4' := g4.kept0 k5
  simp -implicitDefEqProofs (disch := (first | omega | (simp only [lenB, lowB_len, macB_len, tagB_len, turnB_len] <;> omega) | fail)) only [admQ, lenB, lowB_len, macB_len, tagB_len, turnB_len, aFill, AK.cls, implies_true, ↓reduceIte, reduceCtorEq, if_true, if_false, Nat.reduceAdd, Nat.reduceEqDiff, Nat.reduceMod, Nat.reduceLT, Nat.reduceLeDiff, Nat.reduceSub, Nat.reduceMul, Nat.reduceBEq, Int.reduceAdd, Int.reduceSub, Int.reduceMul, Int.reduceNeg, Int.reduceLT, Int.reduceLE, Int.reduceToNat, Int.reduceEq, Int.reduceBEq]
  obtain ⟨x6, m6, e6, g6, k6, a6⟩ := g4'.pushs g5.rd (by simp [lowB_len]; omega) K5.len
  refine someW_eq e6 ?_
  have K6 := a6 _ _ K5 (Nat.le_refl _)
  have hv6 := (k0.trans K6).row hv (by simp)
  simp -implicitDefEqProofs (disch := (first | omega | (simp only [lenB, lowB_len, macB_len, tagB_len, turnB_len] <;> omega) | fail)) only [admQ, lenB, lowB_len, macB_len, tagB_len, turnB_len, aFill, AK.cls, implies_true, ↓reduceIte, reduceCtorEq, if_true, if_false, Nat.reduceAdd, Nat.reduceEqDiff, Nat.reduceMod, Nat.reduceLT, Nat.reduceLeDiff, Nat.reduceSub, Nat.reduceMul, Nat.reduceBEq, Int.reduceAdd, Int.reduceSub, Int.reduceMul, Int.reduceNeg, Int.reduceLT, Int.reduceLE, Int.reduceToNat, Int.reduceEq, Int.reduceBEq, hv6]
  obtain ⟨x7, m7, e7, g7, k7, a7⟩ := g6.pushs (hb.kept0 (k0.trans K6)) (by simp [lowB_len]; omega) K6.len
  refine someW_eq e7 ?_
  have K7 := a7 _ _ K6 (Nat.le_refl _)
  have hv7 := (k0.trans K7).row hv (by simp)
  have hs7 := hs.kept0 (k0.trans K7)
  simp -implicitDefEqProofs (disch := (first | omega | (simp only [lenB, lowB_len, macB_len, tagB_len, turnB_len] <;> omega) | fail)) only [admQ, lenB, lowB_len, macB_len, tagB_len, turnB_len, aFill, AK.cls, implies_true, ↓reduceIte, reduceCtorEq, if_true, if_false, Nat.reduceAdd, Nat.reduceEqDiff, Nat.reduceMod, Nat.reduceLT, Nat.reduceLeDiff, Nat.reduceSub, Nat.reduceMul, Nat.reduceBEq, Int.reduceAdd, Int.reduceSub, Int.reduceMul, Int.reduceNeg, Int.reduceLT, Int.reduceLE, Int.reduceToNat, Int.reduceEq, Int.reduceBEq, hv7]
  refine (ans_rsmac hs7.kR (hav.kept0 (k0.trans K7)) g7.rd (by rw [authK_len]; omega) (by simp [lowB_len]; omega)).mono ?_
  rintro _ m8 ⟨rfl, k8⟩
  have K8 := K7.trans k8
  have o8 := K8.own o0 (by simp)
  have hml := macB_len (authK key) (lowB head.length 8 ++ head ++ lowB e 8 ++ lowB n 8 ++ b)
  simp -implicitDefEqProofs (disch := (first | omega | (simp only [lenB, lowB_len, macB_len, tagB_len, turnB_len] <;> omega) | fail)) only [admQ, lenB, lowB_len, macB_len, tagB_len, turnB_len, aFill, AK.cls, implies_true, ↓reduceIte, reduceCtorEq, if_true, if_false, Nat.reduceAdd, Nat.reduceEqDiff, Nat.reduceMod, Nat.reduceLT, Nat.reduceLeDiff, Nat.reduceSub, Nat.reduceMul, Nat.reduceBEq, Int.reduceAdd, Int.reduceSub, Int.reduceMul, Int.reduceNeg, Int.reduceLT, Int.reduceLE, Int.reduceToNat, Int.reduceEq, Int.reduceBEq, o8, own_set (own_lt o8), rowOf_own (own_set (own_lt o8) _), (k0.trans K8).row hv (by simp)]
  refine ⟨?_, (k0.trans K8).write (.inr (Nat.le_refl _)) _⟩
  rw [tagB]
  simp
theorem ans_rssum {m : Mem} {x : AV} {y : AV} {B : List B8} (hK : rowOf m 1 = some (wds kT)) (hB : RdB m y B) (hlen : B.length ≤ 900000000) :
    Ans Tryd.prog 20 [x, y] m fun r m' => r = .agg (bys (shaB B)) ∧ Kept [] m m' := by
  refine ans_ret mixed ok20 ?_
  simp -implicitDefEqProofs (disch := (first | omega | (simp only [lenB, lowB_len, macB_len, tagB_len, turnB_len] <;> omega) | fail)) only [admQ, lenB, lowB_len, macB_len, tagB_len, turnB_len, aFill, AK.cls, implies_true, ↓reduceIte, reduceCtorEq, if_true, if_false, Nat.reduceAdd, Nat.reduceEqDiff, Nat.reduceMod, Nat.reduceLT, Nat.reduceLeDiff, Nat.reduceSub, Nat.reduceMul, Nat.reduceBEq, Int.reduceAdd, Int.reduceSub, Int.reduceMul, Int.reduceNeg, Int.reduceLT, Int.reduceLE, Int.reduceToNat, Int.reduceEq, Int.reduceBEq, c20, r20]
  have k0 := Kept.app [] m [Blk.row (bys (List.replicate 32 0#8)) false]
  have o0 : own (m ++ [Blk.row (bys (List.replicate 32 0#8)) false]) m.length = some (bys (List.replicate 32 0#8)) := by rw [own_app_at0]; rfl
  generalize m ++ [Blk.row (bys (List.replicate 32 0#8)) false] = A0 at k0 o0
  refine (ans_rsof (k0.row hK (by simp)) (hB.kept0 k0) hlen).mono ?_
  rintro _ m1 ⟨rfl, k1⟩
  have o1 := k1.own o0 (by simp)
  have hs := shaB_len B
  simp -implicitDefEqProofs (disch := (first | omega | (simp only [lenB, lowB_len, macB_len, tagB_len, turnB_len] <;> omega) | fail)) only [admQ, lenB, lowB_len, macB_len, tagB_len, turnB_len, aFill, AK.cls, implies_true, ↓reduceIte, reduceCtorEq, if_true, if_false, Nat.reduceAdd, Nat.reduceEqDiff, Nat.reduceMod, Nat.reduceLT, Nat.reduceLeDiff, Nat.reduceSub, Nat.reduceMul, Nat.reduceBEq, Int.reduceAdd, Int.reduceSub, Int.reduceMul, Int.reduceNeg, Int.reduceLT, Int.reduceLE, Int.reduceToNat, Int.reduceEq, Int.reduceBEq, o1, own_set (own_lt o1), rowOf_own (own_set (own_lt o1) _)]
  exact (k0.trans k1).write (.inr (Nat.le_refl _)) _
theorem ans_rsseal {m : Mem} {x c : Nat} {key head b : List B8} {hx bx : AV} {e n : Int} (hs : RBox m x c key) (hh : RdB m hx head) (hb : RdB m bx b) (hl : head.length ≤ 100000 ∧ b.length ≤ 100000) :
    Ans Tryd.prog 18 [.ptr x 0, .int .i64 e, .int .i64 n, hx, bx] m fun r m' => Kept [] m m' ∧ (placedP e n → GrB m.length m' r (sealB key head e n b)) ∧ (¬ placedP e n → r = .nils) := by
  refine ans_ret mixed ok18 ?_
  obtain ⟨v, hv, hav⟩ := hs.hd
  simp -implicitDefEqProofs (disch := (first | omega | (simp only [lenB, lowB_len, macB_len, tagB_len, turnB_len] <;> omega) | fail)) only [admQ, lenB, lowB_len, macB_len, tagB_len, turnB_len, aFill, AK.cls, implies_true, ↓reduceIte, reduceCtorEq, if_true, if_false, Nat.reduceAdd, Nat.reduceEqDiff, Nat.reduceMod, Nat.reduceLT, Nat.reduceLeDiff, Nat.reduceSub, Nat.reduceMul, Nat.reduceBEq, Int.reduceAdd, Int.reduceSub, Int.reduceMul, Int.reduceNeg, Int.reduceLT, Int.reduceLE, Int.reduceToNat, Int.reduceEq, Int.reduceBEq, c18, r18]
  refine (ans_rsright e n _).mono ?_
  rintro _ M ⟨rfl, hM⟩
  subst hM
  by_cases hp : placedP e n
  · simp -implicitDefEqProofs (disch := (first | omega | (simp only [lenB, lowB_len, macB_len, tagB_len, turnB_len] <;> omega) | fail)) only [admQ, lenB, lowB_len, macB_len, tagB_len, turnB_len, aFill, AK.cls, implies_true, ↓reduceIte, reduceCtorEq, if_true, if_false, Nat.reduceAdd, Nat.reduceEqDiff, Nat.reduceMod, Nat.reduceLT, Nat.reduceLeDiff, Nat.reduceSub, Nat.reduceMul, Nat.reduceBEq, Int.reduceAdd, Int.reduceSub, Int.reduceMul, Int.reduceNeg, Int.reduceLT, Int.reduceLE, Int.reduceToNat, Int.reduceEq, Int.reduceBEq, decide_eq_true hp, Bool.not_true, hv]
    refine (ans_rctrxor hs.ci e n hb hl.2).mono ?_
    rintro y m1 ⟨k1, g1⟩
    change GrB M.length m1 y (turnB key e n b) at g1
    have htl := turnB_len key e n b
    simp -implicitDefEqProofs (disch := (first | omega | (simp only [lenB, lowB_len, macB_len, tagB_len, turnB_len] <;> omega) | fail)) only [admQ, lenB, lowB_len, macB_len, tagB_len, turnB_len, aFill, AK.cls, implies_true, ↓reduceIte, reduceCtorEq, if_true, if_false, Nat.reduceAdd, Nat.reduceEqDiff, Nat.reduceMod, Nat.reduceLT, Nat.reduceLeDiff, Nat.reduceSub, Nat.reduceMul, Nat.reduceBEq, Int.reduceAdd, Int.reduceSub, Int.reduceMul, Int.reduceNeg, Int.reduceLT, Int.reduceLE, Int.reduceToNat, Int.reduceEq, Int.reduceBEq]
    refine (ans_rstag (hs.kept0 k1) (hh.kept0 k1) g1.rd hp ⟨by omega, by omega⟩).mono ?_
    rintro _ m2 ⟨rfl, k2⟩
    have hgl := tagB_len key head e n (turnB key e n b)
    simp -implicitDefEqProofs (disch := (first | omega | (simp only [lenB, lowB_len, macB_len, tagB_len, turnB_len] <;> omega) | fail)) only [admQ, lenB, lowB_len, macB_len, tagB_len, turnB_len, aFill, AK.cls, implies_true, ↓reduceIte, reduceCtorEq, if_true, if_false, Nat.reduceAdd, Nat.reduceEqDiff, Nat.reduceMod, Nat.reduceLT, Nat.reduceLeDiff, Nat.reduceSub, Nat.reduceMul, Nat.reduceBEq, Int.reduceAdd, Int.reduceSub, Int.reduceMul, Int.reduceNeg, Int.reduceLT, Int.reduceLE, Int.reduceToNat, Int.reduceEq, Int.reduceBEq]
    have kW := (k1.trans k2).more_app [Blk.row (bys (tagB key head e n (turnB key e n b))) false, Blk.row [] false]
    have gW := (g1.rd.kept0 k2).app [Blk.row (bys (tagB key head e n (turnB key e n b))) false, Blk.row [] false]
    have hW : (m2 ++ [Blk.row (bys (tagB key head e n (turnB key e n b))) false, Blk.row [] false])[m2.length + 1]? = some (.row [] false) := by simp
    have oT : own (m2 ++ [Blk.row (bys (tagB key head e n (turnB key e n b))) false, Blk.row [] false]) m2.length = some (bys (tagB key head e n (turnB key e n b))) := by rw [own_app_at0]; rfl
    have hseal : sealB key head e n b = turnB key e n b ++ tagB key head e n (turnB key e n b) := rfl
    rw [hseal]
    generalize turnB key e n b = TU at *
    generalize tagB key head e n TU = TG at *
    have gz : GrB (m2 ++ [Blk.row (bys TG) false, Blk.row [] false]).length (m2 ++ [Blk.row (bys TG) false, Blk.row [] false]) (.sl (m2.length + 1) 0 0 0 0) [] := .zero (by rw [own_app_at]; rfl)
    generalize m2 ++ [Blk.row (bys TG) false, Blk.row [] false] = W at *
    obtain ⟨x4, m4, e4, g4, k4, a4⟩ := gz.pushs gW (by simp only [List.length_nil]; omega) (Nat.le_refl _)
    refine someW_eq e4 ?_
    have K4 := a4 _ _ (.refl [] _) (Nat.le_refl _)
    rw [List.nil_append] at g4
    have hE : m4[m2.length + 1]? = some (.row [] false) := by rw [K4.eq _ (List.getElem?_eq_some_iff.mp hW).1 (by simp)]; exact hW
    have oT4 := K4.own oT (by simp)
    have rT := RdB.row (m := m4) (l := TG) 32 0 (rowOf_own oT4) (by omega)
    rw [hgl] at rT
    simp -implicitDefEqProofs (disch := (first | omega | (simp only [lenB, lowB_len, macB_len, tagB_len, turnB_len] <;> omega) | fail)) only [admQ, lenB, lowB_len, macB_len, tagB_len, turnB_len, aFill, AK.cls, implies_true, ↓reduceIte, reduceCtorEq, if_true, if_false, Nat.reduceAdd, Nat.reduceEqDiff, Nat.reduceMod, Nat.reduceLT, Nat.reduceLeDiff, Nat.reduceSub, Nat.reduceMul, Nat.reduceBEq, Int.reduceAdd, Int.reduceSub, Int.reduceMul, Int.reduceNeg, Int.reduceLT, Int.reduceLE, Int.reduceToNat, Int.reduceEq, Int.reduceBEq, hE, oT4, rowOf_own oT4]
    obtain ⟨x5, m5, e5, g5, k5, a5⟩ := g4.pushs rT (by omega) K4.len
    refine someW_eq e5 ?_
    have K5 := a5 _ _ K4 (Nat.le_refl _)
    have hE5 : m5[m2.length + 1]? = some (.row [] false) := by rw [K5.eq _ (List.getElem?_eq_some_iff.mp hW).1 (by simp)]; exact hW
    simp -implicitDefEqProofs (disch := (first | omega | (simp only [lenB, lowB_len, macB_len, tagB_len, turnB_len] <;> omega) | fail)) only [admQ, lenB, lowB_len, macB_len, tagB_len, turnB_len, aFill, AK.cls, implies_true, ↓reduceIte, reduceCtorEq, if_true, if_false, Nat.reduceAdd, Nat.reduceEqDiff, Nat.reduceMod, Nat.reduceLT, Nat.reduceLeDiff, Nat.reduceSub, Nat.reduceMul, Nat.reduceBEq, Int.reduceAdd, Int.reduceSub, Int.reduceMul, Int.reduceNeg, Int.reduceLT, Int.reduceLE, Int.reduceToNat, Int.reduceEq, Int.reduceBEq, hE5]
    exact ⟨kW.trans K5, fun _ => g5.low kW.len, fun h => absurd hp h⟩
  · simp -implicitDefEqProofs (disch := (first | omega | (simp only [lenB, lowB_len, macB_len, tagB_len, turnB_len] <;> omega) | fail)) only [admQ, lenB, lowB_len, macB_len, tagB_len, turnB_len, aFill, AK.cls, implies_true, ↓reduceIte, reduceCtorEq, if_true, if_false, Nat.reduceAdd, Nat.reduceEqDiff, Nat.reduceMod, Nat.reduceLT, Nat.reduceLeDiff, Nat.reduceSub, Nat.reduceMul, Nat.reduceBEq, Int.reduceAdd, Int.reduceSub, Int.reduceMul, Int.reduceNeg, Int.reduceLT, Int.reduceLE, Int.reduceToNat, Int.reduceEq, Int.reduceBEq, decide_eq_false hp, Bool.not_false]
    exact ⟨.refl _ _, fun h => absurd h hp⟩
theorem ans_rsopen {m : Mem} {x c : Nat} {key head b : List B8} {hx bx : AV} {e n : Int} (hs : RBox m x c key) (hh : RdB m hx head) (hb : RdB m bx b) (hl : head.length ≤ 100000 ∧ b.length ≤ 100000) :
    Ans Tryd.prog 17 [.ptr x 0, .int .i64 e, .int .i64 n, hx, bx] m fun r m' => Kept [] m m' ∧ (openP key head e n b → ∃ v, r = .tup [v, .bool true] ∧ GrB m.length m' v (turnB key e n (b.take (b.length - 32)))) ∧ (¬ openP key head e n b → r = .tup [.nils, .bool false]) := by
  refine ans_ret mixed ok17 ?_
  obtain ⟨v, hv, hav⟩ := hs.hd
  simp -implicitDefEqProofs (disch := (first | omega | (simp only [lenB, lowB_len, macB_len, tagB_len, turnB_len] <;> omega) | fail)) only [admQ, lenB, lowB_len, macB_len, tagB_len, turnB_len, aFill, AK.cls, implies_true, ↓reduceIte, reduceCtorEq, if_true, if_false, Nat.reduceAdd, Nat.reduceEqDiff, Nat.reduceMod, Nat.reduceLT, Nat.reduceLeDiff, Nat.reduceSub, Nat.reduceMul, Nat.reduceBEq, Int.reduceAdd, Int.reduceSub, Int.reduceMul, Int.reduceNeg, Int.reduceLT, Int.reduceLE, Int.reduceToNat, Int.reduceEq, Int.reduceBEq, c17, r17, hb.len]
  refine (ans_rsright e n _).mono ?_
  rintro _ M ⟨rfl, hM⟩
  subst hM
  by_cases hp : placedP e n
  · by_cases h32 : b.length < 32
    · have hno : ¬ openP key head e n b := fun h => by have := h.2.1; omega
      simp -implicitDefEqProofs (disch := (first | omega | (simp only [lenB, lowB_len, macB_len, tagB_len, turnB_len] <;> omega) | fail)) only [admQ, lenB, lowB_len, macB_len, tagB_len, turnB_len, aFill, AK.cls, implies_true, ↓reduceIte, reduceCtorEq, if_true, if_false, Nat.reduceAdd, Nat.reduceEqDiff, Nat.reduceMod, Nat.reduceLT, Nat.reduceLeDiff, Nat.reduceSub, Nat.reduceMul, Nat.reduceBEq, Int.reduceAdd, Int.reduceSub, Int.reduceMul, Int.reduceNeg, Int.reduceLT, Int.reduceLE, Int.reduceToNat, Int.reduceEq, Int.reduceBEq, decide_eq_true hp, Bool.not_true, dec_t (show (b.length : Int) - 32 < 0 by omega)]
      exact ⟨.refl _ _, fun h => absurd h hno⟩
    · rw [show (b.length : Int) - 32 = ((b.length - 32 : Nat) : Int) by omega]
      obtain ⟨q, o, cap, sl, cc, rfl, hrow, hat, hlen, hcap, hsl, htk⟩ := hb.cons (i := 0) (by omega)
      have hrr := hb.drop (k := b.length - 32) (by omega)
      simp -implicitDefEqProofs (disch := (first | omega | (simp only [lenB, lowB_len, macB_len, tagB_len, turnB_len] <;> omega) | fail)) only [admQ, lenB, lowB_len, macB_len, tagB_len, turnB_len, aFill, AK.cls, implies_true, ↓reduceIte, reduceCtorEq, if_true, if_false, Nat.reduceAdd, Nat.reduceEqDiff, Nat.reduceMod, Nat.reduceLT, Nat.reduceLeDiff, Nat.reduceSub, Nat.reduceMul, Nat.reduceBEq, Int.reduceAdd, Int.reduceSub, Int.reduceMul, Int.reduceNeg, Int.reduceLT, Int.reduceLE, Int.reduceToNat, Int.reduceEq, Int.reduceBEq, decide_eq_true hp, Bool.not_true, dec_f (show ¬ ((b.length - 32 : Nat) : Int) < 0 by omega)]
      refine (ans_rstag hs hh (hb.take (k := b.length - 32) (by omega)) hp ⟨by omega, by simp; omega⟩).mono ?_
      rintro _ m1 ⟨rfl, k1⟩
      have hgl := tagB_len key head e n (b.take (b.length - 32))
      simp -implicitDefEqProofs (disch := (first | omega | (simp only [lenB, lowB_len, macB_len, tagB_len, turnB_len] <;> omega) | fail)) only [admQ, lenB, lowB_len, macB_len, tagB_len, turnB_len, aFill, AK.cls, implies_true, ↓reduceIte, reduceCtorEq, if_true, if_false, Nat.reduceAdd, Nat.reduceEqDiff, Nat.reduceMod, Nat.reduceLT, Nat.reduceLeDiff, Nat.reduceSub, Nat.reduceMul, Nat.reduceBEq, Int.reduceAdd, Int.reduceSub, Int.reduceMul, Int.reduceNeg, Int.reduceLT, Int.reduceLE, Int.reduceToNat, Int.reduceEq, Int.reduceBEq]
      have kA := k1.more_app [Blk.row (bys (tagB key head e n (b.take (b.length - 32)))) false]
      have rT : RdB (m1 ++ [Blk.row (bys (tagB key head e n (b.take (b.length - 32)))) false]) (.sl m1.length 0 32 32 0) (tagB key head e n (b.take (b.length - 32))) := by
        have := RdB.row (m := m1 ++ [Blk.row (bys (tagB key head e n (b.take (b.length - 32)))) false]) (b := m1.length) (l := tagB key head e n (b.take (b.length - 32))) 32 0 (by rw [rowOf_app_at0]; rfl) (by omega)
        rwa [hgl] at this
      generalize hTG : tagB key head e n (b.take (b.length - 32)) = TG at *
      generalize m1 ++ [Blk.row (bys TG) false] = A at kA rT
      refine (ans_samebytes rT (hrr.kept0 kA) (by omega)).mono ?_
      rintro _ MM ⟨rfl, hM⟩
      subst hM
      by_cases hok : TG = b.drop (b.length - 32)
      · have hyes : openP key head e n b := ⟨hp, by omega, by rw [hTG]; exact hok⟩
        have hvA := kA.row hv (by simp)
        simp -implicitDefEqProofs (disch := (first | omega | (simp only [lenB, lowB_len, macB_len, tagB_len, turnB_len] <;> omega) | fail)) only [admQ, lenB, lowB_len, macB_len, tagB_len, turnB_len, aFill, AK.cls, implies_true, ↓reduceIte, reduceCtorEq, if_true, if_false, Nat.reduceAdd, Nat.reduceEqDiff, Nat.reduceMod, Nat.reduceLT, Nat.reduceLeDiff, Nat.reduceSub, Nat.reduceMul, Nat.reduceBEq, Int.reduceAdd, Int.reduceSub, Int.reduceMul, Int.reduceNeg, Int.reduceLT, Int.reduceLE, Int.reduceToNat, Int.reduceEq, Int.reduceBEq, beq_iff_eq.mpr hok, Bool.not_true, hvA]
        refine (ans_rctrxor (hs.kept0 kA).ci e n ((hb.kept0 kA).take (k := b.length - 32) (by omega)) (by simp; omega)).mono ?_
        rintro y m3 ⟨k3, g3⟩
        simp -implicitDefEqProofs (disch := (first | omega | (simp only [lenB, lowB_len, macB_len, tagB_len, turnB_len] <;> omega) | fail)) only [admQ, lenB, lowB_len, macB_len, tagB_len, turnB_len, aFill, AK.cls, implies_true, ↓reduceIte, reduceCtorEq, if_true, if_false, Nat.reduceAdd, Nat.reduceEqDiff, Nat.reduceMod, Nat.reduceLT, Nat.reduceLeDiff, Nat.reduceSub, Nat.reduceMul, Nat.reduceBEq, Int.reduceAdd, Int.reduceSub, Int.reduceMul, Int.reduceNeg, Int.reduceLT, Int.reduceLE, Int.reduceToNat, Int.reduceEq, Int.reduceBEq, k3.row hvA (by simp)]
        exact ⟨kA.trans k3, fun _ => ⟨y, rfl, g3.low kA.len⟩, fun h => absurd hyes h⟩
      · have hno : ¬ openP key head e n b := fun h => hok (by rw [← hTG]; exact h.2.2)
        simp -implicitDefEqProofs (disch := (first | omega | (simp only [lenB, lowB_len, macB_len, tagB_len, turnB_len] <;> omega) | fail)) only [admQ, lenB, lowB_len, macB_len, tagB_len, turnB_len, aFill, AK.cls, implies_true, ↓reduceIte, reduceCtorEq, if_true, if_false, Nat.reduceAdd, Nat.reduceEqDiff, Nat.reduceMod, Nat.reduceLT, Nat.reduceLeDiff, Nat.reduceSub, Nat.reduceMul, Nat.reduceBEq, Int.reduceAdd, Int.reduceSub, Int.reduceMul, Int.reduceNeg, Int.reduceLT, Int.reduceLE, Int.reduceToNat, Int.reduceEq, Int.reduceBEq, beq_eq_false_iff_ne.mpr hok, Bool.not_false]
        exact ⟨kA, fun h => absurd h hno⟩
  · have hno : ¬ openP key head e n b := fun h => hp h.1
    simp -implicitDefEqProofs (disch := (first | omega | (simp only [lenB, lowB_len, macB_len, tagB_len, turnB_len] <;> omega) | fail)) only [admQ, lenB, lowB_len, macB_len, tagB_len, turnB_len, aFill, AK.cls, implies_true, ↓reduceIte, reduceCtorEq, if_true, if_false, Nat.reduceAdd, Nat.reduceEqDiff, Nat.reduceMod, Nat.reduceLT, Nat.reduceLeDiff, Nat.reduceSub, Nat.reduceMul, Nat.reduceBEq, Int.reduceAdd, Int.reduceSub, Int.reduceMul, Int.reduceNeg, Int.reduceLT, Int.reduceLE, Int.reduceToNat, Int.reduceEq, Int.reduceBEq, decide_eq_false hp, Bool.not_false]
    exact ⟨.refl _ _, fun h => absurd h hno⟩
end Go.Proofs.YtdmdakaliilghaaDoor
end
section
/- Sealing: the chapter's example. -/
namespace Go.Proofs.YtdmdakaliilghaaDoor
open Go Go.Adm
set_option linter.unusedSimpArgs false
set_option linter.unusedVariables false
set_option maxRecDepth 100000
theorem meth_seal : methodD Tryd.prog 26 "Seal" = some 10 := by kernel_rfl
theorem meth_open : methodD Tryd.prog 26 "Open" = some 11 := by kernel_rfl
theorem turnB_back (key : List B8) (e n : Int) (b : List B8) : turnB key e n (turnB key e n b) = b := by
  apply gb_ext (by rw [turnB_len, turnB_len])
  intro i hi
  rw [turnB_len, turnB_len] at hi
  unfold turnB xorB
  rw [gb_tab _ (by rw [tab_len]; exact hi), gb_tab _ hi]
  generalize ksAt _ _ _ _ i = z
  rw [BitVec.xor_assoc, BitVec.xor_self, BitVec.xor_zero]
theorem sealB_len (key head : List B8) (e n : Int) (b : List B8) : (sealB key head e n b).length = b.length + 32 := by rw [sealB, List.length_append, turnB_len, tagB_len]
theorem sealB_take (key head : List B8) (e n : Int) (b : List B8) : (sealB key head e n b).take ((sealB key head e n b).length - 32) = turnB key e n b := by
  rw [sealB_len, sealB, Nat.add_sub_cancel]
  exact List.take_left' (turnB_len _ _ _ _)
theorem sealB_drop (key head : List B8) (e n : Int) (b : List B8) : (sealB key head e n b).drop ((sealB key head e n b).length - 32) = tagB key head e n (turnB key e n b) := by
  rw [sealB_len, sealB, Nat.add_sub_cancel]
  exact List.drop_left' (turnB_len _ _ _ _)
theorem openP_seal {key head : List B8} {e n : Int} (b : List B8) (h : placedP e n) : openP key head e n (sealB key head e n b) :=
  ⟨h, by rw [sealB_len]; omega, by rw [sealB_take, sealB_drop]⟩
theorem ans_seknown {m : Mem} (hK : rowOf m 0 = some (wds kT)) : Ans Tryd.prog 8 [] m fun r m' => r = .bool true ∧ Kept [] m m' := by
  refine ans_ret mixed ok8 ?_
  simp -implicitDefEqProofs (disch := (first | omega | (simp only [lenB, lowB_len, macB_len, tagB_len, turnB_len] <;> omega) | fail)) only [admQ, lenB, lowB_len, macB_len, tagB_len, turnB_len, aFill, AK.cls, implies_true, ↓reduceIte, reduceCtorEq, if_true, if_false, Nat.reduceAdd, Nat.reduceEqDiff, Nat.reduceMod, Nat.reduceLT, Nat.reduceLeDiff, Nat.reduceSub, Nat.reduceMul, Nat.reduceBEq, Int.reduceAdd, Int.reduceSub, Int.reduceMul, Int.reduceNeg, Int.reduceLT, Int.reduceLE, Int.reduceToNat, Int.reduceEq, Int.reduceBEq, c8, r8, opW_mark, opDW_mark, rMark, rmD_r, opW_invoke _ meth_seal, opDW_invoke _ meth_seal, opW_invoke _ meth_open, opDW_invoke _ meth_open]
  have k0 := Kept.app [] m [Blk.row [.int .u8 107, .int .u8 101, .int .u8 121] false]
  have rk : RdB (m ++ [Blk.row [.int .u8 107, .int .u8 101, .int .u8 121] false]) (.sl m.length 0 3 3 0) [107#8, 101#8, 121#8] :=
    RdB.row (l := [107#8, 101#8, 121#8]) 3 0 (by rw [rowOf_app_at0]; rfl) (by simp)
  generalize m ++ [Blk.row [.int .u8 107, .int .u8 101, .int .u8 121] false] = A at k0 rk
  generalize [107#8, 101#8, 121#8] = key at rk
  have hkl : key.length = 3 := rk.length
  refine (ans_senew (k0.row hK (by simp)) rk (by omega)).mono ?_
  rintro _ m1 ⟨x, c, kb, k, rfl, k1, hlow, hs⟩
  replace k1 := k0.trans k1
  simp -implicitDefEqProofs (disch := (first | omega | (simp only [lenB, lowB_len, macB_len, tagB_len, turnB_len] <;> omega) | fail)) only [admQ, lenB, lowB_len, macB_len, tagB_len, turnB_len, aFill, AK.cls, implies_true, ↓reduceIte, reduceCtorEq, if_true, if_false, Nat.reduceAdd, Nat.reduceEqDiff, Nat.reduceMod, Nat.reduceLT, Nat.reduceLeDiff, Nat.reduceSub, Nat.reduceMul, Nat.reduceBEq, Int.reduceAdd, Int.reduceSub, Int.reduceMul, Int.reduceNeg, Int.reduceLT, Int.reduceLE, Int.reduceToNat, Int.reduceEq, Int.reduceBEq, opW_mark, opDW_mark, rMark, rmD_r, opW_invoke _ meth_seal, opDW_invoke _ meth_seal, opW_invoke _ meth_open, opDW_invoke _ meth_open]
  have rH : RdB (m1 ++ [Blk.row [.int .u8 104, .int .u8 101, .int .u8 97, .int .u8 100] false, Blk.row [.int .u8 112, .int .u8 108, .int .u8 97, .int .u8 105, .int .u8 110] false]) (.sl m1.length 0 4 4 0) [104#8, 101#8, 97#8, 100#8] :=
    RdB.row (l := [104#8, 101#8, 97#8, 100#8]) 4 0 (by rw [rowOf_app_at0]; rfl) (by simp)
  have rP : RdB (m1 ++ [Blk.row [.int .u8 104, .int .u8 101, .int .u8 97, .int .u8 100] false, Blk.row [.int .u8 112, .int .u8 108, .int .u8 97, .int .u8 105, .int .u8 110] false]) (.sl (m1.length + 1) 0 5 5 0) [112#8, 108#8, 97#8, 105#8, 110#8] :=
    RdB.row (l := [112#8, 108#8, 97#8, 105#8, 110#8]) 5 0 (by rw [rowOf_app_at]; rfl) (by simp)
  have k2 := k1.more_app [Blk.row [.int .u8 104, .int .u8 101, .int .u8 97, .int .u8 100] false, Blk.row [.int .u8 112, .int .u8 108, .int .u8 97, .int .u8 105, .int .u8 110] false]
  have hs2 := hs.kept0 (Kept.app [] m1 [Blk.row [.int .u8 104, .int .u8 101, .int .u8 97, .int .u8 100] false, Blk.row [.int .u8 112, .int .u8 108, .int .u8 97, .int .u8 105, .int .u8 110] false])
  generalize m1 ++ [Blk.row [.int .u8 104, .int .u8 101, .int .u8 97, .int .u8 100] false, Blk.row [.int .u8 112, .int .u8 108, .int .u8 97, .int .u8 105, .int .u8 110] false] = C at rH rP k2 hs2
  have h12 : placedP 1 2 := by decide
  refine (ans_seseal (e := 1) (n := 2) hs2 rH rP (by simp)).mono ?_
  rintro r m3 ⟨k3, g3, -⟩
  replace g3 := g3 h12
  have hs3 := hs2.kept0 k3
  have K3 := k2.trans k3
  simp -implicitDefEqProofs (disch := (first | omega | (simp only [lenB, lowB_len, macB_len, tagB_len, turnB_len] <;> omega) | fail)) only [admQ, lenB, lowB_len, macB_len, tagB_len, turnB_len, aFill, AK.cls, implies_true, ↓reduceIte, reduceCtorEq, if_true, if_false, Nat.reduceAdd, Nat.reduceEqDiff, Nat.reduceMod, Nat.reduceLT, Nat.reduceLeDiff, Nat.reduceSub, Nat.reduceMul, Nat.reduceBEq, Int.reduceAdd, Int.reduceSub, Int.reduceMul, Int.reduceNeg, Int.reduceLT, Int.reduceLE, Int.reduceToNat, Int.reduceEq, Int.reduceBEq, opW_mark, opDW_mark, rMark, rmD_r, opW_invoke _ meth_seal, opDW_invoke _ meth_seal, opW_invoke _ meth_open, opDW_invoke _ meth_open]
  have rH' : RdB (m3 ++ [Blk.row [.int .u8 104, .int .u8 101, .int .u8 97, .int .u8 100] false]) (.sl m3.length 0 4 4 0) [104#8, 101#8, 97#8, 100#8] :=
    RdB.row (l := [104#8, 101#8, 97#8, 100#8]) 4 0 (by rw [rowOf_app_at0]; rfl) (by simp)
  refine (ans_seopen (e := 1) (n := 2) (hs3.kept0 (.app [] m3 _)) rH' (g3.rd.app _) ⟨by simp, by rw [sealB_len]; simp⟩).mono ?_
  rintro r2 m4 ⟨k4, g4, -⟩
  obtain ⟨p, hp1, rfl, o4⟩ := g4 (openP_seal _ h12)
  rw [sealB_take, turnB_back] at o4
  have hsl := sealB_len key [104#8, 101#8, 97#8, 100#8] 1 2 [112#8, 108#8, 97#8, 105#8, 110#8]
  have h37 : (sealB key [104#8, 101#8, 97#8, 100#8] 1 2 [112#8, 108#8, 97#8, 105#8, 110#8]).length = 37 := hsl
  clear hsl g4
  generalize sealB key [104#8, 101#8, 97#8, 100#8] 1 2 [112#8, 108#8, 97#8, 105#8, 110#8] = S at g3 h37
  have K4 := K3.trans ((Kept.app [] m3 _).trans k4)
  have hs5 := (hs3.kept0 (.app [] m3 [Blk.row [.int .u8 104, .int .u8 101, .int .u8 97, .int .u8 100] false])).kept0 k4
  rw [h37]
  have hq : ((S.length : Int) == 37) = true := by rw [h37]; rfl
  simp -implicitDefEqProofs (disch := (first | omega | (simp only [lenB, lowB_len, macB_len, tagB_len, turnB_len] <;> omega) | fail)) only [admQ, lenB, lowB_len, macB_len, tagB_len, turnB_len, aFill, AK.cls, implies_true, ↓reduceIte, reduceCtorEq, if_true, if_false, Nat.reduceAdd, Nat.reduceEqDiff, Nat.reduceMod, Nat.reduceLT, Nat.reduceLeDiff, Nat.reduceSub, Nat.reduceMul, Nat.reduceBEq, Int.reduceAdd, Int.reduceSub, Int.reduceMul, Int.reduceNeg, Int.reduceLT, Int.reduceLE, Int.reduceToNat, Int.reduceEq, Int.reduceBEq, hq, opW_mark, opDW_mark, rMark, rmD_r, opW_invoke _ meth_seal, opDW_invoke _ meth_seal, opW_invoke _ meth_open, opDW_invoke _ meth_open, g3.len]
  have rQ : RdB (m4 ++ [Blk.row [.int .u8 112, .int .u8 108, .int .u8 97, .int .u8 105, .int .u8 110] false]) (.sl m4.length 0 5 5 0) [112#8, 108#8, 97#8, 105#8, 110#8] :=
    RdB.row (l := [112#8, 108#8, 97#8, 105#8, 110#8]) 5 0 (by rw [rowOf_app_at0]; rfl) (by simp)
  have rR : RdB (m4 ++ [Blk.row [.int .u8 112, .int .u8 108, .int .u8 97, .int .u8 105, .int .u8 110] false]) (.sl p 0 5 5 0) [112#8, 108#8, 97#8, 105#8, 110#8] :=
    RdB.row (l := [112#8, 108#8, 97#8, 105#8, 110#8]) 5 0 (rowOf_own (own_app o4 _)) (by simp)
  refine (ans_samebytes rR rQ (by simp)).mono ?_
  rintro _ _ ⟨rfl, rfl⟩
  simp -implicitDefEqProofs (disch := (first | omega | (simp only [lenB, lowB_len, macB_len, tagB_len, turnB_len] <;> omega) | fail)) only [admQ, lenB, lowB_len, macB_len, tagB_len, turnB_len, aFill, AK.cls, implies_true, ↓reduceIte, reduceCtorEq, if_true, if_false, Nat.reduceAdd, Nat.reduceEqDiff, Nat.reduceMod, Nat.reduceLT, Nat.reduceLeDiff, Nat.reduceSub, Nat.reduceMul, Nat.reduceBEq, Int.reduceAdd, Int.reduceSub, Int.reduceMul, Int.reduceNeg, Int.reduceLT, Int.reduceLE, Int.reduceToNat, Int.reduceEq, Int.reduceBEq, opW_mark, opDW_mark, rMark, rmD_r, opW_invoke _ meth_seal, opDW_invoke _ meth_seal, opW_invoke _ meth_open, opDW_invoke _ meth_open, beq_self_eq_true]
  refine (ans_seseal (e := 1) (n := 1099511627777) (hs5.kept0 (.app [] m4 _)) (.nils _) (.nils _) (by simp)).mono ?_
  rintro r6 m6 ⟨k6, -, g6⟩
  have hr6 := g6 (by decide)
  subst hr6
  simp -implicitDefEqProofs (disch := (first | omega | (simp only [lenB, lowB_len, macB_len, tagB_len, turnB_len] <;> omega) | fail)) only [admQ, lenB, lowB_len, macB_len, tagB_len, turnB_len, aFill, AK.cls, implies_true, ↓reduceIte, reduceCtorEq, if_true, if_false, Nat.reduceAdd, Nat.reduceEqDiff, Nat.reduceMod, Nat.reduceLT, Nat.reduceLeDiff, Nat.reduceSub, Nat.reduceMul, Nat.reduceBEq, Int.reduceAdd, Int.reduceSub, Int.reduceMul, Int.reduceNeg, Int.reduceLT, Int.reduceLE, Int.reduceToNat, Int.reduceEq, Int.reduceBEq]
  exact K4.trans ((Kept.app [] m4 _).trans k6)
end Go.Proofs.YtdmdakaliilghaaDoor
end
section
/- Sealing: what was sealed is opened as it was. -/
namespace Go.Proofs.YtdmdakaliilghaaDoor
open Go Go.Adm
set_option linter.unusedSimpArgs false
set_option linter.unusedVariables false
set_option maxRecDepth 100000
theorem ans_SealBack {m : Mem} {x h y : AV} {key head plain : List B8} {e n : Int} (hK : rowOf m 0 = some (wds kT)) (hx : RdB m x key) (hh : RdB m h head) (hy : RdB m y plain) :
    Ans Tryd.prog 3 [x, .agg [.int .i64 e, .int .i64 n, h], y] m fun r m' => r = .bool true ∧ Kept [] m m' := by
  refine ans_ret mixed ok3 ?_
  have k0 := Kept.app [] m [Blk.row [.int .i64 e, .int .i64 n, h] false]
  have o0 : own (m ++ [Blk.row [.int .i64 e, .int .i64 n, h] false]) m.length = some [.int .i64 e, .int .i64 n, h] := by rw [own_app_at0]; rfl
  have known : ∀ M, Kept [] (m ++ [Blk.row [.int .i64 e, .int .i64 n, h] false]) M → Ans Tryd.prog 8 [] M fun r m' => r = .bool true ∧ Kept [] m m' := fun M hk =>
    (ans_seknown ((k0.trans hk).row hK (by simp))).mono fun r m' ⟨h1, h2⟩ => ⟨h1, (k0.trans hk).trans h2⟩
  by_cases h1 : (key.length : Int) > 4096
  · simp -implicitDefEqProofs (disch := (first | omega | (simp only [lenB, lowB_len, macB_len, tagB_len, turnB_len] <;> omega) | fail)) only [admQ, lenB, lowB_len, macB_len, tagB_len, turnB_len, aFill, AK.cls, implies_true, ↓reduceIte, reduceCtorEq, if_true, if_false, Nat.reduceAdd, Nat.reduceEqDiff, Nat.reduceMod, Nat.reduceLT, Nat.reduceLeDiff, Nat.reduceSub, Nat.reduceMul, Nat.reduceBEq, Int.reduceAdd, Int.reduceSub, Int.reduceMul, Int.reduceNeg, Int.reduceLT, Int.reduceLE, Int.reduceToNat, Int.reduceEq, Int.reduceBEq, c3, r3, hx.len, dec_t h1]
    refine (known _ (.refl _ _)).mono ?_
    rintro _ m1 ⟨rfl, k1⟩
    simp -implicitDefEqProofs (disch := (first | omega | (simp only [lenB, lowB_len, macB_len, tagB_len, turnB_len] <;> omega) | fail)) only [admQ, lenB, lowB_len, macB_len, tagB_len, turnB_len, aFill, AK.cls, implies_true, ↓reduceIte, reduceCtorEq, if_true, if_false, Nat.reduceAdd, Nat.reduceEqDiff, Nat.reduceMod, Nat.reduceLT, Nat.reduceLeDiff, Nat.reduceSub, Nat.reduceMul, Nat.reduceBEq, Int.reduceAdd, Int.reduceSub, Int.reduceMul, Int.reduceNeg, Int.reduceLT, Int.reduceLE, Int.reduceToNat, Int.reduceEq, Int.reduceBEq]
    exact k1
  by_cases h2 : (head.length : Int) > 4096
  · simp -implicitDefEqProofs (disch := (first | omega | (simp only [lenB, lowB_len, macB_len, tagB_len, turnB_len] <;> omega) | fail)) only [admQ, lenB, lowB_len, macB_len, tagB_len, turnB_len, aFill, AK.cls, implies_true, ↓reduceIte, reduceCtorEq, if_true, if_false, Nat.reduceAdd, Nat.reduceEqDiff, Nat.reduceMod, Nat.reduceLT, Nat.reduceLeDiff, Nat.reduceSub, Nat.reduceMul, Nat.reduceBEq, Int.reduceAdd, Int.reduceSub, Int.reduceMul, Int.reduceNeg, Int.reduceLT, Int.reduceLE, Int.reduceToNat, Int.reduceEq, Int.reduceBEq, c3, r3, hx.len, hh.len, dec_f h1, dec_t h2]
    refine (known _ (.refl _ _)).mono ?_
    rintro _ m1 ⟨rfl, k1⟩
    simp -implicitDefEqProofs (disch := (first | omega | (simp only [lenB, lowB_len, macB_len, tagB_len, turnB_len] <;> omega) | fail)) only [admQ, lenB, lowB_len, macB_len, tagB_len, turnB_len, aFill, AK.cls, implies_true, ↓reduceIte, reduceCtorEq, if_true, if_false, Nat.reduceAdd, Nat.reduceEqDiff, Nat.reduceMod, Nat.reduceLT, Nat.reduceLeDiff, Nat.reduceSub, Nat.reduceMul, Nat.reduceBEq, Int.reduceAdd, Int.reduceSub, Int.reduceMul, Int.reduceNeg, Int.reduceLT, Int.reduceLE, Int.reduceToNat, Int.reduceEq, Int.reduceBEq]
    exact k1
  by_cases h3 : (plain.length : Int) > 4096
  · simp -implicitDefEqProofs (disch := (first | omega | (simp only [lenB, lowB_len, macB_len, tagB_len, turnB_len] <;> omega) | fail)) only [admQ, lenB, lowB_len, macB_len, tagB_len, turnB_len, aFill, AK.cls, implies_true, ↓reduceIte, reduceCtorEq, if_true, if_false, Nat.reduceAdd, Nat.reduceEqDiff, Nat.reduceMod, Nat.reduceLT, Nat.reduceLeDiff, Nat.reduceSub, Nat.reduceMul, Nat.reduceBEq, Int.reduceAdd, Int.reduceSub, Int.reduceMul, Int.reduceNeg, Int.reduceLT, Int.reduceLE, Int.reduceToNat, Int.reduceEq, Int.reduceBEq, c3, r3, hx.len, hh.len, hy.len, dec_f h1, dec_f h2, dec_t h3]
    refine (known _ (.refl _ _)).mono ?_
    rintro _ m1 ⟨rfl, k1⟩
    simp -implicitDefEqProofs (disch := (first | omega | (simp only [lenB, lowB_len, macB_len, tagB_len, turnB_len] <;> omega) | fail)) only [admQ, lenB, lowB_len, macB_len, tagB_len, turnB_len, aFill, AK.cls, implies_true, ↓reduceIte, reduceCtorEq, if_true, if_false, Nat.reduceAdd, Nat.reduceEqDiff, Nat.reduceMod, Nat.reduceLT, Nat.reduceLeDiff, Nat.reduceSub, Nat.reduceMul, Nat.reduceBEq, Int.reduceAdd, Int.reduceSub, Int.reduceMul, Int.reduceNeg, Int.reduceLT, Int.reduceLE, Int.reduceToNat, Int.reduceEq, Int.reduceBEq]
    exact k1
  simp -implicitDefEqProofs (disch := (first | omega | (simp only [lenB, lowB_len, macB_len, tagB_len, turnB_len] <;> omega) | fail)) only [admQ, lenB, lowB_len, macB_len, tagB_len, turnB_len, aFill, AK.cls, implies_true, ↓reduceIte, reduceCtorEq, if_true, if_false, Nat.reduceAdd, Nat.reduceEqDiff, Nat.reduceMod, Nat.reduceLT, Nat.reduceLeDiff, Nat.reduceSub, Nat.reduceMul, Nat.reduceBEq, Int.reduceAdd, Int.reduceSub, Int.reduceMul, Int.reduceNeg, Int.reduceLT, Int.reduceLE, Int.reduceToNat, Int.reduceEq, Int.reduceBEq, c3, r3, hx.len, hh.len, hy.len, dec_f h1, dec_f h2, dec_f h3]
  generalize m ++ [Blk.row [.int .i64 e, .int .i64 n, h] false] = A at k0 o0 known
  refine (ans_senew (k0.row hK (by simp)) (hx.kept0 k0) (by omega)).mono ?_
  rintro _ m1 ⟨b, c, kb, k, rfl, k1, hlow, hs⟩
  have r1 := rowOf_own (k1.own o0 (by simp))
  simp -implicitDefEqProofs (disch := (first | omega | (simp only [lenB, lowB_len, macB_len, tagB_len, turnB_len] <;> omega) | fail)) only [admQ, lenB, lowB_len, macB_len, tagB_len, turnB_len, aFill, AK.cls, implies_true, ↓reduceIte, reduceCtorEq, if_true, if_false, Nat.reduceAdd, Nat.reduceEqDiff, Nat.reduceMod, Nat.reduceLT, Nat.reduceLeDiff, Nat.reduceSub, Nat.reduceMul, Nat.reduceBEq, Int.reduceAdd, Int.reduceSub, Int.reduceMul, Int.reduceNeg, Int.reduceLT, Int.reduceLE, Int.reduceToNat, Int.reduceEq, Int.reduceBEq, r1]
  refine (ans_seseal hs (hh.kept0 (k0.trans k1)) (hy.kept0 (k0.trans k1)) ⟨by omega, by omega⟩).mono ?_
  rintro r m2 ⟨k2, g2, g2'⟩
  have K2 := k1.trans k2
  have r2 := rowOf_own (K2.own o0 (by simp))
  simp -implicitDefEqProofs (disch := (first | omega | (simp only [lenB, lowB_len, macB_len, tagB_len, turnB_len] <;> omega) | fail)) only [admQ, lenB, lowB_len, macB_len, tagB_len, turnB_len, aFill, AK.cls, implies_true, ↓reduceIte, reduceCtorEq, if_true, if_false, Nat.reduceAdd, Nat.reduceEqDiff, Nat.reduceMod, Nat.reduceLT, Nat.reduceLeDiff, Nat.reduceSub, Nat.reduceMul, Nat.reduceBEq, Int.reduceAdd, Int.reduceSub, Int.reduceMul, Int.reduceNeg, Int.reduceLT, Int.reduceLE, Int.reduceToNat, Int.reduceEq, Int.reduceBEq, r2]
  by_cases hp : placedP e n
  · replace g2 := g2 hp
    refine (ans_seopen (hs.kept0 k2) (hh.kept0 (k0.trans K2)) g2.rd ⟨by omega, by rw [sealB_len]; omega⟩).mono ?_
    rintro _ m3 ⟨k3, g3, -⟩
    obtain ⟨p, hp1, rfl, o3⟩ := g3 (openP_seal _ hp)
    rw [sealB_take, turnB_back] at o3
    have hsl := sealB_len key head e n plain
    have K3 := K2.trans k3
    have r3 := rowOf_own (K3.own o0 (by simp))
    have hmin : decide ((if n < e then n else e) < 0) = false := dec_f (by unfold placedP at hp; split <;> omega)
    have hmax : decide ((if e < n then n else e) > 1099511627776) = false := dec_f (by unfold placedP at hp; split <;> omega)
    have hq : (((sealB key head e n plain).length : Int) == ((plain.length + 32 : Nat) : Int)) = true := by rw [hsl]; exact beq_self_eq_true _
    rw [show (sealB key head e n plain).length - 32 = plain.length by omega]
    have rP := RdB.row (m := m3) (l := plain) plain.length 0 (rowOf_own o3) (Nat.le_refl _)
    simp -implicitDefEqProofs (disch := (first | omega | (simp only [lenB, lowB_len, macB_len, tagB_len, turnB_len] <;> omega) | fail)) only [admQ, lenB, lowB_len, macB_len, tagB_len, turnB_len, aFill, AK.cls, implies_true, ↓reduceIte, reduceCtorEq, if_true, if_false, Nat.reduceAdd, Nat.reduceEqDiff, Nat.reduceMod, Nat.reduceLT, Nat.reduceLeDiff, Nat.reduceSub, Nat.reduceMul, Nat.reduceBEq, Int.reduceAdd, Int.reduceSub, Int.reduceMul, Int.reduceNeg, Int.reduceLT, Int.reduceLE, Int.reduceToNat, Int.reduceEq, Int.reduceBEq, r3, hmin, hmax, (g2.rd.kept0 k3).len, hy.len, hq]
    refine (ans_samebytes rP (hy.kept0 (k0.trans K3)) (by omega)).mono ?_
    rintro _ _ ⟨rfl, rfl⟩
    simp -implicitDefEqProofs (disch := (first | omega | (simp only [lenB, lowB_len, macB_len, tagB_len, turnB_len] <;> omega) | fail)) only [admQ, lenB, lowB_len, macB_len, tagB_len, turnB_len, aFill, AK.cls, implies_true, ↓reduceIte, reduceCtorEq, if_true, if_false, Nat.reduceAdd, Nat.reduceEqDiff, Nat.reduceMod, Nat.reduceLT, Nat.reduceLeDiff, Nat.reduceSub, Nat.reduceMul, Nat.reduceBEq, Int.reduceAdd, Int.reduceSub, Int.reduceMul, Int.reduceNeg, Int.reduceLT, Int.reduceLE, Int.reduceToNat, Int.reduceEq, Int.reduceBEq, beq_self_eq_true]
    refine (known _ K3).mono ?_
    rintro _ m4 ⟨rfl, k4⟩
    simp -implicitDefEqProofs (disch := (first | omega | (simp only [lenB, lowB_len, macB_len, tagB_len, turnB_len] <;> omega) | fail)) only [admQ, lenB, lowB_len, macB_len, tagB_len, turnB_len, aFill, AK.cls, implies_true, ↓reduceIte, reduceCtorEq, if_true, if_false, Nat.reduceAdd, Nat.reduceEqDiff, Nat.reduceMod, Nat.reduceLT, Nat.reduceLeDiff, Nat.reduceSub, Nat.reduceMul, Nat.reduceBEq, Int.reduceAdd, Int.reduceSub, Int.reduceMul, Int.reduceNeg, Int.reduceLT, Int.reduceLE, Int.reduceToNat, Int.reduceEq, Int.reduceBEq]
    exact k4
  · have hr := g2' hp
    subst hr
    refine (ans_seopen (b := []) (hs.kept0 k2) (hh.kept0 (k0.trans K2)) (.nils _) ⟨by omega, by simp⟩).mono ?_
    rintro _ m3 ⟨k3, -, g3⟩
    have hr3 := g3 (fun h => hp h.1)
    subst hr3
    have K3 := K2.trans k3
    have r3 := rowOf_own (K3.own o0 (by simp))
    by_cases hm : (if n < e then n else e) < 0
    · simp -implicitDefEqProofs (disch := (first | omega | (simp only [lenB, lowB_len, macB_len, tagB_len, turnB_len] <;> omega) | fail)) only [admQ, lenB, lowB_len, macB_len, tagB_len, turnB_len, aFill, AK.cls, implies_true, ↓reduceIte, reduceCtorEq, if_true, if_false, Nat.reduceAdd, Nat.reduceEqDiff, Nat.reduceMod, Nat.reduceLT, Nat.reduceLeDiff, Nat.reduceSub, Nat.reduceMul, Nat.reduceBEq, Int.reduceAdd, Int.reduceSub, Int.reduceMul, Int.reduceNeg, Int.reduceLT, Int.reduceLE, Int.reduceToNat, Int.reduceEq, Int.reduceBEq, r3, dec_t hm]
      refine (known _ K3).mono ?_
      rintro _ m4 ⟨rfl, k4⟩
      simp -implicitDefEqProofs (disch := (first | omega | (simp only [lenB, lowB_len, macB_len, tagB_len, turnB_len] <;> omega) | fail)) only [admQ, lenB, lowB_len, macB_len, tagB_len, turnB_len, aFill, AK.cls, implies_true, ↓reduceIte, reduceCtorEq, if_true, if_false, Nat.reduceAdd, Nat.reduceEqDiff, Nat.reduceMod, Nat.reduceLT, Nat.reduceLeDiff, Nat.reduceSub, Nat.reduceMul, Nat.reduceBEq, Int.reduceAdd, Int.reduceSub, Int.reduceMul, Int.reduceNeg, Int.reduceLT, Int.reduceLE, Int.reduceToNat, Int.reduceEq, Int.reduceBEq]
      exact k4
    · have hx : (if e < n then n else e) > 1099511627776 := by unfold placedP at hp; split at hm <;> split <;> omega
      simp -implicitDefEqProofs (disch := (first | omega | (simp only [lenB, lowB_len, macB_len, tagB_len, turnB_len] <;> omega) | fail)) only [admQ, lenB, lowB_len, macB_len, tagB_len, turnB_len, aFill, AK.cls, implies_true, ↓reduceIte, reduceCtorEq, if_true, if_false, Nat.reduceAdd, Nat.reduceEqDiff, Nat.reduceMod, Nat.reduceLT, Nat.reduceLeDiff, Nat.reduceSub, Nat.reduceMul, Nat.reduceBEq, Int.reduceAdd, Int.reduceSub, Int.reduceMul, Int.reduceNeg, Int.reduceLT, Int.reduceLE, Int.reduceToNat, Int.reduceEq, Int.reduceBEq, r3, dec_f hm, dec_t hx]
      refine (known _ K3).mono ?_
      rintro _ m4 ⟨rfl, k4⟩
      simp -implicitDefEqProofs (disch := (first | omega | (simp only [lenB, lowB_len, macB_len, tagB_len, turnB_len] <;> omega) | fail)) only [admQ, lenB, lowB_len, macB_len, tagB_len, turnB_len, aFill, AK.cls, implies_true, ↓reduceIte, reduceCtorEq, if_true, if_false, Nat.reduceAdd, Nat.reduceEqDiff, Nat.reduceMod, Nat.reduceLT, Nat.reduceLeDiff, Nat.reduceSub, Nat.reduceMul, Nat.reduceBEq, Int.reduceAdd, Int.reduceSub, Int.reduceMul, Int.reduceNeg, Int.reduceLT, Int.reduceLE, Int.reduceToNat, Int.reduceEq, Int.reduceBEq]
      exact k4
end Go.Proofs.YtdmdakaliilghaaDoor
end
section
/- Sealing: what is opened, sealed again, is just that. -/
namespace Go.Proofs.YtdmdakaliilghaaDoor
open Go Go.Adm
set_option linter.unusedSimpArgs false
set_option linter.unusedVariables false
set_option maxRecDepth 100000
theorem seal_open {key head : List B8} {e n : Int} {s : List B8} (h : openP key head e n s) : sealB key head e n (turnB key e n (s.take (s.length - 32))) = s := by
  rw [sealB, turnB_back, h.2.2, List.take_append_drop]
theorem ans_SealOnly {m : Mem} {x h y : AV} {key head plain : List B8} {e n : Int} (hK : rowOf m 0 = some (wds kT)) (hx : RdB m x key) (hh : RdB m h head) (hy : RdB m y plain) :
    Ans Tryd.prog 4 [x, .agg [.int .i64 e, .int .i64 n, h], y] m fun r m' => r = .bool true ∧ Kept [] m m' := by
  refine ans_ret mixed ok4 ?_
  have k0 := Kept.app [] m [Blk.row [.int .i64 e, .int .i64 n, h] false]
  have o0 : own (m ++ [Blk.row [.int .i64 e, .int .i64 n, h] false]) m.length = some [.int .i64 e, .int .i64 n, h] := by rw [own_app_at0]; rfl
  have known : ∀ M, Kept [] (m ++ [Blk.row [.int .i64 e, .int .i64 n, h] false]) M → Ans Tryd.prog 8 [] M fun r m' => r = .bool true ∧ Kept [] m m' := fun M hk =>
    (ans_seknown ((k0.trans hk).row hK (by simp))).mono fun r m' ⟨h1, h2⟩ => ⟨h1, (k0.trans hk).trans h2⟩
  by_cases h1 : (key.length : Int) > 4096
  · simp -implicitDefEqProofs (disch := (first | omega | (simp only [lenB, lowB_len, macB_len, tagB_len, turnB_len] <;> omega) | fail)) only [admQ, lenB, lowB_len, macB_len, tagB_len, turnB_len, aFill, AK.cls, implies_true, ↓reduceIte, reduceCtorEq, if_true, if_false, Nat.reduceAdd, Nat.reduceEqDiff, Nat.reduceMod, Nat.reduceLT, Nat.reduceLeDiff, Nat.reduceSub, Nat.reduceMul, Nat.reduceBEq, Int.reduceAdd, Int.reduceSub, Int.reduceMul, Int.reduceNeg, Int.reduceLT, Int.reduceLE, Int.reduceToNat, Int.reduceEq, Int.reduceBEq, c4, r4, hx.len, dec_t h1]
    refine (known _ (.refl _ _)).mono ?_
    rintro _ m1 ⟨rfl, k1⟩
    simp -implicitDefEqProofs (disch := (first | omega | (simp only [lenB, lowB_len, macB_len, tagB_len, turnB_len] <;> omega) | fail)) only [admQ, lenB, lowB_len, macB_len, tagB_len, turnB_len, aFill, AK.cls, implies_true, ↓reduceIte, reduceCtorEq, if_true, if_false, Nat.reduceAdd, Nat.reduceEqDiff, Nat.reduceMod, Nat.reduceLT, Nat.reduceLeDiff, Nat.reduceSub, Nat.reduceMul, Nat.reduceBEq, Int.reduceAdd, Int.reduceSub, Int.reduceMul, Int.reduceNeg, Int.reduceLT, Int.reduceLE, Int.reduceToNat, Int.reduceEq, Int.reduceBEq]
    exact k1
  by_cases h2 : (head.length : Int) > 4096
  · simp -implicitDefEqProofs (disch := (first | omega | (simp only [lenB, lowB_len, macB_len, tagB_len, turnB_len] <;> omega) | fail)) only [admQ, lenB, lowB_len, macB_len, tagB_len, turnB_len, aFill, AK.cls, implies_true, ↓reduceIte, reduceCtorEq, if_true, if_false, Nat.reduceAdd, Nat.reduceEqDiff, Nat.reduceMod, Nat.reduceLT, Nat.reduceLeDiff, Nat.reduceSub, Nat.reduceMul, Nat.reduceBEq, Int.reduceAdd, Int.reduceSub, Int.reduceMul, Int.reduceNeg, Int.reduceLT, Int.reduceLE, Int.reduceToNat, Int.reduceEq, Int.reduceBEq, c4, r4, hx.len, hh.len, dec_f h1, dec_t h2]
    refine (known _ (.refl _ _)).mono ?_
    rintro _ m1 ⟨rfl, k1⟩
    simp -implicitDefEqProofs (disch := (first | omega | (simp only [lenB, lowB_len, macB_len, tagB_len, turnB_len] <;> omega) | fail)) only [admQ, lenB, lowB_len, macB_len, tagB_len, turnB_len, aFill, AK.cls, implies_true, ↓reduceIte, reduceCtorEq, if_true, if_false, Nat.reduceAdd, Nat.reduceEqDiff, Nat.reduceMod, Nat.reduceLT, Nat.reduceLeDiff, Nat.reduceSub, Nat.reduceMul, Nat.reduceBEq, Int.reduceAdd, Int.reduceSub, Int.reduceMul, Int.reduceNeg, Int.reduceLT, Int.reduceLE, Int.reduceToNat, Int.reduceEq, Int.reduceBEq]
    exact k1
  by_cases h3 : (plain.length : Int) > 4096
  · simp -implicitDefEqProofs (disch := (first | omega | (simp only [lenB, lowB_len, macB_len, tagB_len, turnB_len] <;> omega) | fail)) only [admQ, lenB, lowB_len, macB_len, tagB_len, turnB_len, aFill, AK.cls, implies_true, ↓reduceIte, reduceCtorEq, if_true, if_false, Nat.reduceAdd, Nat.reduceEqDiff, Nat.reduceMod, Nat.reduceLT, Nat.reduceLeDiff, Nat.reduceSub, Nat.reduceMul, Nat.reduceBEq, Int.reduceAdd, Int.reduceSub, Int.reduceMul, Int.reduceNeg, Int.reduceLT, Int.reduceLE, Int.reduceToNat, Int.reduceEq, Int.reduceBEq, c4, r4, hx.len, hh.len, hy.len, dec_f h1, dec_f h2, dec_t h3]
    refine (known _ (.refl _ _)).mono ?_
    rintro _ m1 ⟨rfl, k1⟩
    simp -implicitDefEqProofs (disch := (first | omega | (simp only [lenB, lowB_len, macB_len, tagB_len, turnB_len] <;> omega) | fail)) only [admQ, lenB, lowB_len, macB_len, tagB_len, turnB_len, aFill, AK.cls, implies_true, ↓reduceIte, reduceCtorEq, if_true, if_false, Nat.reduceAdd, Nat.reduceEqDiff, Nat.reduceMod, Nat.reduceLT, Nat.reduceLeDiff, Nat.reduceSub, Nat.reduceMul, Nat.reduceBEq, Int.reduceAdd, Int.reduceSub, Int.reduceMul, Int.reduceNeg, Int.reduceLT, Int.reduceLE, Int.reduceToNat, Int.reduceEq, Int.reduceBEq]
    exact k1
  simp -implicitDefEqProofs (disch := (first | omega | (simp only [lenB, lowB_len, macB_len, tagB_len, turnB_len] <;> omega) | fail)) only [admQ, lenB, lowB_len, macB_len, tagB_len, turnB_len, aFill, AK.cls, implies_true, ↓reduceIte, reduceCtorEq, if_true, if_false, Nat.reduceAdd, Nat.reduceEqDiff, Nat.reduceMod, Nat.reduceLT, Nat.reduceLeDiff, Nat.reduceSub, Nat.reduceMul, Nat.reduceBEq, Int.reduceAdd, Int.reduceSub, Int.reduceMul, Int.reduceNeg, Int.reduceLT, Int.reduceLE, Int.reduceToNat, Int.reduceEq, Int.reduceBEq, c4, r4, hx.len, hh.len, hy.len, dec_f h1, dec_f h2, dec_f h3]
  generalize m ++ [Blk.row [.int .i64 e, .int .i64 n, h] false] = A at k0 o0 known
  refine (ans_senew (k0.row hK (by simp)) (hx.kept0 k0) (by omega)).mono ?_
  rintro _ m1 ⟨b, c, kb, k, rfl, k1, hlow, hs⟩
  have r1 := rowOf_own (k1.own o0 (by simp))
  simp -implicitDefEqProofs (disch := (first | omega | (simp only [lenB, lowB_len, macB_len, tagB_len, turnB_len] <;> omega) | fail)) only [admQ, lenB, lowB_len, macB_len, tagB_len, turnB_len, aFill, AK.cls, implies_true, ↓reduceIte, reduceCtorEq, if_true, if_false, Nat.reduceAdd, Nat.reduceEqDiff, Nat.reduceMod, Nat.reduceLT, Nat.reduceLeDiff, Nat.reduceSub, Nat.reduceMul, Nat.reduceBEq, Int.reduceAdd, Int.reduceSub, Int.reduceMul, Int.reduceNeg, Int.reduceLT, Int.reduceLE, Int.reduceToNat, Int.reduceEq, Int.reduceBEq, r1]
  refine (ans_seopen hs (hh.kept0 (k0.trans k1)) (hy.kept0 (k0.trans k1)) ⟨by omega, by omega⟩).mono ?_
  rintro r m2 ⟨k2, g2, g2'⟩
  have K2 := k1.trans k2
  have r2 := rowOf_own (K2.own o0 (by simp))
  by_cases hp : openP key head e n plain
  · obtain ⟨p, hp1, rfl, o2⟩ := g2 hp
    have hl32 := hp.2.1
    have hq : ((plain.length : Int) == ((plain.length - 32 + 32 : Nat) : Int)) = true := by rw [Nat.sub_add_cancel hl32]; exact beq_self_eq_true _
    simp -implicitDefEqProofs (disch := (first | omega | (simp only [lenB, lowB_len, macB_len, tagB_len, turnB_len] <;> omega) | fail)) only [admQ, lenB, lowB_len, macB_len, tagB_len, turnB_len, aFill, AK.cls, implies_true, ↓reduceIte, reduceCtorEq, if_true, if_false, Nat.reduceAdd, Nat.reduceEqDiff, Nat.reduceMod, Nat.reduceLT, Nat.reduceLeDiff, Nat.reduceSub, Nat.reduceMul, Nat.reduceBEq, Int.reduceAdd, Int.reduceSub, Int.reduceMul, Int.reduceNeg, Int.reduceLT, Int.reduceLE, Int.reduceToNat, Int.reduceEq, Int.reduceBEq, r2, Bool.not_true, hy.len, hq]
    have ht8 : (turnB key e n (plain.take (plain.length - 32))).length = plain.length - 32 := by rw [turnB_len]; simp
    have rP := RdB.row (m := m2) (l := turnB key e n (plain.take (plain.length - 32))) (plain.length - 32) 0 (rowOf_own o2) (by omega)
    rw [ht8] at rP
    refine (ans_seseal (hs.kept0 k2) (hh.kept0 (k0.trans K2)) rP ⟨by omega, by omega⟩).mono ?_
    rintro r m3 ⟨k3, g3, -⟩
    replace g3 := g3 hp.1
    rw [seal_open hp] at g3
    have K3 := K2.trans k3
    simp -implicitDefEqProofs (disch := (first | omega | (simp only [lenB, lowB_len, macB_len, tagB_len, turnB_len] <;> omega) | fail)) only [admQ, lenB, lowB_len, macB_len, tagB_len, turnB_len, aFill, AK.cls, implies_true, ↓reduceIte, reduceCtorEq, if_true, if_false, Nat.reduceAdd, Nat.reduceEqDiff, Nat.reduceMod, Nat.reduceLT, Nat.reduceLeDiff, Nat.reduceSub, Nat.reduceMul, Nat.reduceBEq, Int.reduceAdd, Int.reduceSub, Int.reduceMul, Int.reduceNeg, Int.reduceLT, Int.reduceLE, Int.reduceToNat, Int.reduceEq, Int.reduceBEq]
    refine (ans_samebytes g3.rd (hy.kept0 (k0.trans K3)) (by omega)).mono ?_
    rintro _ _ ⟨rfl, rfl⟩
    simp -implicitDefEqProofs (disch := (first | omega | (simp only [lenB, lowB_len, macB_len, tagB_len, turnB_len] <;> omega) | fail)) only [admQ, lenB, lowB_len, macB_len, tagB_len, turnB_len, aFill, AK.cls, implies_true, ↓reduceIte, reduceCtorEq, if_true, if_false, Nat.reduceAdd, Nat.reduceEqDiff, Nat.reduceMod, Nat.reduceLT, Nat.reduceLeDiff, Nat.reduceSub, Nat.reduceMul, Nat.reduceBEq, Int.reduceAdd, Int.reduceSub, Int.reduceMul, Int.reduceNeg, Int.reduceLT, Int.reduceLE, Int.reduceToNat, Int.reduceEq, Int.reduceBEq, beq_self_eq_true]
    refine (known _ K3).mono ?_
    rintro _ m4 ⟨rfl, k4⟩
    simp -implicitDefEqProofs (disch := (first | omega | (simp only [lenB, lowB_len, macB_len, tagB_len, turnB_len] <;> omega) | fail)) only [admQ, lenB, lowB_len, macB_len, tagB_len, turnB_len, aFill, AK.cls, implies_true, ↓reduceIte, reduceCtorEq, if_true, if_false, Nat.reduceAdd, Nat.reduceEqDiff, Nat.reduceMod, Nat.reduceLT, Nat.reduceLeDiff, Nat.reduceSub, Nat.reduceMul, Nat.reduceBEq, Int.reduceAdd, Int.reduceSub, Int.reduceMul, Int.reduceNeg, Int.reduceLT, Int.reduceLE, Int.reduceToNat, Int.reduceEq, Int.reduceBEq]
    exact k4
  · have hr := g2' hp
    subst hr
    simp -implicitDefEqProofs (disch := (first | omega | (simp only [lenB, lowB_len, macB_len, tagB_len, turnB_len] <;> omega) | fail)) only [admQ, lenB, lowB_len, macB_len, tagB_len, turnB_len, aFill, AK.cls, implies_true, ↓reduceIte, reduceCtorEq, if_true, if_false, Nat.reduceAdd, Nat.reduceEqDiff, Nat.reduceMod, Nat.reduceLT, Nat.reduceLeDiff, Nat.reduceSub, Nat.reduceMul, Nat.reduceBEq, Int.reduceAdd, Int.reduceSub, Int.reduceMul, Int.reduceNeg, Int.reduceLT, Int.reduceLE, Int.reduceToNat, Int.reduceEq, Int.reduceBEq, r2, Bool.not_false]
    refine (known _ K2).mono ?_
    rintro _ m4 ⟨rfl, k4⟩
    simp -implicitDefEqProofs (disch := (first | omega | (simp only [lenB, lowB_len, macB_len, tagB_len, turnB_len] <;> omega) | fail)) only [admQ, lenB, lowB_len, macB_len, tagB_len, turnB_len, aFill, AK.cls, implies_true, ↓reduceIte, reduceCtorEq, if_true, if_false, Nat.reduceAdd, Nat.reduceEqDiff, Nat.reduceMod, Nat.reduceLT, Nat.reduceLeDiff, Nat.reduceSub, Nat.reduceMul, Nat.reduceBEq, Int.reduceAdd, Int.reduceSub, Int.reduceMul, Int.reduceNeg, Int.reduceLT, Int.reduceLE, Int.reduceToNat, Int.reduceEq, Int.reduceBEq]
    exact k4
end Go.Proofs.YtdmdakaliilghaaDoor
end
section
/- Sealing: as the document says. -/
namespace Go.Proofs.YtdmdakaliilghaaDoor
open Go Go.Adm
set_option linter.unusedSimpArgs false
set_option linter.unusedVariables false
set_option maxRecDepth 100000
/-- A slice that may be spoilt: nil, or all of a block of its own. -/
def SP (m0 : Nat) (m : Mem) (x : AV) (l : List B8) : Prop := (x = .nils ∧ l = []) ∨ ∃ b cap s, x = .sl b 0 l.length cap s ∧ own m b = some (bys l) ∧ m0 ≤ b ∧ l.length ≤ cap ∧ (s = 0 ∨ s = 1)
theorem SP.rd {m0 : Nat} {m : Mem} {x : AV} {l : List B8} (h : SP m0 m x l) : RdB m x l := by
  rcases h with ⟨rfl, rfl⟩ | ⟨b, cap, s, rfl, ho, _, hc, hs⟩
  · exact .nils _
  · exact .row cap s (rowOf_own ho) hc hs
theorem SP.kept {m0 : Nat} {m m' : Mem} {x : AV} {l : List B8} {X : List Nat} (h : SP m0 m x l) (hk : Kept X m m') (hX : ∀ b ∈ blkOf x, b ∉ X) : SP m0 m' x l := by
  rcases h with h | ⟨b, cap, s, rfl, ho, h3, h4⟩
  · exact .inl h
  · exact .inr ⟨b, cap, s, rfl, hk.own ho (hX b (by simp [blkOf])), h3, h4⟩
theorem SP.kept0 {m0 : Nat} {m m' : Mem} {x : AV} {l : List B8} (h : SP m0 m x l) (hk : Kept [] m m') : SP m0 m' x l := h.kept hk (by simp)
theorem SP.low {m0 : Nat} {m : Mem} {x : AV} {l : List B8} (h : SP m0 m x l) : ∀ b ∈ blkOf x, m0 ≤ b ∧ b < m.length := by
  rcases h with ⟨rfl, _⟩ | ⟨b, cap, s, rfl, ho, h3, h4⟩
  · simp [blkOf]
  · simp only [blkOf, List.mem_singleton]; rintro b rfl; exact ⟨h3, own_lt ho⟩
theorem ans_spoilnils (m : Mem) : Ans Tryd.prog 16 [.nils] m fun r m' => r = .tup [] ∧ m' = m := by
  refine ans_ret mixed ok16 ?_
  simp -implicitDefEqProofs (disch := (first | omega | (simp only [lenB, lowB_len, macB_len, tagB_len, turnB_len, lent_len] <;> omega) | fail)) only [admQ, lenB, lowB_len, macB_len, tagB_len, turnB_len, lent_len, aFill, AK.cls, implies_true, ↓reduceIte, reduceCtorEq, if_true, if_false, Nat.reduceAdd, Nat.reduceEqDiff, Nat.reduceMod, Nat.reduceLT, Nat.reduceLeDiff, Nat.reduceSub, Nat.reduceMul, Nat.reduceBEq, Int.reduceAdd, Int.reduceSub, Int.reduceMul, Int.reduceNeg, Int.reduceLT, Int.reduceLE, Int.reduceToNat, Int.reduceEq, Int.reduceBEq, c16, r16]
  refine LoopW.on (fun _ : Unit => [(0, .nils), (2, .int .i64 0)]) (fun _ => 0) (fun _ m' => m' = m) ?_ () _ _ rfl rfl
  rintro _ _ X rfl hX
  simp -implicitDefEqProofs (disch := (first | omega | (simp only [lenB, lowB_len, macB_len, tagB_len, turnB_len, lent_len] <;> omega) | fail)) only [admQ, lenB, lowB_len, macB_len, tagB_len, turnB_len, lent_len, aFill, AK.cls, implies_true, ↓reduceIte, reduceCtorEq, if_true, if_false, Nat.reduceAdd, Nat.reduceEqDiff, Nat.reduceMod, Nat.reduceLT, Nat.reduceLeDiff, Nat.reduceSub, Nat.reduceMul, Nat.reduceBEq, Int.reduceAdd, Int.reduceSub, Int.reduceMul, Int.reduceNeg, Int.reduceLT, Int.reduceLE, Int.reduceToNat, Int.reduceEq, Int.reduceBEq]
theorem ans_spoil {m0 : Nat} {m : Mem} {x : AV} {l : List B8} (h : SP m0 m x l) (hl : l.length < 1152921504606846976) : Ans Tryd.prog 16 [x] m fun r m' => r = .tup [] ∧ Kept (blkOf x) m m' := by
  rcases h with ⟨rfl, rfl⟩ | ⟨b, cap, s, rfl, ho, _, hc, hs⟩
  · exact (ans_spoilnils m).mono fun r m' ⟨h1, h2⟩ => ⟨h1, h2 ▸ .refl _ _⟩
  · exact (ans_spoilbytes ho hl).mono fun r m' ⟨h1, h2⟩ => ⟨h1, h2 ▸ .set1 _ _ _⟩
open Classical in
noncomputable def sealS (key head : List B8) (e n : Int) (b : List B8) : List B8 := if placedP e n then sealB key head e n b else []
open Classical in
noncomputable def openL (key head : List B8) (e n : Int) (b : List B8) : List B8 := if openP key head e n b then turnB key e n (b.take (b.length - 32)) else []
open Classical in
noncomputable def openO (key head : List B8) (e n : Int) (b : List B8) : Bool := decide (openP key head e n b)
theorem sealS_le (key head : List B8) (e n : Int) (b : List B8) : (sealS key head e n b).length ≤ b.length + 32 := by
  unfold sealS; split
  · rw [sealB_len]; omega
  · simp
theorem openL_le (key head : List B8) (e n : Int) (b : List B8) : (openL key head e n b).length ≤ b.length := by
  unfold openL; split
  · rw [turnB_len]; simp
  · simp
theorem SP.gr {m0 : Nat} {m : Mem} {x : AV} {l : List B8} (g : GrB m0 m x l) (hl : 0 < l.length) : SP m0 m x l := by
  obtain ⟨b, n, rfl, h0, hn, hb, hb0⟩ := g.sl (by intro e; have : l = [] := List.map_eq_nil_iff.mp e; simp [this] at hl)
  rw [List.length_map, Nat.mul_one] at hn
  subst hn
  exact .inr ⟨b, _, _, rfl, hb, hb0, Nat.le_refl _, .inr rfl⟩
theorem ans_seseal2 {m : Mem} {x c kb k : Nat} {key head b : List B8} {hx bx : AV} {e n : Int} (hs : SBox m x c kb k key) (hh : RdB m hx head) (hb : RdB m bx b) (hl : head.length ≤ 100000 ∧ b.length ≤ 100000) :
    Ans Tryd.prog 10 [.ptr x 0, .int .i64 e, .int .i64 n, hx, bx] m fun r m' => Kept [] m m' ∧ SP m.length m' r (sealS key head e n b) :=
  (ans_seseal hs hh hb hl).mono fun r m' ⟨h1, h2, h3⟩ => ⟨h1, by
    unfold sealS
    split
    · rename_i hp; exact .gr (h2 hp) (by rw [sealB_len]; omega)
    · rename_i hp; exact .inl ⟨h3 hp, rfl⟩⟩
open Classical in
theorem ans_seopen2 {m : Mem} {x c kb k : Nat} {key head b : List B8} {hx bx : AV} {e n : Int} (hs : SBox m x c kb k key) (hh : RdB m hx head) (hb : RdB m bx b) (hl : head.length ≤ 100000 ∧ b.length ≤ 100000) :
    Ans Tryd.prog 11 [.ptr x 0, .int .i64 e, .int .i64 n, hx, bx] m fun r m' => Kept [] m m' ∧ ∃ v, r = .tup [v, .bool (openO key head e n b)] ∧ SP m.length m' v (openL key head e n b) :=
  (ans_seopen hs hh hb hl).mono fun r m' ⟨h1, h2, h3⟩ => ⟨h1, by
    unfold openL openO
    split
    · rename_i hp
      obtain ⟨p, g1, rfl, g3⟩ := h2 hp
      have htl := turnB_len key e n (b.take (b.length - 32))
      have h8 : (b.take (b.length - 32)).length = b.length - 32 := by simp
      refine ⟨_, by rw [decide_eq_true hp], .inr ⟨p, _, 0, by rw [htl, h8], g3, g1, by rw [htl, h8]; exact Nat.le_refl _, .inl rfl⟩⟩
    · rename_i hp
      exact ⟨.nils, by rw [h3 hp, decide_eq_false hp], .inl ⟨rfl, rfl⟩⟩⟩
theorem ans_rsseal2 {m : Mem} {x c : Nat} {key head b : List B8} {hx bx : AV} {e n : Int} (hs : RBox m x c key) (hh : RdB m hx head) (hb : RdB m bx b) (hl : head.length ≤ 100000 ∧ b.length ≤ 100000) :
    Ans Tryd.prog 18 [.ptr x 0, .int .i64 e, .int .i64 n, hx, bx] m fun r m' => Kept [] m m' ∧ RdB m' r (sealS key head e n b) :=
  (ans_rsseal hs hh hb hl).mono fun r m' ⟨h1, h2, h3⟩ => ⟨h1, by
    unfold sealS
    split
    · rename_i hp; exact (h2 hp).rd
    · rename_i hp; rw [h3 hp]; exact .nils _⟩
open Classical in
theorem ans_rsopen2 {m : Mem} {x c : Nat} {key head b : List B8} {hx bx : AV} {e n : Int} (hs : RBox m x c key) (hh : RdB m hx head) (hb : RdB m bx b) (hl : head.length ≤ 100000 ∧ b.length ≤ 100000) :
    Ans Tryd.prog 17 [.ptr x 0, .int .i64 e, .int .i64 n, hx, bx] m fun r m' => Kept [] m m' ∧ ∃ v, r = .tup [v, .bool (openO key head e n b)] ∧ RdB m' v (openL key head e n b) :=
  (ans_rsopen hs hh hb hl).mono fun r m' ⟨h1, h2, h3⟩ => ⟨h1, by
    unfold openL openO
    split
    · rename_i hp
      obtain ⟨v, rfl, g3⟩ := h2 hp
      exact ⟨v, by rw [decide_eq_true hp], g3.rd⟩
    · rename_i hp
      exact ⟨.nils, by rw [h3 hp, decide_eq_false hp], .nils _⟩⟩
theorem ans_SealSeals {m : Mem} {x h y : AV} {key head b : List B8} {e n : Int} (hK : rowOf m 0 = some (wds kT)) (hR : rowOf m 1 = some (wds kT)) (hx : RdB m x key) (hh : RdB m h head) (hy : RdB m y b) :
    Ans Tryd.prog 6 [x, .agg [.int .i64 e, .int .i64 n, h], y] m fun r m' => r = .bool true ∧ Kept [] m m' := by
  refine ans_ret mixed ok6 ?_
  have k0 := Kept.app [] m [Blk.row [.int .i64 e, .int .i64 n, h] false]
  have o0 : own (m ++ [Blk.row [.int .i64 e, .int .i64 n, h] false]) m.length = some [.int .i64 e, .int .i64 n, h] := by rw [own_app_at0]; rfl
  have known : ∀ M, Kept [] (m ++ [Blk.row [.int .i64 e, .int .i64 n, h] false]) M → Ans Tryd.prog 8 [] M fun r m' => r = .bool true ∧ Kept [] m m' := fun M hk =>
    (ans_seknown ((k0.trans hk).row hK (by simp))).mono fun r m' ⟨h1, h2⟩ => ⟨h1, (k0.trans hk).trans h2⟩
  by_cases h1 : (key.length : Int) > 4096
  · simp -implicitDefEqProofs (disch := (first | omega | (simp only [lenB, lowB_len, macB_len, tagB_len, turnB_len, lent_len] <;> omega) | fail)) only [admQ, lenB, lowB_len, macB_len, tagB_len, turnB_len, lent_len, aFill, AK.cls, implies_true, ↓reduceIte, reduceCtorEq, if_true, if_false, Nat.reduceAdd, Nat.reduceEqDiff, Nat.reduceMod, Nat.reduceLT, Nat.reduceLeDiff, Nat.reduceSub, Nat.reduceMul, Nat.reduceBEq, Int.reduceAdd, Int.reduceSub, Int.reduceMul, Int.reduceNeg, Int.reduceLT, Int.reduceLE, Int.reduceToNat, Int.reduceEq, Int.reduceBEq, c6, r6, hx.len, dec_t h1]
    refine (known _ (.refl _ _)).mono ?_
    rintro _ m1 ⟨rfl, k1⟩
    simp -implicitDefEqProofs (disch := (first | omega | (simp only [lenB, lowB_len, macB_len, tagB_len, turnB_len, lent_len] <;> omega) | fail)) only [admQ, lenB, lowB_len, macB_len, tagB_len, turnB_len, lent_len, aFill, AK.cls, implies_true, ↓reduceIte, reduceCtorEq, if_true, if_false, Nat.reduceAdd, Nat.reduceEqDiff, Nat.reduceMod, Nat.reduceLT, Nat.reduceLeDiff, Nat.reduceSub, Nat.reduceMul, Nat.reduceBEq, Int.reduceAdd, Int.reduceSub, Int.reduceMul, Int.reduceNeg, Int.reduceLT, Int.reduceLE, Int.reduceToNat, Int.reduceEq, Int.reduceBEq]
    exact k1
  by_cases h2 : (head.length : Int) > 4096
  · simp -implicitDefEqProofs (disch := (first | omega | (simp only [lenB, lowB_len, macB_len, tagB_len, turnB_len, lent_len] <;> omega) | fail)) only [admQ, lenB, lowB_len, macB_len, tagB_len, turnB_len, lent_len, aFill, AK.cls, implies_true, ↓reduceIte, reduceCtorEq, if_true, if_false, Nat.reduceAdd, Nat.reduceEqDiff, Nat.reduceMod, Nat.reduceLT, Nat.reduceLeDiff, Nat.reduceSub, Nat.reduceMul, Nat.reduceBEq, Int.reduceAdd, Int.reduceSub, Int.reduceMul, Int.reduceNeg, Int.reduceLT, Int.reduceLE, Int.reduceToNat, Int.reduceEq, Int.reduceBEq, c6, r6, hx.len, hh.len, dec_f h1, dec_t h2]
    refine (known _ (.refl _ _)).mono ?_
    rintro _ m1 ⟨rfl, k1⟩
    simp -implicitDefEqProofs (disch := (first | omega | (simp only [lenB, lowB_len, macB_len, tagB_len, turnB_len, lent_len] <;> omega) | fail)) only [admQ, lenB, lowB_len, macB_len, tagB_len, turnB_len, lent_len, aFill, AK.cls, implies_true, ↓reduceIte, reduceCtorEq, if_true, if_false, Nat.reduceAdd, Nat.reduceEqDiff, Nat.reduceMod, Nat.reduceLT, Nat.reduceLeDiff, Nat.reduceSub, Nat.reduceMul, Nat.reduceBEq, Int.reduceAdd, Int.reduceSub, Int.reduceMul, Int.reduceNeg, Int.reduceLT, Int.reduceLE, Int.reduceToNat, Int.reduceEq, Int.reduceBEq]
    exact k1
  by_cases h3 : (b.length : Int) > 4096
  · simp -implicitDefEqProofs (disch := (first | omega | (simp only [lenB, lowB_len, macB_len, tagB_len, turnB_len, lent_len] <;> omega) | fail)) only [admQ, lenB, lowB_len, macB_len, tagB_len, turnB_len, lent_len, aFill, AK.cls, implies_true, ↓reduceIte, reduceCtorEq, if_true, if_false, Nat.reduceAdd, Nat.reduceEqDiff, Nat.reduceMod, Nat.reduceLT, Nat.reduceLeDiff, Nat.reduceSub, Nat.reduceMul, Nat.reduceBEq, Int.reduceAdd, Int.reduceSub, Int.reduceMul, Int.reduceNeg, Int.reduceLT, Int.reduceLE, Int.reduceToNat, Int.reduceEq, Int.reduceBEq, c6, r6, hx.len, hh.len, hy.len, dec_f h1, dec_f h2, dec_t h3]
    refine (known _ (.refl _ _)).mono ?_
    rintro _ m1 ⟨rfl, k1⟩
    simp -implicitDefEqProofs (disch := (first | omega | (simp only [lenB, lowB_len, macB_len, tagB_len, turnB_len, lent_len] <;> omega) | fail)) only [admQ, lenB, lowB_len, macB_len, tagB_len, turnB_len, lent_len, aFill, AK.cls, implies_true, ↓reduceIte, reduceCtorEq, if_true, if_false, Nat.reduceAdd, Nat.reduceEqDiff, Nat.reduceMod, Nat.reduceLT, Nat.reduceLeDiff, Nat.reduceSub, Nat.reduceMul, Nat.reduceBEq, Int.reduceAdd, Int.reduceSub, Int.reduceMul, Int.reduceNeg, Int.reduceLT, Int.reduceLE, Int.reduceToNat, Int.reduceEq, Int.reduceBEq]
    exact k1
  simp -implicitDefEqProofs (disch := (first | omega | (simp only [lenB, lowB_len, macB_len, tagB_len, turnB_len, lent_len] <;> omega) | fail)) only [admQ, lenB, lowB_len, macB_len, tagB_len, turnB_len, lent_len, aFill, AK.cls, implies_true, ↓reduceIte, reduceCtorEq, if_true, if_false, Nat.reduceAdd, Nat.reduceEqDiff, Nat.reduceMod, Nat.reduceLT, Nat.reduceLeDiff, Nat.reduceSub, Nat.reduceMul, Nat.reduceBEq, Int.reduceAdd, Int.reduceSub, Int.reduceMul, Int.reduceNeg, Int.reduceLT, Int.reduceLE, Int.reduceToNat, Int.reduceEq, Int.reduceBEq, c6, r6, hx.len, hh.len, hy.len, dec_f h1, dec_f h2, dec_f h3]
  generalize m ++ [Blk.row [.int .i64 e, .int .i64 n, h] false] = A at k0 o0 known
  have hAl := own_lt o0
  refine (ans_lentbytes (hx.kept0 k0) (by omega)).mono ?_
  rintro _ m1 ⟨p, rfl, k1, hp, op⟩
  have rp := RdB.row (m := m1) (l := lent key) (key.length + 5) 0 (rowOf_own op) (by rw [lent_len]; exact Nat.le_refl _)
  rw [lent_len] at rp
  have rpk := rp.take (k := key.length) (by omega)
  rw [lent_take] at rpk
  simp -implicitDefEqProofs (disch := (first | omega | (simp only [lenB, lowB_len, macB_len, tagB_len, turnB_len, lent_len] <;> omega) | fail)) only [admQ, lenB, lowB_len, macB_len, tagB_len, turnB_len, lent_len, aFill, AK.cls, implies_true, ↓reduceIte, reduceCtorEq, if_true, if_false, Nat.reduceAdd, Nat.reduceEqDiff, Nat.reduceMod, Nat.reduceLT, Nat.reduceLeDiff, Nat.reduceSub, Nat.reduceMul, Nat.reduceBEq, Int.reduceAdd, Int.reduceSub, Int.reduceMul, Int.reduceNeg, Int.reduceLT, Int.reduceLE, Int.reduceToNat, Int.reduceEq, Int.reduceBEq, hx.len]
  refine (ans_senew ((k0.trans k1).row hK (by simp)) rpk (by omega)).mono ?_
  rintro _ m2 ⟨b1, c1, kb1, q1, rfl, k2, hlow1, hs⟩
  simp -implicitDefEqProofs (disch := (first | omega | (simp only [lenB, lowB_len, macB_len, tagB_len, turnB_len, lent_len] <;> omega) | fail)) only [admQ, lenB, lowB_len, macB_len, tagB_len, turnB_len, lent_len, aFill, AK.cls, implies_true, ↓reduceIte, reduceCtorEq, if_true, if_false, Nat.reduceAdd, Nat.reduceEqDiff, Nat.reduceMod, Nat.reduceLT, Nat.reduceLeDiff, Nat.reduceSub, Nat.reduceMul, Nat.reduceBEq, Int.reduceAdd, Int.reduceSub, Int.reduceMul, Int.reduceNeg, Int.reduceLT, Int.reduceLE, Int.reduceToNat, Int.reduceEq, Int.reduceBEq]
  have K2 := k1.trans k2
  refine (ans_rsnew ((k0.trans K2).row hR (by simp)) (hx.kept0 (k0.trans K2)) (by omega)).mono ?_
  rintro _ m3 ⟨b2, c2, rfl, k3, hrb⟩
  have K3 := K2.trans k3
  simp -implicitDefEqProofs (disch := (first | omega | (simp only [lenB, lowB_len, macB_len, tagB_len, turnB_len, lent_len] <;> omega) | fail)) only [admQ, lenB, lowB_len, macB_len, tagB_len, turnB_len, lent_len, aFill, AK.cls, implies_true, ↓reduceIte, reduceCtorEq, if_true, if_false, Nat.reduceAdd, Nat.reduceEqDiff, Nat.reduceMod, Nat.reduceLT, Nat.reduceLeDiff, Nat.reduceSub, Nat.reduceMul, Nat.reduceBEq, Int.reduceAdd, Int.reduceSub, Int.reduceMul, Int.reduceNeg, Int.reduceLT, Int.reduceLE, Int.reduceToNat, Int.reduceEq, Int.reduceBEq]
  refine (ans_keptbytes (rp.kept0 (k2.trans k3)) (hx.kept0 (k0.trans K3)) (by omega)).mono ?_
  rintro _ MM ⟨rfl, hM⟩
  subst hM
  simp -implicitDefEqProofs (disch := (first | omega | (simp only [lenB, lowB_len, macB_len, tagB_len, turnB_len, lent_len] <;> omega) | fail)) only [admQ, lenB, lowB_len, macB_len, tagB_len, turnB_len, lent_len, aFill, AK.cls, implies_true, ↓reduceIte, reduceCtorEq, if_true, if_false, Nat.reduceAdd, Nat.reduceEqDiff, Nat.reduceMod, Nat.reduceLT, Nat.reduceLeDiff, Nat.reduceSub, Nat.reduceMul, Nat.reduceBEq, Int.reduceAdd, Int.reduceSub, Int.reduceMul, Int.reduceNeg, Int.reduceLT, Int.reduceLE, Int.reduceToNat, Int.reduceEq, Int.reduceBEq, beq_self_eq_true]
  have op3 := (k2.trans k3).own op (by simp)
  have hsp := ans_spoilbytes (cap := key.length + 5) (s := 0) op3 (by rw [lent_len]; omega)
  rw [lent_len] at hsp
  refine hsp.mono ?_
  rintro _ m4 ⟨rfl, hm4⟩
  have k4 : Kept [p] MM m4 := by subst hm4; exact .set1 _ _ _
  have hl1 := own_lt op
  have hA1 := k1.len
  have h12 := k2.len
  have h23 := k3.len
  have K4 : Kept [] A m4 := by subst hm4; exact K3.write (.inr hp) _
  have s4 : SBox m4 b1 c1 kb1 q1 key := (hs.kept0 k3).kept k4 (by simp only [List.mem_singleton]; have := rowOf_lt hK; have := k0.len; omega)
  have rb4 : RBox m4 b2 c2 key := hrb m4 (fun q h1 h2 => by rw [k4.eq q h2 (by simp only [List.mem_singleton]; omega)]) ((k0.trans K4).row hR (by simp))
  clear hs hrb hsp op3 hm4 rp rpk hl1 k2 k3 K2 K3 hlow1 h12 h23 op hp k1 k4 hA1
  have r4 := rowOf_own (K4.own o0 (by simp))
  simp -implicitDefEqProofs (disch := (first | omega | (simp only [lenB, lowB_len, macB_len, tagB_len, turnB_len, lent_len] <;> omega) | fail)) only [admQ, lenB, lowB_len, macB_len, tagB_len, turnB_len, lent_len, aFill, AK.cls, implies_true, ↓reduceIte, reduceCtorEq, if_true, if_false, Nat.reduceAdd, Nat.reduceEqDiff, Nat.reduceMod, Nat.reduceLT, Nat.reduceLeDiff, Nat.reduceSub, Nat.reduceMul, Nat.reduceBEq, Int.reduceAdd, Int.reduceSub, Int.reduceMul, Int.reduceNeg, Int.reduceLT, Int.reduceLE, Int.reduceToNat, Int.reduceEq, Int.reduceBEq, r4]
  refine (ans_lentbytes (hh.kept0 (k0.trans K4)) (by omega)).mono ?_
  rintro _ m5 ⟨ph, rfl, k5, hph, oph⟩
  have K5 := K4.trans k5
  simp -implicitDefEqProofs (disch := (first | omega | (simp only [lenB, lowB_len, macB_len, tagB_len, turnB_len, lent_len] <;> omega) | fail)) only [admQ, lenB, lowB_len, macB_len, tagB_len, turnB_len, lent_len, aFill, AK.cls, implies_true, ↓reduceIte, reduceCtorEq, if_true, if_false, Nat.reduceAdd, Nat.reduceEqDiff, Nat.reduceMod, Nat.reduceLT, Nat.reduceLeDiff, Nat.reduceSub, Nat.reduceMul, Nat.reduceBEq, Int.reduceAdd, Int.reduceSub, Int.reduceMul, Int.reduceNeg, Int.reduceLT, Int.reduceLE, Int.reduceToNat, Int.reduceEq, Int.reduceBEq]
  refine (ans_lentbytes (hy.kept0 (k0.trans K5)) (by omega)).mono ?_
  rintro _ m6 ⟨pb, rfl, k6, hpb, opb⟩
  have K6 := K5.trans k6
  have r6 := rowOf_own (K6.own o0 (by simp))
  replace oph := k6.own oph (by simp)
  have rph := RdB.row (m := m6) (l := lent head) (head.length + 5) 0 (rowOf_own oph) (by rw [lent_len]; exact Nat.le_refl _)
  rw [lent_len] at rph
  have rpb := RdB.row (m := m6) (l := lent b) (b.length + 5) 0 (rowOf_own opb) (by rw [lent_len]; exact Nat.le_refl _)
  rw [lent_len] at rpb
  have rh := rph.take (k := head.length) (by omega)
  rw [lent_take] at rh
  have rb := rpb.take (k := b.length) (by omega)
  rw [lent_take] at rb
  simp -implicitDefEqProofs (disch := (first | omega | (simp only [lenB, lowB_len, macB_len, tagB_len, turnB_len, lent_len] <;> omega) | fail)) only [admQ, lenB, lowB_len, macB_len, tagB_len, turnB_len, lent_len, aFill, AK.cls, implies_true, ↓reduceIte, reduceCtorEq, if_true, if_false, Nat.reduceAdd, Nat.reduceEqDiff, Nat.reduceMod, Nat.reduceLT, Nat.reduceLeDiff, Nat.reduceSub, Nat.reduceMul, Nat.reduceBEq, Int.reduceAdd, Int.reduceSub, Int.reduceMul, Int.reduceNeg, Int.reduceLT, Int.reduceLE, Int.reduceToNat, Int.reduceEq, Int.reduceBEq, hh.len, hy.len, r6]
  have s6 := s4.kept0 (k5.trans k6)
  have rb6 := rb4.kept0 (k5.trans k6)
  have hl6 := K6.len
  have hlph := own_lt oph
  have hlpb := own_lt opb
  refine (ans_seseal2 s6 rh rb ⟨by omega, by omega⟩).mono ?_
  rintro vs m7 ⟨k7, sp7⟩
  have K7 := K6.trans k7
  have r7 := rowOf_own (K7.own o0 (by simp))
  simp -implicitDefEqProofs (disch := (first | omega | (simp only [lenB, lowB_len, macB_len, tagB_len, turnB_len, lent_len] <;> omega) | fail)) only [admQ, lenB, lowB_len, macB_len, tagB_len, turnB_len, lent_len, aFill, AK.cls, implies_true, ↓reduceIte, reduceCtorEq, if_true, if_false, Nat.reduceAdd, Nat.reduceEqDiff, Nat.reduceMod, Nat.reduceLT, Nat.reduceLeDiff, Nat.reduceSub, Nat.reduceMul, Nat.reduceBEq, Int.reduceAdd, Int.reduceSub, Int.reduceMul, Int.reduceNeg, Int.reduceLT, Int.reduceLE, Int.reduceToNat, Int.reduceEq, Int.reduceBEq, r7]
  refine (ans_seopen2 (s6.kept0 k7) (rh.kept0 k7) (rb.kept0 k7) ⟨by omega, by omega⟩).mono ?_
  rintro _ m8 ⟨k8, vp, rfl, sp8⟩
  have K8 := K7.trans k8
  have r8 := rowOf_own (K8.own o0 (by simp))
  simp -implicitDefEqProofs (disch := (first | omega | (simp only [lenB, lowB_len, macB_len, tagB_len, turnB_len, lent_len] <;> omega) | fail)) only [admQ, lenB, lowB_len, macB_len, tagB_len, turnB_len, lent_len, aFill, AK.cls, implies_true, ↓reduceIte, reduceCtorEq, if_true, if_false, Nat.reduceAdd, Nat.reduceEqDiff, Nat.reduceMod, Nat.reduceLT, Nat.reduceLeDiff, Nat.reduceSub, Nat.reduceMul, Nat.reduceBEq, Int.reduceAdd, Int.reduceSub, Int.reduceMul, Int.reduceNeg, Int.reduceLT, Int.reduceLE, Int.reduceToNat, Int.reduceEq, Int.reduceBEq, r8]
  refine (ans_rsopen2 (rb6.kept0 (k7.trans k8)) (hh.kept0 (k0.trans K8)) (hy.kept0 (k0.trans K8)) ⟨by omega, by omega⟩).mono ?_
  rintro _ m9 ⟨k9, vq, rfl, rq⟩
  have K9 := K8.trans k9
  have r9 := rowOf_own (K9.own o0 (by simp))
  simp -implicitDefEqProofs (disch := (first | omega | (simp only [lenB, lowB_len, macB_len, tagB_len, turnB_len, lent_len] <;> omega) | fail)) only [admQ, lenB, lowB_len, macB_len, tagB_len, turnB_len, lent_len, aFill, AK.cls, implies_true, ↓reduceIte, reduceCtorEq, if_true, if_false, Nat.reduceAdd, Nat.reduceEqDiff, Nat.reduceMod, Nat.reduceLT, Nat.reduceLeDiff, Nat.reduceSub, Nat.reduceMul, Nat.reduceBEq, Int.reduceAdd, Int.reduceSub, Int.reduceMul, Int.reduceNeg, Int.reduceLT, Int.reduceLE, Int.reduceToNat, Int.reduceEq, Int.reduceBEq, r9]
  refine (ans_rsseal2 (rb6.kept0 (k7.trans (k8.trans k9))) (hh.kept0 (k0.trans K9)) (hy.kept0 (k0.trans K9)) ⟨by omega, by omega⟩).mono ?_
  rintro vr m10 ⟨k10, rr⟩
  have K10 := K9.trans k10
  have r10 := rowOf_own (K10.own o0 (by simp))
  have sle := sealS_le key head e n b
  have ole := openL_le key head e n b
  simp -implicitDefEqProofs (disch := (first | omega | (simp only [lenB, lowB_len, macB_len, tagB_len, turnB_len, lent_len] <;> omega) | fail)) only [admQ, lenB, lowB_len, macB_len, tagB_len, turnB_len, lent_len, aFill, AK.cls, implies_true, ↓reduceIte, reduceCtorEq, if_true, if_false, Nat.reduceAdd, Nat.reduceEqDiff, Nat.reduceMod, Nat.reduceLT, Nat.reduceLeDiff, Nat.reduceSub, Nat.reduceMul, Nat.reduceBEq, Int.reduceAdd, Int.reduceSub, Int.reduceMul, Int.reduceNeg, Int.reduceLT, Int.reduceLE, Int.reduceToNat, Int.reduceEq, Int.reduceBEq, r10]
  refine (ans_samebytes (sp7.kept0 (k8.trans (k9.trans k10))).rd rr (by omega)).mono ?_
  rintro _ MM ⟨rfl, hM⟩
  subst hM
  simp -implicitDefEqProofs (disch := (first | omega | (simp only [lenB, lowB_len, macB_len, tagB_len, turnB_len, lent_len] <;> omega) | fail)) only [admQ, lenB, lowB_len, macB_len, tagB_len, turnB_len, lent_len, aFill, AK.cls, implies_true, ↓reduceIte, reduceCtorEq, if_true, if_false, Nat.reduceAdd, Nat.reduceEqDiff, Nat.reduceMod, Nat.reduceLT, Nat.reduceLeDiff, Nat.reduceSub, Nat.reduceMul, Nat.reduceBEq, Int.reduceAdd, Int.reduceSub, Int.reduceMul, Int.reduceNeg, Int.reduceLT, Int.reduceLE, Int.reduceToNat, Int.reduceEq, Int.reduceBEq, beq_self_eq_true, Bool.not_true]
  refine (ans_samebytes (sp8.kept0 (k9.trans k10)).rd (rq.kept0 k10) (by omega)).mono ?_
  rintro _ MM ⟨rfl, hM⟩
  subst hM
  simp -implicitDefEqProofs (disch := (first | omega | (simp only [lenB, lowB_len, macB_len, tagB_len, turnB_len, lent_len] <;> omega) | fail)) only [admQ, lenB, lowB_len, macB_len, tagB_len, turnB_len, lent_len, aFill, AK.cls, implies_true, ↓reduceIte, reduceCtorEq, if_true, if_false, Nat.reduceAdd, Nat.reduceEqDiff, Nat.reduceMod, Nat.reduceLT, Nat.reduceLeDiff, Nat.reduceSub, Nat.reduceMul, Nat.reduceBEq, Int.reduceAdd, Int.reduceSub, Int.reduceMul, Int.reduceNeg, Int.reduceLT, Int.reduceLE, Int.reduceToNat, Int.reduceEq, Int.reduceBEq, beq_self_eq_true, Bool.not_true]
  have k610 := k7.trans (k8.trans (k9.trans k10))
  refine (ans_sesum (s6.kept0 k610).kT (rb.kept0 k610) (by omega)).mono ?_
  rintro _ m11 ⟨rfl, k11⟩
  simp -implicitDefEqProofs (disch := (first | omega | (simp only [lenB, lowB_len, macB_len, tagB_len, turnB_len, lent_len] <;> omega) | fail)) only [admQ, lenB, lowB_len, macB_len, tagB_len, turnB_len, lent_len, aFill, AK.cls, implies_true, ↓reduceIte, reduceCtorEq, if_true, if_false, Nat.reduceAdd, Nat.reduceEqDiff, Nat.reduceMod, Nat.reduceLT, Nat.reduceLeDiff, Nat.reduceSub, Nat.reduceMul, Nat.reduceBEq, Int.reduceAdd, Int.reduceSub, Int.reduceMul, Int.reduceNeg, Int.reduceLT, Int.reduceLE, Int.reduceToNat, Int.reduceEq, Int.reduceBEq]
  refine (ans_rssum (rb6.kept0 (k610.trans k11)).kR (hy.kept0 (k0.trans (K10.trans k11))) (by omega)).mono ?_
  rintro _ m12 ⟨rfl, k12⟩
  simp -implicitDefEqProofs (disch := (first | omega | (simp only [lenB, lowB_len, macB_len, tagB_len, turnB_len, lent_len] <;> omega) | fail)) only [admQ, lenB, lowB_len, macB_len, tagB_len, turnB_len, lent_len, aFill, AK.cls, implies_true, ↓reduceIte, reduceCtorEq, if_true, if_false, Nat.reduceAdd, Nat.reduceEqDiff, Nat.reduceMod, Nat.reduceLT, Nat.reduceLeDiff, Nat.reduceSub, Nat.reduceMul, Nat.reduceBEq, Int.reduceAdd, Int.reduceSub, Int.reduceMul, Int.reduceNeg, Int.reduceLT, Int.reduceLE, Int.reduceToNat, Int.reduceEq, Int.reduceBEq, aEq_bys _ _ (shaB_len b) (shaB_len b), beq_self_eq_true, Bool.not_true]
  have k712 := k8.trans (k9.trans (k10.trans (k11.trans k12)))
  have K12 := K10.trans (k11.trans k12)
  have k612 := k610.trans (k11.trans k12)
  have sv := sp7.kept0 k712
  have pv := sp8.kept0 (k9.trans (k10.trans (k11.trans k12)))
  have hv1 := sp7.low
  have hv2 := sp8.low
  have h67 := k7.len
  have hl12 := k612.len
  refine (ans_spoil sv (by omega)).mono ?_
  rintro _ m13 ⟨rfl, k13⟩
  have Kx13 : Kept [] A m13 := K12.upon k13 (fun q hq => by have := hv1 q hq; omega)
  have pv' := pv.kept k13 (fun q hq h => by have := hv1 q h; have := hv2 q hq; omega)
  have oh13 := k13.own (k612.own oph (by simp)) (fun h => by have := hv1 _ h; omega)
  have ob13 := k13.own (k612.own opb (by simp)) (fun h => by have := hv1 _ h; omega)
  simp -implicitDefEqProofs (disch := (first | omega | (simp only [lenB, lowB_len, macB_len, tagB_len, turnB_len, lent_len] <;> omega) | fail)) only [admQ, lenB, lowB_len, macB_len, tagB_len, turnB_len, lent_len, aFill, AK.cls, implies_true, ↓reduceIte, reduceCtorEq, if_true, if_false, Nat.reduceAdd, Nat.reduceEqDiff, Nat.reduceMod, Nat.reduceLT, Nat.reduceLeDiff, Nat.reduceSub, Nat.reduceMul, Nat.reduceBEq, Int.reduceAdd, Int.reduceSub, Int.reduceMul, Int.reduceNeg, Int.reduceLT, Int.reduceLE, Int.reduceToNat, Int.reduceEq, Int.reduceBEq]
  refine (ans_spoil pv' (by omega)).mono ?_
  rintro _ m14 ⟨rfl, k14⟩
  have Kx14 : Kept [] A m14 := Kx13.upon k14 (fun q hq => by have := hv2 q hq; omega)
  have oh14 := k14.own oh13 (fun h => by have := hv2 _ h; omega)
  have ob14 := k14.own ob13 (fun h => by have := hv2 _ h; omega)
  have r14 := rowOf_own (Kx14.own o0 (by simp))
  have wh := RdB.row (m := m14) (l := lent head) (head.length + 5) 0 (rowOf_own oh14) (by rw [lent_len]; exact Nat.le_refl _)
  rw [lent_len] at wh
  have wb := RdB.row (m := m14) (l := lent b) (b.length + 5) 0 (rowOf_own ob14) (by rw [lent_len]; exact Nat.le_refl _)
  rw [lent_len] at wb
  simp -implicitDefEqProofs (disch := (first | omega | (simp only [lenB, lowB_len, macB_len, tagB_len, turnB_len, lent_len] <;> omega) | fail)) only [admQ, lenB, lowB_len, macB_len, tagB_len, turnB_len, lent_len, aFill, AK.cls, implies_true, ↓reduceIte, reduceCtorEq, if_true, if_false, Nat.reduceAdd, Nat.reduceEqDiff, Nat.reduceMod, Nat.reduceLT, Nat.reduceLeDiff, Nat.reduceSub, Nat.reduceMul, Nat.reduceBEq, Int.reduceAdd, Int.reduceSub, Int.reduceMul, Int.reduceNeg, Int.reduceLT, Int.reduceLE, Int.reduceToNat, Int.reduceEq, Int.reduceBEq, r14]
  refine (ans_keptbytes wh (hh.kept0 (k0.trans Kx14)) (by omega)).mono ?_
  rintro _ MM ⟨rfl, hM⟩
  subst hM
  simp -implicitDefEqProofs (disch := (first | omega | (simp only [lenB, lowB_len, macB_len, tagB_len, turnB_len, lent_len] <;> omega) | fail)) only [admQ, lenB, lowB_len, macB_len, tagB_len, turnB_len, lent_len, aFill, AK.cls, implies_true, ↓reduceIte, reduceCtorEq, if_true, if_false, Nat.reduceAdd, Nat.reduceEqDiff, Nat.reduceMod, Nat.reduceLT, Nat.reduceLeDiff, Nat.reduceSub, Nat.reduceMul, Nat.reduceBEq, Int.reduceAdd, Int.reduceSub, Int.reduceMul, Int.reduceNeg, Int.reduceLT, Int.reduceLE, Int.reduceToNat, Int.reduceEq, Int.reduceBEq, beq_self_eq_true]
  refine (ans_keptbytes wb (hy.kept0 (k0.trans Kx14)) (by omega)).mono ?_
  rintro _ MM ⟨rfl, hM⟩
  subst hM
  simp -implicitDefEqProofs (disch := (first | omega | (simp only [lenB, lowB_len, macB_len, tagB_len, turnB_len, lent_len] <;> omega) | fail)) only [admQ, lenB, lowB_len, macB_len, tagB_len, turnB_len, lent_len, aFill, AK.cls, implies_true, ↓reduceIte, reduceCtorEq, if_true, if_false, Nat.reduceAdd, Nat.reduceEqDiff, Nat.reduceMod, Nat.reduceLT, Nat.reduceLeDiff, Nat.reduceSub, Nat.reduceMul, Nat.reduceBEq, Int.reduceAdd, Int.reduceSub, Int.reduceMul, Int.reduceNeg, Int.reduceLT, Int.reduceLE, Int.reduceToNat, Int.reduceEq, Int.reduceBEq, beq_self_eq_true]
  refine (known _ Kx14).mono ?_
  rintro _ m15 ⟨rfl, k15⟩
  simp -implicitDefEqProofs (disch := (first | omega | (simp only [lenB, lowB_len, macB_len, tagB_len, turnB_len, lent_len] <;> omega) | fail)) only [admQ, lenB, lowB_len, macB_len, tagB_len, turnB_len, lent_len, aFill, AK.cls, implies_true, ↓reduceIte, reduceCtorEq, if_true, if_false, Nat.reduceAdd, Nat.reduceEqDiff, Nat.reduceMod, Nat.reduceLT, Nat.reduceLeDiff, Nat.reduceSub, Nat.reduceMul, Nat.reduceBEq, Int.reduceAdd, Int.reduceSub, Int.reduceMul, Int.reduceNeg, Int.reduceLT, Int.reduceLE, Int.reduceToNat, Int.reduceEq, Int.reduceBEq]
  exact k15
end Go.Proofs.YtdmdakaliilghaaDoor
end
