/- Texts of this seat, joined (part 5 of 5): an abstract memory for Go programs, this seat's functions as abstract code, and what each of them does. -/
import Derived.Test.YtmnlmjlmbceimaaDoorM4
set_option linter.unusedSimpArgs false
section
/- Sectors: unlike ones have unlike bytes. -/
namespace Go.Proofs.YtmnlmjlmbceimaaDoor
open Go Go.Adm
set_option linter.unusedSimpArgs false
set_option linter.unusedVariables false
set_option maxRecDepth 100000
theorem putC_ok {c : CyS} {s : Sec} (h : okP s) : cyHas c (putC c s) (secD s) := by rw [putC, if_pos h]; exact cyHas_nx c (okP_may h)
theorem putC_has {c c2 : CyS} {d : Sd} (t : Sec) (h : cyHas c c2 d) : cyHas c (putC c2 t) d := by
  rw [putC]; split
  · exact cyHas_more h _
  · exact h
/-- A Names as sectors are put: its things sealed. -/
def putS (S : List Sd) (s : Sec) : List Sd := if okP s then sealS2 S (secD s) else S
theorem putC_nm (S : List Sd) (T : List (List B8)) (s : Sec) : putC (.nm S T) s = .nm (putS S s) T := by
  unfold putC putS; split <;> rfl
theorem putS_len (S : List Sd) (s : Sec) : (putS S s).length ≤ S.length + 1 := by
  unfold putS; split
  · exact sealS2_len _ _
  · omega
theorem putL_same {c : CyS} {s : Sec} (h : okP s) : putL (putC c s) s = putL c s := putL_has (putC_ok h)
theorem putS_mem {S : List Sd} {s : Sec} {t : Sd} : t ∈ putS S s ↔ t ∈ S ∨ (t = secD s ∧ okP s) := by
  unfold putS
  by_cases h : okP s
  · rw [if_pos h, mem_seal]
    simp [h, okP_may h]
  · rw [if_neg h]; simp [h]
theorem putL_mem {S : List Sd} {T : List (List B8)} {s t : Sec} (h : secD s ∈ S) : putL (.nm (putS S t) T) s = putL (.nm S T) s := by
  rw [← putC_nm]
  exact putL_has (putC_has t (has_mem.mpr h))
theorem ans_SectorUnlike {m : Mem} {s t : Sec} {v w : AV} (hK : rowOf m 0 = some (wds kT)) (hv : RdB m v s.p) (hw : RdB m w t.p) :
    Ans Tryd.prog 7 [secV s v, secV t w] m fun r m' => r = .bool true ∧ Kept [] m m' := by
  refine ans_ret mixed ok7 ?_
  unfold secV
  have known : ∀ M, Kept [] m M → Ans Tryd.prog 8 [] M fun r m' => r = .bool true ∧ Kept [] m m' := fun M hk =>
    (ans_scknown (hk.row hK (by simp))).mono fun r m' ⟨h1, h2⟩ => ⟨h1, hk.trans h2⟩
  have k0 := Kept.app [] m [Blk.row [.int .i64 s.k, .int .i64 s.e, .int .i64 s.n, .int .i64 s.a, v] false, Blk.row [.int .i64 t.k, .int .i64 t.e, .int .i64 t.n, .int .i64 t.a, w] false]
  by_cases h1 : (s.p.length : Int) > 4096
  · simp -implicitDefEqProofs (disch := (first | omega | (simp only [lenB, lowB_len, numB_len, nsumB_len] <;> omega) | fail)) only [admQ, lenB, lowB_len, numB_len, nsumB_len, aFill, AK.cls, implies_true, ↓reduceIte, reduceCtorEq, if_true, if_false, Nat.reduceAdd, Nat.reduceEqDiff, Nat.reduceMod, Nat.reduceLT, Nat.reduceLeDiff, Nat.reduceSub, Nat.reduceMul, Nat.reduceBEq, Int.reduceAdd, Int.reduceSub, Int.reduceMul, Int.reduceNeg, Int.reduceLT, Int.reduceLE, Int.reduceToNat, Int.reduceEq, Int.reduceBEq, c7, r7, (rd_one hv).1, (rd_one hv).2, (rd_one hw).1, (rd_one hw).2, hv.len, dec_t h1]
    refine (known _ k0).mono ?_
    rintro _ m1 ⟨rfl, k1⟩
    simp -implicitDefEqProofs (disch := (first | omega | (simp only [lenB, lowB_len, numB_len, nsumB_len] <;> omega) | fail)) only [admQ, lenB, lowB_len, numB_len, nsumB_len, aFill, AK.cls, implies_true, ↓reduceIte, reduceCtorEq, if_true, if_false, Nat.reduceAdd, Nat.reduceEqDiff, Nat.reduceMod, Nat.reduceLT, Nat.reduceLeDiff, Nat.reduceSub, Nat.reduceMul, Nat.reduceBEq, Int.reduceAdd, Int.reduceSub, Int.reduceMul, Int.reduceNeg, Int.reduceLT, Int.reduceLE, Int.reduceToNat, Int.reduceEq, Int.reduceBEq]
    exact k1
  by_cases h2 : (t.p.length : Int) > 4096
  · simp -implicitDefEqProofs (disch := (first | omega | (simp only [lenB, lowB_len, numB_len, nsumB_len] <;> omega) | fail)) only [admQ, lenB, lowB_len, numB_len, nsumB_len, aFill, AK.cls, implies_true, ↓reduceIte, reduceCtorEq, if_true, if_false, Nat.reduceAdd, Nat.reduceEqDiff, Nat.reduceMod, Nat.reduceLT, Nat.reduceLeDiff, Nat.reduceSub, Nat.reduceMul, Nat.reduceBEq, Int.reduceAdd, Int.reduceSub, Int.reduceMul, Int.reduceNeg, Int.reduceLT, Int.reduceLE, Int.reduceToNat, Int.reduceEq, Int.reduceBEq, c7, r7, (rd_one hv).1, (rd_one hv).2, (rd_one hw).1, (rd_one hw).2, hv.len, hw.len, dec_f h1, dec_t h2]
    refine (known _ k0).mono ?_
    rintro _ m1 ⟨rfl, k1⟩
    simp -implicitDefEqProofs (disch := (first | omega | (simp only [lenB, lowB_len, numB_len, nsumB_len] <;> omega) | fail)) only [admQ, lenB, lowB_len, numB_len, nsumB_len, aFill, AK.cls, implies_true, ↓reduceIte, reduceCtorEq, if_true, if_false, Nat.reduceAdd, Nat.reduceEqDiff, Nat.reduceMod, Nat.reduceLT, Nat.reduceLeDiff, Nat.reduceSub, Nat.reduceMul, Nat.reduceBEq, Int.reduceAdd, Int.reduceSub, Int.reduceMul, Int.reduceNeg, Int.reduceLT, Int.reduceLE, Int.reduceToNat, Int.reduceEq, Int.reduceBEq]
    exact k1
  simp -implicitDefEqProofs (disch := (first | omega | (simp only [lenB, lowB_len, numB_len, nsumB_len] <;> omega) | fail)) only [admQ, lenB, lowB_len, numB_len, nsumB_len, aFill, AK.cls, implies_true, ↓reduceIte, reduceCtorEq, if_true, if_false, Nat.reduceAdd, Nat.reduceEqDiff, Nat.reduceMod, Nat.reduceLT, Nat.reduceLeDiff, Nat.reduceSub, Nat.reduceMul, Nat.reduceBEq, Int.reduceAdd, Int.reduceSub, Int.reduceMul, Int.reduceNeg, Int.reduceLT, Int.reduceLE, Int.reduceToNat, Int.reduceEq, Int.reduceBEq, c7, r7, (rd_one hv).1, (rd_one hv).2, (rd_one hw).1, (rd_one hw).2, hv.len, hw.len, dec_f h1, dec_f h2]
  have o0 : own (m ++ [Blk.row [.int .i64 s.k, .int .i64 s.e, .int .i64 s.n, .int .i64 s.a, v] false, Blk.row [.int .i64 t.k, .int .i64 t.e, .int .i64 t.n, .int .i64 t.a, w] false]) m.length = some [.int .i64 s.k, .int .i64 s.e, .int .i64 s.n, .int .i64 s.a, v] := by rw [own_app_at0]; rfl
  have q0 : own (m ++ [Blk.row [.int .i64 s.k, .int .i64 s.e, .int .i64 s.n, .int .i64 s.a, v] false, Blk.row [.int .i64 t.k, .int .i64 t.e, .int .i64 t.n, .int .i64 t.a, w] false]) (m.length + 1) = some [.int .i64 t.k, .int .i64 t.e, .int .i64 t.n, .int .i64 t.a, w] := by rw [own_app_at]; rfl
  generalize m ++ [Blk.row [.int .i64 s.k, .int .i64 s.e, .int .i64 s.n, .int .i64 s.a, v] false, Blk.row [.int .i64 t.k, .int .i64 t.e, .int .i64 t.n, .int .i64 t.a, w] false] = A at k0 o0 q0
  have hl0 := k0.len
  have hvb := hv.blk_lt
  have hwb := hw.blk_lt
  have hv0 := hv.kept0 k0
  have hw0 := hw.kept0 k0
  have vA := own_lt o0
  have wA := own_lt q0
  refine (ans_nnew A).mono ?_
  rintro _ m1 ⟨x, W, rfl, k1, hN, hW⟩
  have hC : Cy m1 x W W (.nm [] []) := ⟨hN, rfl⟩
  have o1 := k1.own o0 (by simp)
  have q1 := k1.own q0 (by simp)
  have K1 := k0.trans k1
  have hl1 := k1.len
  simp -implicitDefEqProofs (disch := (first | omega | (simp only [lenB, lowB_len, numB_len, nsumB_len] <;> omega) | fail)) only [admQ, lenB, lowB_len, numB_len, nsumB_len, aFill, AK.cls, implies_true, ↓reduceIte, reduceCtorEq, if_true, if_false, Nat.reduceAdd, Nat.reduceEqDiff, Nat.reduceMod, Nat.reduceLT, Nat.reduceLeDiff, Nat.reduceSub, Nat.reduceMul, Nat.reduceBEq, Int.reduceAdd, Int.reduceSub, Int.reduceMul, Int.reduceNeg, Int.reduceLT, Int.reduceLE, Int.reduceToNat, Int.reduceEq, Int.reduceBEq, rowOf_own o1, rowOf_own q1]
  refine (ans_scput (s := s) hC (hv0.kept0 k1) (fun b hb h => by have := hvb b hb; have := hW b h; omega) (show 0 ≤ 1000 by omega) (by omega)).mono ?_
  rintro _ m2 ⟨W2, R2, w2, k2, hC2, hR2, rfl, rw2, bw2⟩
  have ap : ∀ q, q < A.length → q ∉ W := fun q h1 h2 => by have := hW q h2; omega
  have o2 := k2.own o1 (ap _ (by omega))
  have q2 := k2.own q1 (ap _ (by omega))
  have hw2 : RdB m2 w t.p := rdb_ap (hw0.kept0 k1) k2 fun q hq => ap q (by have := hwb q hq; omega)
  have hv2 : RdB m2 v s.p := rdb_ap (hv0.kept0 k1) k2 fun q hq => ap q (by have := hvb q hq; omega)
  have K2 : Kept [] m m2 := K1.upon k2 fun q hq => by have := hW q hq; omega
  have W2l : ∀ q ∈ W2, A.length ≤ q := fun q hq => (hR2 q (hC2.sub q hq)).elim (fun h => hW q h) (fun h => by omega)
  have ap2 : ∀ q, q < A.length → q ∉ W2 := fun q h1 h2 => by have := W2l q h2; omega
  have hlen2 : (putS [] s).length ≤ 1 := putS_len [] s
  rw [putC_nm] at hC2
  simp -implicitDefEqProofs (disch := (first | omega | (simp only [lenB, lowB_len, numB_len, nsumB_len] <;> omega) | fail)) only [admQ, lenB, lowB_len, numB_len, nsumB_len, aFill, AK.cls, implies_true, ↓reduceIte, reduceCtorEq, if_true, if_false, Nat.reduceAdd, Nat.reduceEqDiff, Nat.reduceMod, Nat.reduceLT, Nat.reduceLeDiff, Nat.reduceSub, Nat.reduceMul, Nat.reduceBEq, Int.reduceAdd, Int.reduceSub, Int.reduceMul, Int.reduceNeg, Int.reduceLT, Int.reduceLE, Int.reduceToNat, Int.reduceEq, Int.reduceBEq, rowOf_own o2, rowOf_own q2]
  refine (ans_scput (s := t) hC2 hw2 (fun b hb => ap2 b (by have := hwb b hb; omega)) (show (putS [] s).length ≤ 1000 by omega) (by omega)).mono ?_
  rintro _ m3 ⟨W3, R3, w3, k3, -, -, rfl, rw3, bw3⟩
  have o3 := k3.own o2 (ap2 _ (by omega))
  have q3 := k3.own q2 (ap2 _ (by omega))
  have hw3 : RdB m3 w t.p := rdb_ap hw2 k3 fun q hq => ap2 q (by have := hwb q hq; omega)
  have hv3 : RdB m3 v s.p := rdb_ap hv2 k3 fun q hq => ap2 q (by have := hvb q hq; omega)
  have rw23 : RdB m3 w2 (putL (.nm [] []) s) := rdb_ap rw2 k3 fun q hq h => (bw2 q hq).2 (hC2.sub q h)
  have K3 : Kept [] m m3 := K2.upon k3 fun q hq => by have := W2l q hq; omega
  by_cases e1 : errP s = 0
  · by_cases e2 : errP t = 0
    · have hs := (errP_ok s).mp e1
      have ht := (errP_ok t).mp e2
      rw [e1, e2]
      simp -implicitDefEqProofs (disch := (first | omega | (simp only [lenB, lowB_len, numB_len, nsumB_len] <;> omega) | fail)) only [admQ, lenB, lowB_len, numB_len, nsumB_len, aFill, AK.cls, implies_true, ↓reduceIte, reduceCtorEq, if_true, if_false, Nat.reduceAdd, Nat.reduceEqDiff, Nat.reduceMod, Nat.reduceLT, Nat.reduceLeDiff, Nat.reduceSub, Nat.reduceMul, Nat.reduceBEq, Int.reduceAdd, Int.reduceSub, Int.reduceMul, Int.reduceNeg, Int.reduceLT, Int.reduceLE, Int.reduceToNat, Int.reduceEq, Int.reduceBEq]
      refine (ans_samebytes rw23 rw3 (by rw [putL_len hs]; omega)).mono ?_
      rintro _ M ⟨rfl, hM⟩
      subst hM
      simp -implicitDefEqProofs (disch := (first | omega | (simp only [lenB, lowB_len, numB_len, nsumB_len] <;> omega) | fail)) only [admQ, lenB, lowB_len, numB_len, nsumB_len, aFill, AK.cls, implies_true, ↓reduceIte, reduceCtorEq, if_true, if_false, Nat.reduceAdd, Nat.reduceEqDiff, Nat.reduceMod, Nat.reduceLT, Nat.reduceLeDiff, Nat.reduceSub, Nat.reduceMul, Nat.reduceBEq, Int.reduceAdd, Int.reduceSub, Int.reduceMul, Int.reduceNeg, Int.reduceLT, Int.reduceLE, Int.reduceToNat, Int.reduceEq, Int.reduceBEq, rowOf_own o3, rowOf_own q3]
      refine (ans_samesector (s := s) (t := t) hv3 hw3 (by omega)).mono ?_
      rintro _ m4 ⟨rfl, k4⟩
      have hq : (putL (.nm [] []) s == putL (.nm (putS [] s) []) t) = decide (s = t) := by
        have es := putL_same (c := .nm [] []) hs
        rw [putC_nm] at es
        by_cases hst : s = t
        · subst hst
          rw [es, dec_t rfl, beq_self_eq_true]
        · rw [dec_f hst, beq_eq_false_iff_ne]
          intro h
          have ms : secD s ∈ putS [] s := putS_mem.mpr (.inr ⟨rfl, hs⟩)
          have et := putL_same (c := .nm (putS [] s) []) ht
          rw [putC_nm] at et
          have e3 := putL_mem (T := []) (t := t) ms
          have hln := putS_len (putS [] s) t
          exact hst (putL_inj (S := putS (putS [] s) t) (T := []) (by omega) hs ht (putS_mem.mpr (.inl ms)) (putS_mem.mpr (.inr ⟨rfl, ht⟩)) (by rw [e3, es, et]; exact h))
      simp -implicitDefEqProofs (disch := (first | omega | (simp only [lenB, lowB_len, numB_len, nsumB_len] <;> omega) | fail)) only [admQ, lenB, lowB_len, numB_len, nsumB_len, aFill, AK.cls, implies_true, ↓reduceIte, reduceCtorEq, if_true, if_false, Nat.reduceAdd, Nat.reduceEqDiff, Nat.reduceMod, Nat.reduceLT, Nat.reduceLeDiff, Nat.reduceSub, Nat.reduceMul, Nat.reduceBEq, Int.reduceAdd, Int.reduceSub, Int.reduceMul, Int.reduceNeg, Int.reduceLT, Int.reduceLE, Int.reduceToNat, Int.reduceEq, Int.reduceBEq, hq, aEq, beq_self_eq_true]
      refine (known _ (K3.trans k4)).mono ?_
      rintro _ m5 ⟨rfl, k5⟩
      have K35 := k4
      simp -implicitDefEqProofs (disch := (first | omega | (simp only [lenB, lowB_len, numB_len, nsumB_len] <;> omega) | fail)) only [admQ, lenB, lowB_len, numB_len, nsumB_len, aFill, AK.cls, implies_true, ↓reduceIte, reduceCtorEq, if_true, if_false, Nat.reduceAdd, Nat.reduceEqDiff, Nat.reduceMod, Nat.reduceLT, Nat.reduceLeDiff, Nat.reduceSub, Nat.reduceMul, Nat.reduceBEq, Int.reduceAdd, Int.reduceSub, Int.reduceMul, Int.reduceNeg, Int.reduceLT, Int.reduceLE, Int.reduceToNat, Int.reduceEq, Int.reduceBEq, rowOf_own o3, rowOf_own q3, rowOf_own (k4.own o3 (by simp)), rowOf_own (k4.own q3 (by simp))]
      exact k5
    · simp -implicitDefEqProofs (disch := (first | omega | (simp only [lenB, lowB_len, numB_len, nsumB_len] <;> omega) | fail)) only [admQ, lenB, lowB_len, numB_len, nsumB_len, aFill, AK.cls, implies_true, ↓reduceIte, reduceCtorEq, if_true, if_false, Nat.reduceAdd, Nat.reduceEqDiff, Nat.reduceMod, Nat.reduceLT, Nat.reduceLeDiff, Nat.reduceSub, Nat.reduceMul, Nat.reduceBEq, Int.reduceAdd, Int.reduceSub, Int.reduceMul, Int.reduceNeg, Int.reduceLT, Int.reduceLE, Int.reduceToNat, Int.reduceEq, Int.reduceBEq, e1, beq_eq_false_iff_ne.mpr e2]
      refine (known _ K3).mono ?_
      rintro _ m5 ⟨rfl, k5⟩
      simp -implicitDefEqProofs (disch := (first | omega | (simp only [lenB, lowB_len, numB_len, nsumB_len] <;> omega) | fail)) only [admQ, lenB, lowB_len, numB_len, nsumB_len, aFill, AK.cls, implies_true, ↓reduceIte, reduceCtorEq, if_true, if_false, Nat.reduceAdd, Nat.reduceEqDiff, Nat.reduceMod, Nat.reduceLT, Nat.reduceLeDiff, Nat.reduceSub, Nat.reduceMul, Nat.reduceBEq, Int.reduceAdd, Int.reduceSub, Int.reduceMul, Int.reduceNeg, Int.reduceLT, Int.reduceLE, Int.reduceToNat, Int.reduceEq, Int.reduceBEq]
      exact k5
  · simp -implicitDefEqProofs (disch := (first | omega | (simp only [lenB, lowB_len, numB_len, nsumB_len] <;> omega) | fail)) only [admQ, lenB, lowB_len, numB_len, nsumB_len, aFill, AK.cls, implies_true, ↓reduceIte, reduceCtorEq, if_true, if_false, Nat.reduceAdd, Nat.reduceEqDiff, Nat.reduceMod, Nat.reduceLT, Nat.reduceLeDiff, Nat.reduceSub, Nat.reduceMul, Nat.reduceBEq, Int.reduceAdd, Int.reduceSub, Int.reduceMul, Int.reduceNeg, Int.reduceLT, Int.reduceLE, Int.reduceToNat, Int.reduceEq, Int.reduceBEq, beq_eq_false_iff_ne.mpr e1]
    refine (known _ K3).mono ?_
    rintro _ m5 ⟨rfl, k5⟩
    simp -implicitDefEqProofs (disch := (first | omega | (simp only [lenB, lowB_len, numB_len, nsumB_len] <;> omega) | fail)) only [admQ, lenB, lowB_len, numB_len, nsumB_len, aFill, AK.cls, implies_true, ↓reduceIte, reduceCtorEq, if_true, if_false, Nat.reduceAdd, Nat.reduceEqDiff, Nat.reduceMod, Nat.reduceLT, Nat.reduceLeDiff, Nat.reduceSub, Nat.reduceMul, Nat.reduceBEq, Int.reduceAdd, Int.reduceSub, Int.reduceMul, Int.reduceNeg, Int.reduceLT, Int.reduceLE, Int.reduceToNat, Int.reduceEq, Int.reduceBEq]
    exact k5
end Go.Proofs.YtmnlmjlmbceimaaDoor
end
section
/- Sectors: what was put is read as it was, with either crypt. -/
namespace Go.Proofs.YtmnlmjlmbceimaaDoor
open Go Go.Adm
set_option linter.unusedSimpArgs false
set_option linter.unusedVariables false
set_option maxRecDepth 100000
theorem cyOk_put {c : CyS} {k : Nat} (s : Sec) (h : cyOk c k) : cyOk (putC c s) (k + 1) := by
  cases c with
  | box key => unfold putC; split <;> exact trivial
  | nm S T => rw [putC_nm]; simp only [cyOk] at h ⊢; have := putS_len S s; omega
theorem cyOk_mono {c : CyS} {k k' : Nat} (h : cyOk c k) (hk : k ≤ k') : cyOk c k' := by
  cases c with
  | box key => exact trivial
  | nm S T => exact Nat.le_trans h hk
theorem cyT_put (c : CyS) (s : Sec) : cyT (putC c s) = cyT c := by
  unfold putC; split
  · exact cyT_nx _ _
  · rfl
theorem ans_SectorBack {m : Mem} {s : Sec} {x v : AV} {key : List B8} (hK : rowOf m 0 = some (wds kT)) (hx : RdB m x key) (hv : RdB m v s.p) :
    Ans Tryd.prog 3 [x, secV s v] m fun r m' => r = .bool true ∧ Kept [] m m' := by
  refine ans_ret mixed ok3 ?_
  unfold secV
  have known : ∀ M, Kept [] m M → Ans Tryd.prog 8 [] M fun r m' => r = .bool true ∧ Kept [] m m' := fun M hk =>
    (ans_scknown (hk.row hK (by simp))).mono fun r m' ⟨h1, h2⟩ => ⟨h1, hk.trans h2⟩
  have k0 := Kept.app [] m [Blk.row [.int .i64 s.k, .int .i64 s.e, .int .i64 s.n, .int .i64 s.a, v] false]
  by_cases h1 : (key.length : Int) > 4096
  · simp -implicitDefEqProofs (disch := (first | omega | (simp only [lenB, lowB_len, numB_len, nsumB_len] <;> omega) | fail)) only [admQ, lenB, lowB_len, numB_len, nsumB_len, aFill, AK.cls, implies_true, ↓reduceIte, reduceCtorEq, if_true, if_false, Nat.reduceAdd, Nat.reduceEqDiff, Nat.reduceMod, Nat.reduceLT, Nat.reduceLeDiff, Nat.reduceSub, Nat.reduceMul, Nat.reduceBEq, Int.reduceAdd, Int.reduceSub, Int.reduceMul, Int.reduceNeg, Int.reduceLT, Int.reduceLE, Int.reduceToNat, Int.reduceEq, Int.reduceBEq, c3, r3, (rd_one hv).1, (rd_one hv).2, hx.len, dec_t h1]
    refine (known _ k0).mono ?_
    rintro _ m1 ⟨rfl, k1⟩
    simp -implicitDefEqProofs (disch := (first | omega | (simp only [lenB, lowB_len, numB_len, nsumB_len] <;> omega) | fail)) only [admQ, lenB, lowB_len, numB_len, nsumB_len, aFill, AK.cls, implies_true, ↓reduceIte, reduceCtorEq, if_true, if_false, Nat.reduceAdd, Nat.reduceEqDiff, Nat.reduceMod, Nat.reduceLT, Nat.reduceLeDiff, Nat.reduceSub, Nat.reduceMul, Nat.reduceBEq, Int.reduceAdd, Int.reduceSub, Int.reduceMul, Int.reduceNeg, Int.reduceLT, Int.reduceLE, Int.reduceToNat, Int.reduceEq, Int.reduceBEq]
    exact k1
  by_cases h2 : (s.p.length : Int) > 4096
  · simp -implicitDefEqProofs (disch := (first | omega | (simp only [lenB, lowB_len, numB_len, nsumB_len] <;> omega) | fail)) only [admQ, lenB, lowB_len, numB_len, nsumB_len, aFill, AK.cls, implies_true, ↓reduceIte, reduceCtorEq, if_true, if_false, Nat.reduceAdd, Nat.reduceEqDiff, Nat.reduceMod, Nat.reduceLT, Nat.reduceLeDiff, Nat.reduceSub, Nat.reduceMul, Nat.reduceBEq, Int.reduceAdd, Int.reduceSub, Int.reduceMul, Int.reduceNeg, Int.reduceLT, Int.reduceLE, Int.reduceToNat, Int.reduceEq, Int.reduceBEq, c3, r3, (rd_one hv).1, (rd_one hv).2, hx.len, hv.len, dec_f h1, dec_t h2]
    refine (known _ k0).mono ?_
    rintro _ m1 ⟨rfl, k1⟩
    simp -implicitDefEqProofs (disch := (first | omega | (simp only [lenB, lowB_len, numB_len, nsumB_len] <;> omega) | fail)) only [admQ, lenB, lowB_len, numB_len, nsumB_len, aFill, AK.cls, implies_true, ↓reduceIte, reduceCtorEq, if_true, if_false, Nat.reduceAdd, Nat.reduceEqDiff, Nat.reduceMod, Nat.reduceLT, Nat.reduceLeDiff, Nat.reduceSub, Nat.reduceMul, Nat.reduceBEq, Int.reduceAdd, Int.reduceSub, Int.reduceMul, Int.reduceNeg, Int.reduceLT, Int.reduceLE, Int.reduceToNat, Int.reduceEq, Int.reduceBEq]
    exact k1
  simp -implicitDefEqProofs (disch := (first | omega | (simp only [lenB, lowB_len, numB_len, nsumB_len] <;> omega) | fail)) only [admQ, lenB, lowB_len, numB_len, nsumB_len, aFill, AK.cls, implies_true, ↓reduceIte, reduceCtorEq, if_true, if_false, Nat.reduceAdd, Nat.reduceEqDiff, Nat.reduceMod, Nat.reduceLT, Nat.reduceLeDiff, Nat.reduceSub, Nat.reduceMul, Nat.reduceBEq, Int.reduceAdd, Int.reduceSub, Int.reduceMul, Int.reduceNeg, Int.reduceLT, Int.reduceLE, Int.reduceToNat, Int.reduceEq, Int.reduceBEq, c3, r3, (rd_one hv).1, (rd_one hv).2, hx.len, hv.len, dec_f h1, dec_f h2]
  have o0 : own (m ++ [Blk.row [.int .i64 s.k, .int .i64 s.e, .int .i64 s.n, .int .i64 s.a, v] false]) m.length = some [.int .i64 s.k, .int .i64 s.e, .int .i64 s.n, .int .i64 s.a, v] := by rw [own_app_at0]; rfl
  generalize m ++ [Blk.row [.int .i64 s.k, .int .i64 s.e, .int .i64 s.n, .int .i64 s.a, v] false] = A at k0 o0
  have hvb := hv.blk_lt
  have vA := own_lt o0
  refine (ans_senew (k0.row hK (by simp)) (hx.kept0 k0) (by omega)).mono ?_
  rintro _ m1 ⟨z, c, kb, kk, rfl, k1, hlow, hs⟩
  have hZ : Cy m1 z [] [z, c, kb, kk, 0] (.box key) := ⟨c, kb, kk, hs, rfl, rfl⟩
  simp -implicitDefEqProofs (disch := (first | omega | (simp only [lenB, lowB_len, numB_len, nsumB_len] <;> omega) | fail)) only [admQ, lenB, lowB_len, numB_len, nsumB_len, aFill, AK.cls, implies_true, ↓reduceIte, reduceCtorEq, if_true, if_false, Nat.reduceAdd, Nat.reduceEqDiff, Nat.reduceMod, Nat.reduceLT, Nat.reduceLeDiff, Nat.reduceSub, Nat.reduceMul, Nat.reduceBEq, Int.reduceAdd, Int.reduceSub, Int.reduceMul, Int.reduceNeg, Int.reduceLT, Int.reduceLE, Int.reduceToNat, Int.reduceEq, Int.reduceBEq]
  refine (ans_nnew m1).mono ?_
  rintro _ m2 ⟨y, W, rfl, k2, hN, hW⟩
  have hC : Cy m2 y W W (.nm [] []) := ⟨hN, rfl⟩
  simp -implicitDefEqProofs (disch := (first | omega | (simp only [lenB, lowB_len, numB_len, nsumB_len] <;> omega) | fail)) only [admQ, lenB, lowB_len, numB_len, nsumB_len, aFill, AK.cls, implies_true, ↓reduceIte, reduceCtorEq, if_true, if_false, Nat.reduceAdd, Nat.reduceEqDiff, Nat.reduceMod, Nat.reduceLT, Nat.reduceLeDiff, Nat.reduceSub, Nat.reduceMul, Nat.reduceBEq, Int.reduceAdd, Int.reduceSub, Int.reduceMul, Int.reduceNeg, Int.reduceLT, Int.reduceLE, Int.reduceToNat, Int.reduceEq, Int.reduceBEq]
  generalize hB : m2 ++ _ = B
  have k3 : Kept [] m2 B := by rw [← hB]; exact .app _ _ _
  have oL : own B m2.length = some [.iface 26 (.ptr z 0), .iface 28 (.ptr y 0)] := by rw [← hB, own_app_at0]; rfl
  clear hB
  have K0 := ((k0.trans k1).trans k2).trans k3
  have kA := (k1.trans k2).trans k3
  have hl1 := k1.len
  have hl2 := k2.len
  have hWl := hN.lt
  refine LoopW.on (fun i : Nat => [(3, .ptr m.length 0), (5, .sl m2.length 0 2 2 0), (6, .int .i64 i)]) (fun i => 2 - i)
    (fun i M => i ≤ 2 ∧ Kept [] m M ∧ own M m.length = some [.int .i64 s.k, .int .i64 s.e, .int .i64 s.n, .int .i64 s.a, v] ∧ own M m2.length = some [.iface 26 (.ptr z 0), .iface 28 (.ptr y 0)] ∧
      (i = 0 → Cy M z [] [z, c, kb, kk, 0] (.box key)) ∧ (i ≤ 1 → Cy M y W W (.nm [] []))) ?_ 0 _ _ rfl ⟨by omega, K0, kA.own o0 (by simp), oL, fun _ => (hZ.kept0 k2).kept0 k3, fun _ => hC.kept0 k3⟩
  rintro i M X ⟨hi, KM, oS, oL, hZ, hC⟩ hX
  by_cases hlt : i < 2
  · obtain ⟨d, u, Wd, Rd, hcell, hCy, hok, hW0, hWm⟩ : ∃ d u Wd Rd, ([.iface 26 (.ptr z 0), .iface 28 (.ptr y 0)] : List AV)[i]? = some (.iface (cyT d) (.ptr u 0)) ∧ Cy M u Wd Rd d ∧ cyOk d 999 ∧ (i = 0 → Wd = []) ∧ (∀ q ∈ Wd, A.length ≤ q ∧ q < m2.length) := by
      by_cases h0 : i = 0
      · subst h0
        exact ⟨.box key, z, [], _, rfl, hZ rfl, trivial, fun _ => rfl, by simp⟩
      · obtain rfl : i = 1 := by omega
        exact ⟨.nm [] [], y, W, W, rfl, hC (by omega), (by decide : (0 : Nat) ≤ 999), by simp, fun q hq => ⟨by have := hW q hq; omega, hWl q hq⟩⟩
    have hvM := hv.kept0 KM
    simp -implicitDefEqProofs (disch := (first | omega | (simp only [lenB, lowB_len, numB_len, nsumB_len] <;> omega) | fail)) only [admQ, lenB, lowB_len, numB_len, nsumB_len, aFill, AK.cls, implies_true, ↓reduceIte, reduceCtorEq, if_true, if_false, Nat.reduceAdd, Nat.reduceEqDiff, Nat.reduceMod, Nat.reduceLT, Nat.reduceLeDiff, Nat.reduceSub, Nat.reduceMul, Nat.reduceBEq, Int.reduceAdd, Int.reduceSub, Int.reduceMul, Int.reduceNeg, Int.reduceLT, Int.reduceLE, Int.reduceToNat, Int.reduceEq, Int.reduceBEq, dec_t (show (i : Int) < 2 by omega), rowOf_own oL, hcell, rowOf_own oS]
    refine (ans_scput (s := s) hCy hvM (fun b hb h => by have := hvb b hb; have := (hWm b h).1; omega) (cyOk_mono hok (by omega)) (by omega)).mono ?_
    rintro _ m4 ⟨W4, R4, w4, k4, hC4, hR4, rfl, rw4, bw4⟩
    have oS4 := k4.own oS (fun h => by have := (hWm _ h).1; omega)
    have oL4 := k4.own oL (fun h => by have := (hWm _ h).2; omega)
    have hv4 : RdB m4 v s.p := rdb_ap hvM k4 fun q hq h => by have := hvb q hq; have := (hWm q h).1; omega
    have K4 : Kept [] m m4 := KM.upon k4 fun q hq => by have := (hWm q hq).1; omega
    simp -implicitDefEqProofs (disch := (first | omega | (simp only [lenB, lowB_len, numB_len, nsumB_len] <;> omega) | fail)) only [admQ, lenB, lowB_len, numB_len, nsumB_len, aFill, AK.cls, implies_true, ↓reduceIte, reduceCtorEq, if_true, if_false, Nat.reduceAdd, Nat.reduceEqDiff, Nat.reduceMod, Nat.reduceLT, Nat.reduceLeDiff, Nat.reduceSub, Nat.reduceMul, Nat.reduceBEq, Int.reduceAdd, Int.reduceSub, Int.reduceMul, Int.reduceNeg, Int.reduceLT, Int.reduceLE, Int.reduceToNat, Int.reduceEq, Int.reduceBEq, rowOf_own oS, rowOf_own oS4, rowOf_own oL, rowOf_own oL4, hcell]
    refine (ans_scmay (s := s) hv4).mono ?_
    rintro _ m5 ⟨rfl, k5⟩
    have oS5 := k5.own oS4 (by simp)
    have oL5 := k5.own oL4 (by simp)
    have K5 := K4.trans k5
    have hC5 : i + 1 ≤ 1 → ∀ M', Kept [] m5 M' → Cy M' y W W (.nm [] []) := fun h0 M' h => by
      rw [hW0 (by omega)] at k4
      exact (((hC (by omega)).kept0 k4).kept0 k5).kept0 h
    by_cases hok1 : okP s
    · have he := (errP_ok s).mpr hok1
      rw [he, dec_t hok1]
      obtain ⟨g1, g2⟩ := get_put (c := d) (c2 := putC d s) hok1 (putC_ok hok1)
      obtain ⟨p1, -, -, -⟩ := putL_parts (c := d) hok1
      have hpl := putL_len (c := d) hok1
      have rw5 := rw4.kept0 k5
      have h975 := hok1.2.2
      simp -implicitDefEqProofs (disch := (first | omega | (simp only [lenB, lowB_len, numB_len, nsumB_len] <;> omega) | fail)) only [admQ, lenB, lowB_len, numB_len, nsumB_len, aFill, AK.cls, implies_true, ↓reduceIte, reduceCtorEq, if_true, if_false, Nat.reduceAdd, Nat.reduceEqDiff, Nat.reduceMod, Nat.reduceLT, Nat.reduceLeDiff, Nat.reduceSub, Nat.reduceMul, Nat.reduceBEq, Int.reduceAdd, Int.reduceSub, Int.reduceMul, Int.reduceNeg, Int.reduceLT, Int.reduceLE, Int.reduceToNat, Int.reduceEq, Int.reduceBEq, Bool.not_true, rowOf_own oL5, hcell, rowOf_own oS5]
      rw [← cyT_put d s]
      refine (ans_scget (k := s.k) (a := s.a) (hC4.kept0 k5) rw5 (cyOk_put s hok) (by omega)).mono ?_
      rintro _ m6 ⟨k6, w6, rfl, rw6, bw6⟩
      have oS6 := k6.own oS5 (by simp)
      have oL6 := k6.own oL5 (by simp)
      rw [g1, g2] at *
      unfold secV
      simp -implicitDefEqProofs (disch := (first | omega | (simp only [lenB, lowB_len, numB_len, nsumB_len] <;> omega) | fail)) only [admQ, lenB, lowB_len, numB_len, nsumB_len, aFill, AK.cls, implies_true, ↓reduceIte, reduceCtorEq, if_true, if_false, Nat.reduceAdd, Nat.reduceEqDiff, Nat.reduceMod, Nat.reduceLT, Nat.reduceLeDiff, Nat.reduceSub, Nat.reduceMul, Nat.reduceBEq, Int.reduceAdd, Int.reduceSub, Int.reduceMul, Int.reduceNeg, Int.reduceLT, Int.reduceLE, Int.reduceToNat, Int.reduceEq, Int.reduceBEq, cyT_put, rowOf_own oL6, hcell, rowOf_own oS6, rowOf_own oL5, rowOf_own oS5, (rd_one rw6).1, (rd_one rw6).2]
      generalize hE : m6 ++ _ = E
      have k7 : Kept [] m6 E := by rw [← hE]; exact .app _ _ _
      have o7 : own E m6.length = some [.int .i64 s.k, .int .i64 s.e, .int .i64 s.n, .int .i64 s.a, w6] := by rw [← hE, own_app_at0]; rfl
      clear hE
      have oS7 := k7.own oS6 (by simp)
      have oL7 := k7.own oL6 (by simp)
      have k57 := k6.trans k7
      have rw7 := rw5.kept0 k57
      simp -implicitDefEqProofs (disch := (first | omega | (simp only [lenB, lowB_len, numB_len, nsumB_len] <;> omega) | fail)) only [admQ, lenB, lowB_len, numB_len, nsumB_len, aFill, AK.cls, implies_true, ↓reduceIte, reduceCtorEq, if_true, if_false, Nat.reduceAdd, Nat.reduceEqDiff, Nat.reduceMod, Nat.reduceLT, Nat.reduceLeDiff, Nat.reduceSub, Nat.reduceMul, Nat.reduceBEq, Int.reduceAdd, Int.reduceSub, Int.reduceMul, Int.reduceNeg, Int.reduceLT, Int.reduceLE, Int.reduceToNat, Int.reduceEq, Int.reduceBEq, rowOf_own oS7, rowOf_own o7]
      refine (ans_samesector (s := s) (t := s) (rw6.kept0 k7) ((hv4.kept0 k5).kept0 k57) (by omega)).mono ?_
      rintro _ m8 ⟨rfl, k8⟩
      have oS8 := k8.own oS7 (by simp)
      have oL8 := k8.own oL7 (by simp)
      have o8 := k8.own o7 (by simp)
      have rw8 := rw7.kept0 k8
      have hlq : (((49 + s.p.length : Nat) : Int) == 49 + (s.p.length : Int)) = true := by rw [beq_iff_eq]; omega
      simp -implicitDefEqProofs (disch := (first | omega | (simp only [lenB, lowB_len, numB_len, nsumB_len] <;> omega) | fail)) only [admQ, lenB, lowB_len, numB_len, nsumB_len, aFill, AK.cls, implies_true, ↓reduceIte, reduceCtorEq, if_true, if_false, Nat.reduceAdd, Nat.reduceEqDiff, Nat.reduceMod, Nat.reduceLT, Nat.reduceLeDiff, Nat.reduceSub, Nat.reduceMul, Nat.reduceBEq, Int.reduceAdd, Int.reduceSub, Int.reduceMul, Int.reduceNeg, Int.reduceLT, Int.reduceLE, Int.reduceToNat, Int.reduceEq, Int.reduceBEq, rowOf_own oS7, rowOf_own oS8, rowOf_own o8, rowOf_own o7, decide_true, Bool.not_true, rw8.len, (((hv4.kept0 k5).kept0 k57).kept0 k8).len, hpl, hlq]
      refine (ans_sckind rw8).mono ?_
      rintro _ M9 ⟨rfl, hM⟩
      subst hM
      rw [p1]
      simp -implicitDefEqProofs (disch := (first | omega | (simp only [lenB, lowB_len, numB_len, nsumB_len] <;> omega) | fail)) only [admQ, lenB, lowB_len, numB_len, nsumB_len, aFill, AK.cls, implies_true, ↓reduceIte, reduceCtorEq, if_true, if_false, Nat.reduceAdd, Nat.reduceEqDiff, Nat.reduceMod, Nat.reduceLT, Nat.reduceLeDiff, Nat.reduceSub, Nat.reduceMul, Nat.reduceBEq, Int.reduceAdd, Int.reduceSub, Int.reduceMul, Int.reduceNeg, Int.reduceLT, Int.reduceLE, Int.reduceToNat, Int.reduceEq, Int.reduceBEq, rowOf_own oS7, rowOf_own oS8, rowOf_own o8, rowOf_own o7, beq_self_eq_true, Bool.not_true]
      exact hX (i + 1) _ _ rfl (by omega) ⟨by omega, (K5.trans k57).trans k8, oS8, oL8, by omega, fun h => hC5 h _ (k57.trans k8)⟩
    · have he : ¬ errP s = 0 := fun h => hok1 ((errP_ok s).mp h)
      rw [dec_f hok1]
      have hpl : putL d s = [] := by rw [putL, if_neg hok1]
      rw [hpl] at rw4
      simp -implicitDefEqProofs (disch := (first | omega | (simp only [lenB, lowB_len, numB_len, nsumB_len] <;> omega) | fail)) only [admQ, lenB, lowB_len, numB_len, nsumB_len, aFill, AK.cls, implies_true, ↓reduceIte, reduceCtorEq, if_true, if_false, Nat.reduceAdd, Nat.reduceEqDiff, Nat.reduceMod, Nat.reduceLT, Nat.reduceLeDiff, Nat.reduceSub, Nat.reduceMul, Nat.reduceBEq, Int.reduceAdd, Int.reduceSub, Int.reduceMul, Int.reduceNeg, Int.reduceLT, Int.reduceLE, Int.reduceToNat, Int.reduceEq, Int.reduceBEq, beq_eq_false_iff_ne.mpr he, Bool.not_false, (rw4.kept0 k5).len]
      exact hX (i + 1) _ _ rfl (by omega) ⟨by omega, K5, oS5, oL5, by omega, fun h => hC5 h _ (.refl _ _)⟩
  · simp -implicitDefEqProofs (disch := (first | omega | (simp only [lenB, lowB_len, numB_len, nsumB_len] <;> omega) | fail)) only [admQ, lenB, lowB_len, numB_len, nsumB_len, aFill, AK.cls, implies_true, ↓reduceIte, reduceCtorEq, if_true, if_false, Nat.reduceAdd, Nat.reduceEqDiff, Nat.reduceMod, Nat.reduceLT, Nat.reduceLeDiff, Nat.reduceSub, Nat.reduceMul, Nat.reduceBEq, Int.reduceAdd, Int.reduceSub, Int.reduceMul, Int.reduceNeg, Int.reduceLT, Int.reduceLE, Int.reduceToNat, Int.reduceEq, Int.reduceBEq, dec_f (show ¬ (i : Int) < 2 by omega)]
    refine (known _ KM).mono ?_
    rintro _ m5 ⟨rfl, k5⟩
    simp -implicitDefEqProofs (disch := (first | omega | (simp only [lenB, lowB_len, numB_len, nsumB_len] <;> omega) | fail)) only [admQ, lenB, lowB_len, numB_len, nsumB_len, aFill, AK.cls, implies_true, ↓reduceIte, reduceCtorEq, if_true, if_false, Nat.reduceAdd, Nat.reduceEqDiff, Nat.reduceMod, Nat.reduceLT, Nat.reduceLeDiff, Nat.reduceSub, Nat.reduceMul, Nat.reduceBEq, Int.reduceAdd, Int.reduceSub, Int.reduceMul, Int.reduceNeg, Int.reduceLT, Int.reduceLE, Int.reduceToNat, Int.reduceEq, Int.reduceBEq]
    exact k5
end Go.Proofs.YtmnlmjlmbceimaaDoor
end
