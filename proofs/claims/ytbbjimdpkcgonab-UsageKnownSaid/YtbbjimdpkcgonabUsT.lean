/- The document's Take; both tables. -/
import Derived.Test.YtbbjimdpkcgonabUsS
namespace Go.Proofs.Ytbbjimdpkcgonab
open Go Go.Adm
set_option linter.unusedSimpArgs false
set_option linter.unusedVariables false
set_option maxRecDepth 100000

def shutF (x : Sg) : Sg := if x.st == 1 then ⟨2, x.lv, x.ag⟩ else x
theorem shut_none {l : List Sg} (h : ¬ 0 ≤ idxOf 1 l) : l.map shutF = l := by
  induction l with
  | nil => rfl
  | cons a l ih =>
    rw [idxOf_cons] at h
    cases ha : a.st == 1
    · rw [ha] at h
      simp only [Bool.false_eq_true, if_false] at h
      have h' : ¬ 0 ≤ idxOf 1 l := by
        intro hc; rw [if_pos hc] at h; omega
      simp [shutF, ha, ih h']
    · rw [ha] at h; simp at h
theorem OneOpen.tail {a : Sg} {l : List Sg} (h : OneOpen (a :: l)) : OneOpen l := fun i j x y hx hy h1 h2 => by
  have := h (i + 1) (j + 1) x y (by simpa using hx) (by simpa using hy) h1 h2
  omega
theorem shut_one {l : List Sg} (ho : OneOpen l) (h : 0 ≤ idxOf 1 l) {x : Sg} (hx : l[(idxOf 1 l).toNat]? = some x) : l.map shutF = l.set (idxOf 1 l).toNat ⟨2, x.lv, x.ag⟩ := by
  induction l with
  | nil => simp [idxOf] at h
  | cons a l ih =>
    rw [idxOf_cons] at h hx ⊢
    cases ha : a.st == 1
    · rw [ha] at h hx
      simp only [Bool.false_eq_true, if_false] at h hx ⊢
      by_cases hc : 0 ≤ idxOf 1 l
      · rw [if_pos hc] at hx ⊢
        have e : (idxOf 1 l + 1).toNat = (idxOf 1 l).toNat + 1 := by omega
        rw [e] at hx ⊢
        rw [List.set_cons_succ, List.map_cons, ih ho.tail hc (by simpa using hx)]
        simp [shutF, ha]
      · rw [if_neg hc] at h; omega
    · rw [ha] at hx
      simp only [if_true, Int.toNat_zero, List.getElem?_cons_zero, Option.some.injEq, List.set_cons_zero] at hx ⊢
      subst hx
      have hn : ¬ 0 ≤ idxOf 1 l := by
        intro hc
        obtain ⟨y, hy, hy1, _, _⟩ := idxOf_found hc
        have := ho 0 ((idxOf 1 l).toNat + 1) a y rfl (by simpa using hy) (by simpa using ha) hy1
        omega
      rw [List.map_cons, shut_none hn]
      simp [shutF, ha]
theorem takeM_shut {l : List Sg} (ho : OneOpen l) (now : Int) (h : 0 ≤ idxOf 0 l) : takeM now l = (idxOf 0 l, true, (l.map shutF).set (idxOf 0 l).toNat ⟨1, 0, cutI now 1099511627776⟩) := by
  unfold takeM
  rw [if_pos h]
  by_cases h1 : 0 ≤ idxOf 1 l
  · obtain ⟨x, hx, _⟩ := idxOf_found h1
    rw [if_pos h1, hx, shut_one ho h1 hx]
  · rw [if_neg h1, shut_none h1]

theorem ans_rtake {m : Mem} {p b : Nat} {l : List Sg} (h : TabR m p b l) (hl : l.length ≤ 64) (ho : OneOpen l) (now : Int) : Ans Try.prog 33 [.ptr p 0, .int .i64 now] m fun r m' => r = .tup [.int .i64 (takeM now l).1, .bool (takeM now l).2.1] ∧ PutR m m' p b (takeM now l).2.2 := by
  refine ans_ret mixed ok33 ?_
  obtain ⟨x, hx, hlst⟩ := h.ex
  simp -implicitDefEqProofs only [Go.Adm.adm, wantedA, evalAll, AX.eval, AFr.get, AFr.set, AFr.put, AFr.cut, frameOf, AK.loud, pMv, pPick, aPick, pNil, pArith, pShift, pCmp, pEq, pEqAgg, pNot, pNeg, pBnot, pConv, pArrPtr, pSlice, pSliceArr, pFieldAddr, pPart, pIdxAddr, pIdxAddrArr, pIdxArr, pIdxStr, pExtract, pLenStr, pLenArr, pMin, pMax, pIface, aArith, aShift, aCmp, aEq, aEqCk, aEqCells, aPart, bounds, bnd, rLoad, mkAlloc, mkBox, mkMake, w2, aStore, aFill, cellsV, AV.solid, undefA, resAll, resOne, resVal, pendOk, pastOk, cutCons, List.append_assoc, List.length_append, List.set_cons_zero, List.set_cons_succ, List.singleton_append, List.getElem?_cons_zero, List.getElem?_cons_succ, List.getElem?_nil, implies_true, false_implies, true_implies, Int.cast_ofNat_Int, Bool.and_true, Bool.true_and, Bool.false_and, Bool.and_false, Bool.or_true, Bool.or_false, Bool.true_or, Bool.false_or, Option.bind_some, Option.map_some, Option.bind_none, Option.map_none, Option.isSome_some, if_true, if_false, reduceCtorEq, Nat.reduceAdd, Nat.reduceEqDiff, Nat.reduceMod, Nat.reduceLT, Nat.reduceLeDiff, Nat.reduceSub, Nat.reduceMul, Int.reduceAdd, Int.reduceSub, Int.reduceMul, Int.reduceNeg, Int.reduceLT, Int.reduceLE, Int.reduceToNat, Bool.false_eq_true, beq_self_eq_true, ↓reduceIte, List.length_nil, List.length_cons, List.take, List.drop, List.nil_append, List.cons_append, beq_true, beq_false, Bool.not_true, Bool.not_false, Nat.zero_add, Nat.add_zero, Nat.mul_one, and_true, true_and, List.append_nil, decide_true, decide_false, not_true_eq_false, not_false_eq_true, c33, r33]
  refine LoopW.on (fun i : Nat => [(0, .ptr p 0), (1, .int .i64 now), (6, .int .i64 i)]) (fun i => l.length - i) (fun i m' => m' = m ∧ i ≤ l.length ∧ ∀ j (h : j < l.length), j < i → l[j].st ≠ 0) ?_ 0 _ _ rfl ⟨rfl, by omega, fun _ _ h => by omega⟩
  rintro i m2 X ⟨hm2, hi, hn⟩ hX
  replace hm2 := hm2.symm
  subst hm2
  by_cases h1 : (i : Int) < (l.length : Int)
  · have hi' : i < l.length := by omega
    have e1 : (0 : Int) ≤ (i : Int) ∧ (i : Int) < (l.length : Int) := ⟨by omega, h1⟩
    obtain ⟨cap, s, rfl, hb⟩ := hlst.cons hi'
    have hg : l[i]? = some l[i] := List.getElem?_eq_getElem hi'
    cases h2 : l[i].st == 0
    · simp -implicitDefEqProofs only [Go.Adm.adm, wantedA, evalAll, AX.eval, AFr.get, AFr.set, AFr.put, AFr.cut, frameOf, AK.loud, pMv, pPick, aPick, pNil, pArith, pShift, pCmp, pEq, pEqAgg, pNot, pNeg, pBnot, pConv, pArrPtr, pSlice, pSliceArr, pFieldAddr, pPart, pIdxAddr, pIdxAddrArr, pIdxArr, pIdxStr, pExtract, pLenStr, pLenArr, pMin, pMax, pIface, aArith, aShift, aCmp, aEq, aEqCk, aEqCells, aPart, bounds, bnd, rLoad, mkAlloc, mkBox, mkMake, w2, aStore, aFill, cellsV, AV.solid, undefA, resAll, resOne, resVal, pendOk, pastOk, cutCons, List.append_assoc, List.length_append, List.set_cons_zero, List.set_cons_succ, List.singleton_append, List.getElem?_cons_zero, List.getElem?_cons_succ, List.getElem?_nil, implies_true, false_implies, true_implies, Int.cast_ofNat_Int, Bool.and_true, Bool.true_and, Bool.false_and, Bool.and_false, Bool.or_true, Bool.or_false, Bool.true_or, Bool.false_or, Option.bind_some, Option.map_some, Option.bind_none, Option.map_none, Option.isSome_some, if_true, if_false, reduceCtorEq, Nat.reduceAdd, Nat.reduceEqDiff, Nat.reduceMod, Nat.reduceLT, Nat.reduceLeDiff, Nat.reduceSub, Nat.reduceMul, Int.reduceAdd, Int.reduceSub, Int.reduceMul, Int.reduceNeg, Int.reduceLT, Int.reduceLE, Int.reduceToNat, Bool.false_eq_true, beq_self_eq_true, ↓reduceIte, List.length_nil, List.length_cons, List.take, List.drop, List.nil_append, List.cons_append, beq_true, beq_false, Bool.not_true, Bool.not_false, Nat.zero_add, Nat.add_zero, Nat.mul_one, and_true, true_and, List.append_nil, decide_true, decide_false, not_true_eq_false, not_false_eq_true, rowOf_own hx, rowOf_own hb, h1, e1, flat_st hg, Int.toNat_natCast, h2]
      rw [wrap_i64 (by omega) (by omega)]
      refine hX (i + 1) _ _ rfl (by omega) ⟨rfl, by omega, fun j hj hlt => ?_⟩
      by_cases hji : j = i
      · subst hji; simpa using h2
      · exact hn j hj (by omega)
    · have hidx : idxOf 0 l = i := idxOf_some hi' (by simpa using h2) hn
      have htk := takeM_shut ho now (by omega)
      rw [hidx, Int.toNat_natCast] at htk
      rw [htk]
      simp -implicitDefEqProofs only [Go.Adm.adm, wantedA, evalAll, AX.eval, AFr.get, AFr.set, AFr.put, AFr.cut, frameOf, AK.loud, pMv, pPick, aPick, pNil, pArith, pShift, pCmp, pEq, pEqAgg, pNot, pNeg, pBnot, pConv, pArrPtr, pSlice, pSliceArr, pFieldAddr, pPart, pIdxAddr, pIdxAddrArr, pIdxArr, pIdxStr, pExtract, pLenStr, pLenArr, pMin, pMax, pIface, aArith, aShift, aCmp, aEq, aEqCk, aEqCells, aPart, bounds, bnd, rLoad, mkAlloc, mkBox, mkMake, w2, aStore, aFill, cellsV, AV.solid, undefA, resAll, resOne, resVal, pendOk, pastOk, cutCons, List.append_assoc, List.length_append, List.set_cons_zero, List.set_cons_succ, List.singleton_append, List.getElem?_cons_zero, List.getElem?_cons_succ, List.getElem?_nil, implies_true, false_implies, true_implies, Int.cast_ofNat_Int, Bool.and_true, Bool.true_and, Bool.false_and, Bool.and_false, Bool.or_true, Bool.or_false, Bool.true_or, Bool.false_or, Option.bind_some, Option.map_some, Option.bind_none, Option.map_none, Option.isSome_some, if_true, if_false, reduceCtorEq, Nat.reduceAdd, Nat.reduceEqDiff, Nat.reduceMod, Nat.reduceLT, Nat.reduceLeDiff, Nat.reduceSub, Nat.reduceMul, Int.reduceAdd, Int.reduceSub, Int.reduceMul, Int.reduceNeg, Int.reduceLT, Int.reduceLE, Int.reduceToNat, Bool.false_eq_true, beq_self_eq_true, ↓reduceIte, List.length_nil, List.length_cons, List.take, List.drop, List.nil_append, List.cons_append, beq_true, beq_false, Bool.not_true, Bool.not_false, Nat.zero_add, Nat.add_zero, Nat.mul_one, and_true, true_and, List.append_nil, decide_true, decide_false, not_true_eq_false, not_false_eq_true, rowOf_own hx, rowOf_own hb, h1, e1, flat_st hg, Int.toNat_natCast, h2]
      refine LoopW.on (fun k : Nat => [(0, .ptr p 0), (1, .int .i64 now), (6, .int .i64 i), (7, .int .i64 k)]) (fun k => l.length - k) (fun k m' => k ≤ l.length ∧ PutR m m' p b (upTo shutF l k)) ?_ 0 _ _ rfl ⟨by omega, .refl _ _, by rw [upTo_zero]; exact h⟩
      rintro k m3 X2 ⟨hk, hp⟩ hX2
      have hll := upTo_len shutF l k
      by_cases g1 : (k : Int) < (l.length : Int)
      · have hk' : k < l.length := by omega
        have hgk := upTo_get shutF l k hk'
        have hgs := upTo_succ shutF l k hk'
        have hgp := upTo_keep shutF l k hk'
        obtain ⟨cap, s, hx, hb⟩ := hp.tab.cons (i := k) (by omega)
        have hp2 := hp.tab.put (i := k) (by omega) (l' := upTo shutF l (k + 1)) (by rw [upTo_len, upTo_len])
        generalize hL : upTo shutF l k = L at *
        have e1 : (0 : Int) ≤ (k : Int) ∧ (k : Int) < (L.length : Int) := ⟨by omega, by omega⟩
        have h1' : (k : Int) < (L.length : Int) := e1.2
        cases h2 : l[k].st == 1
        · simp -implicitDefEqProofs only [Go.Adm.adm, wantedA, evalAll, AX.eval, AFr.get, AFr.set, AFr.put, AFr.cut, frameOf, AK.loud, pMv, pPick, aPick, pNil, pArith, pShift, pCmp, pEq, pEqAgg, pNot, pNeg, pBnot, pConv, pArrPtr, pSlice, pSliceArr, pFieldAddr, pPart, pIdxAddr, pIdxAddrArr, pIdxArr, pIdxStr, pExtract, pLenStr, pLenArr, pMin, pMax, pIface, aArith, aShift, aCmp, aEq, aEqCk, aEqCells, aPart, bounds, bnd, rLoad, mkAlloc, mkBox, mkMake, w2, aStore, aFill, cellsV, AV.solid, undefA, resAll, resOne, resVal, pendOk, pastOk, cutCons, List.append_assoc, List.length_append, List.set_cons_zero, List.set_cons_succ, List.singleton_append, List.getElem?_cons_zero, List.getElem?_cons_succ, List.getElem?_nil, implies_true, false_implies, true_implies, Int.cast_ofNat_Int, Bool.and_true, Bool.true_and, Bool.false_and, Bool.and_false, Bool.or_true, Bool.or_false, Bool.true_or, Bool.false_or, Option.bind_some, Option.map_some, Option.bind_none, Option.map_none, Option.isSome_some, if_true, if_false, reduceCtorEq, Nat.reduceAdd, Nat.reduceEqDiff, Nat.reduceMod, Nat.reduceLT, Nat.reduceLeDiff, Nat.reduceSub, Nat.reduceMul, Int.reduceAdd, Int.reduceSub, Int.reduceMul, Int.reduceNeg, Int.reduceLT, Int.reduceLE, Int.reduceToNat, Bool.false_eq_true, beq_self_eq_true, ↓reduceIte, List.length_nil, List.length_cons, List.take, List.drop, List.nil_append, List.cons_append, beq_true, beq_false, Bool.not_true, Bool.not_false, Nat.zero_add, Nat.add_zero, Nat.mul_one, and_true, true_and, List.append_nil, decide_true, decide_false, not_true_eq_false, not_false_eq_true, rowOf_own hx, rowOf_own hb, h1', e1, flat_st hgk, Int.toNat_natCast, h2]
          rw [wrap_i64 (by omega) (by omega)]
          refine hX2 (k + 1) _ _ rfl (by omega) ⟨by omega, ?_⟩
          rw [← hgp (by simp [shutF, h2])]; exact hp
        · have hle := flat_le hgk (j := 1) (by omega)
          have hall := set_st hgk 2
          have : shutF l[k] = ⟨2, l[k].lv, l[k].ag⟩ := by simp [shutF, h2]
          rw [this] at hgs
          rw [hgs] at hall
          simp -implicitDefEqProofs only [Go.Adm.adm, wantedA, evalAll, AX.eval, AFr.get, AFr.set, AFr.put, AFr.cut, frameOf, AK.loud, pMv, pPick, aPick, pNil, pArith, pShift, pCmp, pEq, pEqAgg, pNot, pNeg, pBnot, pConv, pArrPtr, pSlice, pSliceArr, pFieldAddr, pPart, pIdxAddr, pIdxAddrArr, pIdxArr, pIdxStr, pExtract, pLenStr, pLenArr, pMin, pMax, pIface, aArith, aShift, aCmp, aEq, aEqCk, aEqCells, aPart, bounds, bnd, rLoad, mkAlloc, mkBox, mkMake, w2, aStore, aFill, cellsV, AV.solid, undefA, resAll, resOne, resVal, pendOk, pastOk, cutCons, List.append_assoc, List.length_append, List.set_cons_zero, List.set_cons_succ, List.singleton_append, List.getElem?_cons_zero, List.getElem?_cons_succ, List.getElem?_nil, implies_true, false_implies, true_implies, Int.cast_ofNat_Int, Bool.and_true, Bool.true_and, Bool.false_and, Bool.and_false, Bool.or_true, Bool.or_false, Bool.true_or, Bool.false_or, Option.bind_some, Option.map_some, Option.bind_none, Option.map_none, Option.isSome_some, if_true, if_false, reduceCtorEq, Nat.reduceAdd, Nat.reduceEqDiff, Nat.reduceMod, Nat.reduceLT, Nat.reduceLeDiff, Nat.reduceSub, Nat.reduceMul, Int.reduceAdd, Int.reduceSub, Int.reduceMul, Int.reduceNeg, Int.reduceLT, Int.reduceLE, Int.reduceToNat, Bool.false_eq_true, beq_self_eq_true, ↓reduceIte, List.length_nil, List.length_cons, List.take, List.drop, List.nil_append, List.cons_append, beq_true, beq_false, Bool.not_true, Bool.not_false, Nat.zero_add, Nat.add_zero, Nat.mul_one, and_true, true_and, List.append_nil, decide_true, decide_false, not_true_eq_false, not_false_eq_true, rowOf_own hx, rowOf_own hb, hb, h1', e1, flat_st hgk, Int.toNat_natCast, h2, hle, hall]
          rw [wrap_i64 (by omega) (by omega)]
          exact hX2 (k + 1) _ _ rfl (by omega) ⟨by omega, hp.kept.trans hp2.kept, hp2.tab⟩
      · obtain ⟨cap, s, hx, hb⟩ := hp.tab.cons (i := i) (by omega)
        have h1' : ¬ (k : Int) < ((upTo shutF l k).length : Int) := by rw [hll]; exact g1
        obtain rfl : k = l.length := by omega
        have hia : i < (upTo shutF l l.length).length := by omega
        obtain ⟨z, hz⟩ : ∃ z, (upTo shutF l l.length)[i]? = some z := ⟨_, List.getElem?_eq_getElem hia⟩
        have hle := flat_le hz (j := 3) (by omega)
        have hall := set_all hz 1 0 (cutI now 1099511627776)
        have hp2 := hp.tab.put hia (l' := (upTo shutF l l.length).set i ⟨1, 0, cutI now 1099511627776⟩) (by simp)
        have hd2 : own (m3.set b (.row (flat ((upTo shutF l l.length).set i ⟨1, 0, cutI now 1099511627776⟩)) false)) p = own m3 p := own_set_ne (Ne.symm h.ne) _
        rw [hx] at hd2
        rw [upTo_all] at *
        have e1 : (0 : Int) ≤ (i : Int) ∧ (i : Int) < ((l.map shutF).length : Int) := ⟨by omega, by rw [hll]; omega⟩
        simp -implicitDefEqProofs only [Go.Adm.adm, wantedA, evalAll, AX.eval, AFr.get, AFr.set, AFr.put, AFr.cut, frameOf, AK.loud, pMv, pPick, aPick, pNil, pArith, pShift, pCmp, pEq, pEqAgg, pNot, pNeg, pBnot, pConv, pArrPtr, pSlice, pSliceArr, pFieldAddr, pPart, pIdxAddr, pIdxAddrArr, pIdxArr, pIdxStr, pExtract, pLenStr, pLenArr, pMin, pMax, pIface, aArith, aShift, aCmp, aEq, aEqCk, aEqCells, aPart, bounds, bnd, rLoad, mkAlloc, mkBox, mkMake, w2, aStore, aFill, cellsV, AV.solid, undefA, resAll, resOne, resVal, pendOk, pastOk, cutCons, List.append_assoc, List.length_append, List.set_cons_zero, List.set_cons_succ, List.singleton_append, List.getElem?_cons_zero, List.getElem?_cons_succ, List.getElem?_nil, implies_true, false_implies, true_implies, Int.cast_ofNat_Int, Bool.and_true, Bool.true_and, Bool.false_and, Bool.and_false, Bool.or_true, Bool.or_false, Bool.true_or, Bool.false_or, Option.bind_some, Option.map_some, Option.bind_none, Option.map_none, Option.isSome_some, if_true, if_false, reduceCtorEq, Nat.reduceAdd, Nat.reduceEqDiff, Nat.reduceMod, Nat.reduceLT, Nat.reduceLeDiff, Nat.reduceSub, Nat.reduceMul, Int.reduceAdd, Int.reduceSub, Int.reduceMul, Int.reduceNeg, Int.reduceLT, Int.reduceLE, Int.reduceToNat, Bool.false_eq_true, beq_self_eq_true, ↓reduceIte, List.length_nil, List.length_cons, List.take, List.drop, List.nil_append, List.cons_append, beq_true, beq_false, Bool.not_true, Bool.not_false, Nat.zero_add, Nat.add_zero, Nat.mul_one, and_true, true_and, List.append_nil, decide_true, decide_false, not_true_eq_false, not_false_eq_true, rowOf_own hx, h1']
        refine (ans_rnow _ _).mono ?_
        rintro _ m4 ⟨rfl, rfl⟩
        simp -implicitDefEqProofs only [Go.Adm.adm, wantedA, evalAll, AX.eval, AFr.get, AFr.set, AFr.put, AFr.cut, frameOf, AK.loud, pMv, pPick, aPick, pNil, pArith, pShift, pCmp, pEq, pEqAgg, pNot, pNeg, pBnot, pConv, pArrPtr, pSlice, pSliceArr, pFieldAddr, pPart, pIdxAddr, pIdxAddrArr, pIdxArr, pIdxStr, pExtract, pLenStr, pLenArr, pMin, pMax, pIface, aArith, aShift, aCmp, aEq, aEqCk, aEqCells, aPart, bounds, bnd, rLoad, mkAlloc, mkBox, mkMake, w2, aStore, aFill, cellsV, AV.solid, undefA, resAll, resOne, resVal, pendOk, pastOk, cutCons, List.append_assoc, List.length_append, List.set_cons_zero, List.set_cons_succ, List.singleton_append, List.getElem?_cons_zero, List.getElem?_cons_succ, List.getElem?_nil, implies_true, false_implies, true_implies, Int.cast_ofNat_Int, Bool.and_true, Bool.true_and, Bool.false_and, Bool.and_false, Bool.or_true, Bool.or_false, Bool.true_or, Bool.false_or, Option.bind_some, Option.map_some, Option.bind_none, Option.map_none, Option.isSome_some, if_true, if_false, reduceCtorEq, Nat.reduceAdd, Nat.reduceEqDiff, Nat.reduceMod, Nat.reduceLT, Nat.reduceLeDiff, Nat.reduceSub, Nat.reduceMul, Int.reduceAdd, Int.reduceSub, Int.reduceMul, Int.reduceNeg, Int.reduceLT, Int.reduceLE, Int.reduceToNat, Bool.false_eq_true, beq_self_eq_true, ↓reduceIte, List.length_nil, List.length_cons, List.take, List.drop, List.nil_append, List.cons_append, beq_true, beq_false, Bool.not_true, Bool.not_false, Nat.zero_add, Nat.add_zero, Nat.mul_one, and_true, true_and, List.append_nil, decide_true, decide_false, not_true_eq_false, not_false_eq_true, rowOf_own hx, e1, Int.toNat_natCast, hb, hle, hall, rowOf_own hd2]
        exact ⟨hp.kept.trans hp2.kept, hp2.tab⟩
  · have hno : idxOf 0 l = -1 := idxOf_none fun j hj => hn j hj (by omega)
    have : takeM now l = (0, false, l) := by unfold takeM; rw [hno]; rfl
    rw [this]
    simp -implicitDefEqProofs only [Go.Adm.adm, wantedA, evalAll, AX.eval, AFr.get, AFr.set, AFr.put, AFr.cut, frameOf, AK.loud, pMv, pPick, aPick, pNil, pArith, pShift, pCmp, pEq, pEqAgg, pNot, pNeg, pBnot, pConv, pArrPtr, pSlice, pSliceArr, pFieldAddr, pPart, pIdxAddr, pIdxAddrArr, pIdxArr, pIdxStr, pExtract, pLenStr, pLenArr, pMin, pMax, pIface, aArith, aShift, aCmp, aEq, aEqCk, aEqCells, aPart, bounds, bnd, rLoad, mkAlloc, mkBox, mkMake, w2, aStore, aFill, cellsV, AV.solid, undefA, resAll, resOne, resVal, pendOk, pastOk, cutCons, List.append_assoc, List.length_append, List.set_cons_zero, List.set_cons_succ, List.singleton_append, List.getElem?_cons_zero, List.getElem?_cons_succ, List.getElem?_nil, implies_true, false_implies, true_implies, Int.cast_ofNat_Int, Bool.and_true, Bool.true_and, Bool.false_and, Bool.and_false, Bool.or_true, Bool.or_false, Bool.true_or, Bool.false_or, Option.bind_some, Option.map_some, Option.bind_none, Option.map_none, Option.isSome_some, if_true, if_false, reduceCtorEq, Nat.reduceAdd, Nat.reduceEqDiff, Nat.reduceMod, Nat.reduceLT, Nat.reduceLeDiff, Nat.reduceSub, Nat.reduceMul, Int.reduceAdd, Int.reduceSub, Int.reduceMul, Int.reduceNeg, Int.reduceLT, Int.reduceLE, Int.reduceToNat, Bool.false_eq_true, beq_self_eq_true, ↓reduceIte, List.length_nil, List.length_cons, List.take, List.drop, List.nil_append, List.cons_append, beq_true, beq_false, Bool.not_true, Bool.not_false, Nat.zero_add, Nat.add_zero, Nat.mul_one, and_true, true_and, List.append_nil, decide_true, decide_false, not_true_eq_false, not_false_eq_true, rowOf_own hx, hlst.len, h1]
    exact ⟨.refl _ _, h⟩
end Go.Proofs.Ytbbjimdpkcgonab
