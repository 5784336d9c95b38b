/- The kit's lists, works. -/
import Derived.Test.YtbbjimdpkcgonabUsB
import Derived.Test.YtbbjimdpkcgonabAdmU
namespace Go.Proofs.Ytbbjimdpkcgonab
open Go Go.Adm
set_option linter.unusedSimpArgs false
set_option maxRecDepth 100000

theorem ans_works (m : Mem) : Ans Try.prog 6 [] m fun r m' => r = .bool true ∧ Kept [] m m' := by
  refine ans_ret mixed ok6 ?_
  simp -implicitDefEqProofs only [Go.Adm.adm, wantedA, evalAll, AX.eval, AFr.get, AFr.set, AFr.put, AFr.cut, frameOf, AK.loud, pMv, pPick, aPick, pNil, pArith, pShift, pCmp, pEq, pEqAgg, pNot, pNeg, pBnot, pConv, pArrPtr, pSlice, pSliceArr, pFieldAddr, pPart, pIdxAddr, pIdxAddrArr, pIdxArr, pIdxStr, pExtract, pLenStr, pLenArr, pMin, pMax, pIface, aArith, aShift, aCmp, aEq, aEqCk, aEqCells, aPart, bounds, bnd, rLoad, mkAlloc, mkBox, mkMake, w2, aStore, aFill, cellsV, AV.solid, undefA, resAll, resOne, resVal, pendOk, pastOk, cutCons, List.append_assoc, List.length_append, List.set_cons_zero, List.set_cons_succ, List.singleton_append, List.getElem?_cons_zero, List.getElem?_cons_succ, List.getElem?_nil, implies_true, false_implies, true_implies, Int.cast_ofNat_Int, Bool.and_true, Bool.true_and, Bool.false_and, Bool.and_false, Bool.or_true, Bool.or_false, Bool.true_or, Bool.false_or, Option.bind_some, Option.map_some, Option.bind_none, Option.map_none, Option.isSome_some, if_true, if_false, reduceCtorEq, Nat.reduceAdd, Nat.reduceEqDiff, Nat.reduceMod, Nat.reduceLT, Nat.reduceLeDiff, Nat.reduceSub, Nat.reduceMul, Int.reduceAdd, Int.reduceSub, Int.reduceMul, Int.reduceNeg, Int.reduceLT, Int.reduceLE, Int.reduceToNat, Bool.false_eq_true, beq_self_eq_true, ↓reduceIte, List.length_nil, List.length_cons, List.take, List.drop, List.nil_append, List.cons_append, beq_true, beq_false, Bool.not_true, Bool.not_false, Nat.zero_add, Nat.add_zero, Nat.mul_one, and_true, true_and, List.append_nil, decide_true, decide_false, not_true_eq_false, not_false_eq_true, c6, r6]
  refine (ans_new 3 m).mono ?_
  rintro _ m1 ⟨p, b, rfl, hk1, hp, hb, ht⟩
  have e0 : List.replicate (Min.min (Max.max (3 : Int) 0) 32).toNat (⟨0, 0, 0⟩ : Sg) = [⟨0, 0, 0⟩, ⟨0, 0, 0⟩, ⟨0, 0, 0⟩] := by decide
  rw [e0] at ht
  simp -implicitDefEqProofs only [Go.Adm.adm, wantedA, evalAll, AX.eval, AFr.get, AFr.set, AFr.put, AFr.cut, frameOf, AK.loud, pMv, pPick, aPick, pNil, pArith, pShift, pCmp, pEq, pEqAgg, pNot, pNeg, pBnot, pConv, pArrPtr, pSlice, pSliceArr, pFieldAddr, pPart, pIdxAddr, pIdxAddrArr, pIdxArr, pIdxStr, pExtract, pLenStr, pLenArr, pMin, pMax, pIface, aArith, aShift, aCmp, aEq, aEqCk, aEqCells, aPart, bounds, bnd, rLoad, mkAlloc, mkBox, mkMake, w2, aStore, aFill, cellsV, AV.solid, undefA, resAll, resOne, resVal, pendOk, pastOk, cutCons, List.append_assoc, List.length_append, List.set_cons_zero, List.set_cons_succ, List.singleton_append, List.getElem?_cons_zero, List.getElem?_cons_succ, List.getElem?_nil, implies_true, false_implies, true_implies, Int.cast_ofNat_Int, Bool.and_true, Bool.true_and, Bool.false_and, Bool.and_false, Bool.or_true, Bool.or_false, Bool.true_or, Bool.false_or, Option.bind_some, Option.map_some, Option.bind_none, Option.map_none, Option.isSome_some, if_true, if_false, reduceCtorEq, Nat.reduceAdd, Nat.reduceEqDiff, Nat.reduceMod, Nat.reduceLT, Nat.reduceLeDiff, Nat.reduceSub, Nat.reduceMul, Int.reduceAdd, Int.reduceSub, Int.reduceMul, Int.reduceNeg, Int.reduceLT, Int.reduceLE, Int.reduceToNat, Bool.false_eq_true, beq_self_eq_true, ↓reduceIte, List.length_nil, List.length_cons, List.take, List.drop, List.nil_append, List.cons_append, beq_true, beq_false, Bool.not_true, Bool.not_false, Nat.zero_add, Nat.add_zero, Nat.mul_one, and_true, true_and, List.append_nil, decide_true, decide_false, not_true_eq_false, not_false_eq_true]
  refine (ans_take ht (by decide) 5).mono ?_
  have e1 : takeM 5 [⟨0, 0, 0⟩, ⟨0, 0, 0⟩, ⟨0, 0, 0⟩] = (0, true, [⟨1, 0, 5⟩, ⟨0, 0, 0⟩, ⟨0, 0, 0⟩]) := by decide
  rw [e1]
  rintro _ m2 ⟨rfl, hk2, ht⟩
  simp -implicitDefEqProofs only [Go.Adm.adm, wantedA, evalAll, AX.eval, AFr.get, AFr.set, AFr.put, AFr.cut, frameOf, AK.loud, pMv, pPick, aPick, pNil, pArith, pShift, pCmp, pEq, pEqAgg, pNot, pNeg, pBnot, pConv, pArrPtr, pSlice, pSliceArr, pFieldAddr, pPart, pIdxAddr, pIdxAddrArr, pIdxArr, pIdxStr, pExtract, pLenStr, pLenArr, pMin, pMax, pIface, aArith, aShift, aCmp, aEq, aEqCk, aEqCells, aPart, bounds, bnd, rLoad, mkAlloc, mkBox, mkMake, w2, aStore, aFill, cellsV, AV.solid, undefA, resAll, resOne, resVal, pendOk, pastOk, cutCons, List.append_assoc, List.length_append, List.set_cons_zero, List.set_cons_succ, List.singleton_append, List.getElem?_cons_zero, List.getElem?_cons_succ, List.getElem?_nil, implies_true, false_implies, true_implies, Int.cast_ofNat_Int, Bool.and_true, Bool.true_and, Bool.false_and, Bool.and_false, Bool.or_true, Bool.or_false, Bool.true_or, Bool.false_or, Option.bind_some, Option.map_some, Option.bind_none, Option.map_none, Option.isSome_some, if_true, if_false, reduceCtorEq, Nat.reduceAdd, Nat.reduceEqDiff, Nat.reduceMod, Nat.reduceLT, Nat.reduceLeDiff, Nat.reduceSub, Nat.reduceMul, Int.reduceAdd, Int.reduceSub, Int.reduceMul, Int.reduceNeg, Int.reduceLT, Int.reduceLE, Int.reduceToNat, Bool.false_eq_true, beq_self_eq_true, ↓reduceIte, List.length_nil, List.length_cons, List.take, List.drop, List.nil_append, List.cons_append, beq_true, beq_false, Bool.not_true, Bool.not_false, Nat.zero_add, Nat.add_zero, Nat.mul_one, and_true, true_and, List.append_nil, decide_true, decide_false, not_true_eq_false, not_false_eq_true]
  refine (ans_take ht (by decide) 7).mono ?_
  have e2 : takeM 7 [⟨1, 0, 5⟩, ⟨0, 0, 0⟩, ⟨0, 0, 0⟩] = (1, true, [⟨2, 0, 5⟩, ⟨1, 0, 7⟩, ⟨0, 0, 0⟩]) := by decide
  rw [e2]
  rintro _ m3 ⟨rfl, hk3, ht⟩
  simp -implicitDefEqProofs only [Go.Adm.adm, wantedA, evalAll, AX.eval, AFr.get, AFr.set, AFr.put, AFr.cut, frameOf, AK.loud, pMv, pPick, aPick, pNil, pArith, pShift, pCmp, pEq, pEqAgg, pNot, pNeg, pBnot, pConv, pArrPtr, pSlice, pSliceArr, pFieldAddr, pPart, pIdxAddr, pIdxAddrArr, pIdxArr, pIdxStr, pExtract, pLenStr, pLenArr, pMin, pMax, pIface, aArith, aShift, aCmp, aEq, aEqCk, aEqCells, aPart, bounds, bnd, rLoad, mkAlloc, mkBox, mkMake, w2, aStore, aFill, cellsV, AV.solid, undefA, resAll, resOne, resVal, pendOk, pastOk, cutCons, List.append_assoc, List.length_append, List.set_cons_zero, List.set_cons_succ, List.singleton_append, List.getElem?_cons_zero, List.getElem?_cons_succ, List.getElem?_nil, implies_true, false_implies, true_implies, Int.cast_ofNat_Int, Bool.and_true, Bool.true_and, Bool.false_and, Bool.and_false, Bool.or_true, Bool.or_false, Bool.true_or, Bool.false_or, Option.bind_some, Option.map_some, Option.bind_none, Option.map_none, Option.isSome_some, if_true, if_false, reduceCtorEq, Nat.reduceAdd, Nat.reduceEqDiff, Nat.reduceMod, Nat.reduceLT, Nat.reduceLeDiff, Nat.reduceSub, Nat.reduceMul, Int.reduceAdd, Int.reduceSub, Int.reduceMul, Int.reduceNeg, Int.reduceLT, Int.reduceLE, Int.reduceToNat, Bool.false_eq_true, beq_self_eq_true, ↓reduceIte, List.length_nil, List.length_cons, List.take, List.drop, List.nil_append, List.cons_append, beq_true, beq_false, Bool.not_true, Bool.not_false, Nat.zero_add, Nat.add_zero, Nat.mul_one, and_true, true_and, List.append_nil, decide_true, decide_false, not_true_eq_false, not_false_eq_true]
  refine (ans_add ht (by decide) (by decide) 0 2 9).mono ?_
  have e3 : addM 0 2 9 [⟨2, 0, 5⟩, ⟨1, 0, 7⟩, ⟨0, 0, 0⟩] = (0, [⟨2, 2, 9⟩, ⟨1, 0, 7⟩, ⟨0, 0, 0⟩]) := by decide
  rw [e3]
  rintro _ m4 ⟨rfl, hk4, ht⟩
  simp -implicitDefEqProofs only [Go.Adm.adm, wantedA, evalAll, AX.eval, AFr.get, AFr.set, AFr.put, AFr.cut, frameOf, AK.loud, pMv, pPick, aPick, pNil, pArith, pShift, pCmp, pEq, pEqAgg, pNot, pNeg, pBnot, pConv, pArrPtr, pSlice, pSliceArr, pFieldAddr, pPart, pIdxAddr, pIdxAddrArr, pIdxArr, pIdxStr, pExtract, pLenStr, pLenArr, pMin, pMax, pIface, aArith, aShift, aCmp, aEq, aEqCk, aEqCells, aPart, bounds, bnd, rLoad, mkAlloc, mkBox, mkMake, w2, aStore, aFill, cellsV, AV.solid, undefA, resAll, resOne, resVal, pendOk, pastOk, cutCons, List.append_assoc, List.length_append, List.set_cons_zero, List.set_cons_succ, List.singleton_append, List.getElem?_cons_zero, List.getElem?_cons_succ, List.getElem?_nil, implies_true, false_implies, true_implies, Int.cast_ofNat_Int, Bool.and_true, Bool.true_and, Bool.false_and, Bool.and_false, Bool.or_true, Bool.or_false, Bool.true_or, Bool.false_or, Option.bind_some, Option.map_some, Option.bind_none, Option.map_none, Option.isSome_some, if_true, if_false, reduceCtorEq, Nat.reduceAdd, Nat.reduceEqDiff, Nat.reduceMod, Nat.reduceLT, Nat.reduceLeDiff, Nat.reduceSub, Nat.reduceMul, Int.reduceAdd, Int.reduceSub, Int.reduceMul, Int.reduceNeg, Int.reduceLT, Int.reduceLE, Int.reduceToNat, Bool.false_eq_true, beq_self_eq_true, ↓reduceIte, List.length_nil, List.length_cons, List.take, List.drop, List.nil_append, List.cons_append, beq_true, beq_false, Bool.not_true, Bool.not_false, Nat.zero_add, Nat.add_zero, Nat.mul_one, and_true, true_and, List.append_nil, decide_true, decide_false, not_true_eq_false, not_false_eq_true]
  refine (ans_pend ht (by decide) 0).mono ?_
  have e4 : pendM 0 [⟨2, 2, 9⟩, ⟨1, 0, 7⟩, ⟨0, 0, 0⟩] = (16, [⟨2, 2, 9⟩, ⟨1, 0, 7⟩, ⟨0, 0, 0⟩]) := by decide
  rw [e4]
  rintro _ m5 ⟨rfl, hk5, ht⟩
  simp -implicitDefEqProofs only [Go.Adm.adm, wantedA, evalAll, AX.eval, AFr.get, AFr.set, AFr.put, AFr.cut, frameOf, AK.loud, pMv, pPick, aPick, pNil, pArith, pShift, pCmp, pEq, pEqAgg, pNot, pNeg, pBnot, pConv, pArrPtr, pSlice, pSliceArr, pFieldAddr, pPart, pIdxAddr, pIdxAddrArr, pIdxArr, pIdxStr, pExtract, pLenStr, pLenArr, pMin, pMax, pIface, aArith, aShift, aCmp, aEq, aEqCk, aEqCells, aPart, bounds, bnd, rLoad, mkAlloc, mkBox, mkMake, w2, aStore, aFill, cellsV, AV.solid, undefA, resAll, resOne, resVal, pendOk, pastOk, cutCons, List.append_assoc, List.length_append, List.set_cons_zero, List.set_cons_succ, List.singleton_append, List.getElem?_cons_zero, List.getElem?_cons_succ, List.getElem?_nil, implies_true, false_implies, true_implies, Int.cast_ofNat_Int, Bool.and_true, Bool.true_and, Bool.false_and, Bool.and_false, Bool.or_true, Bool.or_false, Bool.true_or, Bool.false_or, Option.bind_some, Option.map_some, Option.bind_none, Option.map_none, Option.isSome_some, if_true, if_false, reduceCtorEq, Nat.reduceAdd, Nat.reduceEqDiff, Nat.reduceMod, Nat.reduceLT, Nat.reduceLeDiff, Nat.reduceSub, Nat.reduceMul, Int.reduceAdd, Int.reduceSub, Int.reduceMul, Int.reduceNeg, Int.reduceLT, Int.reduceLE, Int.reduceToNat, Bool.false_eq_true, beq_self_eq_true, ↓reduceIte, List.length_nil, List.length_cons, List.take, List.drop, List.nil_append, List.cons_append, beq_true, beq_false, Bool.not_true, Bool.not_false, Nat.zero_add, Nat.add_zero, Nat.mul_one, and_true, true_and, List.append_nil, decide_true, decide_false, not_true_eq_false, not_false_eq_true]
  refine (ans_add ht (by decide) (by decide) 0 (-2) 11).mono ?_
  have e5 : addM 0 (-2) 11 [⟨2, 2, 9⟩, ⟨1, 0, 7⟩, ⟨0, 0, 0⟩] = (0, [⟨2, 0, 9⟩, ⟨1, 0, 7⟩, ⟨0, 0, 0⟩]) := by decide
  rw [e5]
  rintro _ m6 ⟨rfl, hk6, ht⟩
  simp -implicitDefEqProofs only [Go.Adm.adm, wantedA, evalAll, AX.eval, AFr.get, AFr.set, AFr.put, AFr.cut, frameOf, AK.loud, pMv, pPick, aPick, pNil, pArith, pShift, pCmp, pEq, pEqAgg, pNot, pNeg, pBnot, pConv, pArrPtr, pSlice, pSliceArr, pFieldAddr, pPart, pIdxAddr, pIdxAddrArr, pIdxArr, pIdxStr, pExtract, pLenStr, pLenArr, pMin, pMax, pIface, aArith, aShift, aCmp, aEq, aEqCk, aEqCells, aPart, bounds, bnd, rLoad, mkAlloc, mkBox, mkMake, w2, aStore, aFill, cellsV, AV.solid, undefA, resAll, resOne, resVal, pendOk, pastOk, cutCons, List.append_assoc, List.length_append, List.set_cons_zero, List.set_cons_succ, List.singleton_append, List.getElem?_cons_zero, List.getElem?_cons_succ, List.getElem?_nil, implies_true, false_implies, true_implies, Int.cast_ofNat_Int, Bool.and_true, Bool.true_and, Bool.false_and, Bool.and_false, Bool.or_true, Bool.or_false, Bool.true_or, Bool.false_or, Option.bind_some, Option.map_some, Option.bind_none, Option.map_none, Option.isSome_some, if_true, if_false, reduceCtorEq, Nat.reduceAdd, Nat.reduceEqDiff, Nat.reduceMod, Nat.reduceLT, Nat.reduceLeDiff, Nat.reduceSub, Nat.reduceMul, Int.reduceAdd, Int.reduceSub, Int.reduceMul, Int.reduceNeg, Int.reduceLT, Int.reduceLE, Int.reduceToNat, Bool.false_eq_true, beq_self_eq_true, ↓reduceIte, List.length_nil, List.length_cons, List.take, List.drop, List.nil_append, List.cons_append, beq_true, beq_false, Bool.not_true, Bool.not_false, Nat.zero_add, Nat.add_zero, Nat.mul_one, and_true, true_and, List.append_nil, decide_true, decide_false, not_true_eq_false, not_false_eq_true]
  refine (ans_pend ht (by decide) 0).mono ?_
  have e6 : pendM 0 [⟨2, 0, 9⟩, ⟨1, 0, 7⟩, ⟨0, 0, 0⟩] = (0, [⟨3, 0, 9⟩, ⟨1, 0, 7⟩, ⟨0, 0, 0⟩]) := by decide
  rw [e6]
  rintro _ m7 ⟨rfl, hk7, ht⟩
  simp -implicitDefEqProofs only [Go.Adm.adm, wantedA, evalAll, AX.eval, AFr.get, AFr.set, AFr.put, AFr.cut, frameOf, AK.loud, pMv, pPick, aPick, pNil, pArith, pShift, pCmp, pEq, pEqAgg, pNot, pNeg, pBnot, pConv, pArrPtr, pSlice, pSliceArr, pFieldAddr, pPart, pIdxAddr, pIdxAddrArr, pIdxArr, pIdxStr, pExtract, pLenStr, pLenArr, pMin, pMax, pIface, aArith, aShift, aCmp, aEq, aEqCk, aEqCells, aPart, bounds, bnd, rLoad, mkAlloc, mkBox, mkMake, w2, aStore, aFill, cellsV, AV.solid, undefA, resAll, resOne, resVal, pendOk, pastOk, cutCons, List.append_assoc, List.length_append, List.set_cons_zero, List.set_cons_succ, List.singleton_append, List.getElem?_cons_zero, List.getElem?_cons_succ, List.getElem?_nil, implies_true, false_implies, true_implies, Int.cast_ofNat_Int, Bool.and_true, Bool.true_and, Bool.false_and, Bool.and_false, Bool.or_true, Bool.or_false, Bool.true_or, Bool.false_or, Option.bind_some, Option.map_some, Option.bind_none, Option.map_none, Option.isSome_some, if_true, if_false, reduceCtorEq, Nat.reduceAdd, Nat.reduceEqDiff, Nat.reduceMod, Nat.reduceLT, Nat.reduceLeDiff, Nat.reduceSub, Nat.reduceMul, Int.reduceAdd, Int.reduceSub, Int.reduceMul, Int.reduceNeg, Int.reduceLT, Int.reduceLE, Int.reduceToNat, Bool.false_eq_true, beq_self_eq_true, ↓reduceIte, List.length_nil, List.length_cons, List.take, List.drop, List.nil_append, List.cons_append, beq_true, beq_false, Bool.not_true, Bool.not_false, Nat.zero_add, Nat.add_zero, Nat.mul_one, and_true, true_and, List.append_nil, decide_true, decide_false, not_true_eq_false, not_false_eq_true]
  refine (ans_segs ht (by decide)).mono ?_
  rintro _ m8 ⟨hk8, b', cap', k', rfl, hb', hrow⟩
  have ht := ht.kept0 hk8
  simp -implicitDefEqProofs only [Go.Adm.adm, wantedA, evalAll, AX.eval, AFr.get, AFr.set, AFr.put, AFr.cut, frameOf, AK.loud, pMv, pPick, aPick, pNil, pArith, pShift, pCmp, pEq, pEqAgg, pNot, pNeg, pBnot, pConv, pArrPtr, pSlice, pSliceArr, pFieldAddr, pPart, pIdxAddr, pIdxAddrArr, pIdxArr, pIdxStr, pExtract, pLenStr, pLenArr, pMin, pMax, pIface, aArith, aShift, aCmp, aEq, aEqCk, aEqCells, aPart, bounds, bnd, rLoad, mkAlloc, mkBox, mkMake, w2, aStore, aFill, cellsV, AV.solid, undefA, resAll, resOne, resVal, pendOk, pastOk, cutCons, List.append_assoc, List.length_append, List.set_cons_zero, List.set_cons_succ, List.singleton_append, List.getElem?_cons_zero, List.getElem?_cons_succ, List.getElem?_nil, implies_true, false_implies, true_implies, Int.cast_ofNat_Int, Bool.and_true, Bool.true_and, Bool.false_and, Bool.and_false, Bool.or_true, Bool.or_false, Bool.true_or, Bool.false_or, Option.bind_some, Option.map_some, Option.bind_none, Option.map_none, Option.isSome_some, if_true, if_false, reduceCtorEq, Nat.reduceAdd, Nat.reduceEqDiff, Nat.reduceMod, Nat.reduceLT, Nat.reduceLeDiff, Nat.reduceSub, Nat.reduceMul, Int.reduceAdd, Int.reduceSub, Int.reduceMul, Int.reduceNeg, Int.reduceLT, Int.reduceLE, Int.reduceToNat, Bool.false_eq_true, beq_self_eq_true, ↓reduceIte, List.length_nil, List.length_cons, List.take, List.drop, List.nil_append, List.cons_append, beq_true, beq_false, Bool.not_true, Bool.not_false, Nat.zero_add, Nat.add_zero, Nat.mul_one, and_true, true_and, List.append_nil, decide_true, decide_false, not_true_eq_false, not_false_eq_true, rowOf_own hrow, flatOf, List.flatMap_cons, List.flatMap_nil, Sg.cells]
  refine (ans_release ht (by decide)).mono ?_
  have e7 : relM [⟨3, 0, 9⟩, ⟨1, 0, 7⟩, ⟨0, 0, 0⟩] = [⟨0, 0, 0⟩, ⟨1, 0, 7⟩, ⟨0, 0, 0⟩] := by decide
  have e8 : List.countP (fun x => x.st == 3) ([⟨3, 0, 9⟩, ⟨1, 0, 7⟩, ⟨0, 0, 0⟩] : List Sg) = 1 := by decide
  rw [e7, e8]
  rintro _ m9 ⟨rfl, hk9, ht⟩
  simp -implicitDefEqProofs only [Go.Adm.adm, wantedA, evalAll, AX.eval, AFr.get, AFr.set, AFr.put, AFr.cut, frameOf, AK.loud, pMv, pPick, aPick, pNil, pArith, pShift, pCmp, pEq, pEqAgg, pNot, pNeg, pBnot, pConv, pArrPtr, pSlice, pSliceArr, pFieldAddr, pPart, pIdxAddr, pIdxAddrArr, pIdxArr, pIdxStr, pExtract, pLenStr, pLenArr, pMin, pMax, pIface, aArith, aShift, aCmp, aEq, aEqCk, aEqCells, aPart, bounds, bnd, rLoad, mkAlloc, mkBox, mkMake, w2, aStore, aFill, cellsV, AV.solid, undefA, resAll, resOne, resVal, pendOk, pastOk, cutCons, List.append_assoc, List.length_append, List.set_cons_zero, List.set_cons_succ, List.singleton_append, List.getElem?_cons_zero, List.getElem?_cons_succ, List.getElem?_nil, implies_true, false_implies, true_implies, Int.cast_ofNat_Int, Bool.and_true, Bool.true_and, Bool.false_and, Bool.and_false, Bool.or_true, Bool.or_false, Bool.true_or, Bool.false_or, Option.bind_some, Option.map_some, Option.bind_none, Option.map_none, Option.isSome_some, if_true, if_false, reduceCtorEq, Nat.reduceAdd, Nat.reduceEqDiff, Nat.reduceMod, Nat.reduceLT, Nat.reduceLeDiff, Nat.reduceSub, Nat.reduceMul, Int.reduceAdd, Int.reduceSub, Int.reduceMul, Int.reduceNeg, Int.reduceLT, Int.reduceLE, Int.reduceToNat, Bool.false_eq_true, beq_self_eq_true, ↓reduceIte, List.length_nil, List.length_cons, List.take, List.drop, List.nil_append, List.cons_append, beq_true, beq_false, Bool.not_true, Bool.not_false, Nat.zero_add, Nat.add_zero, Nat.mul_one, and_true, true_and, List.append_nil, decide_true, decide_false, not_true_eq_false, not_false_eq_true]
  refine (ans_count ht (by decide) 0).mono ?_
  have e9 : List.countP (fun x => x.st == 0) ([⟨0, 0, 0⟩, ⟨1, 0, 7⟩, ⟨0, 0, 0⟩] : List Sg) = 2 := by decide
  rw [e9]
  rintro _ m10 ⟨rfl, hk10⟩
  simp -implicitDefEqProofs only [Go.Adm.adm, wantedA, evalAll, AX.eval, AFr.get, AFr.set, AFr.put, AFr.cut, frameOf, AK.loud, pMv, pPick, aPick, pNil, pArith, pShift, pCmp, pEq, pEqAgg, pNot, pNeg, pBnot, pConv, pArrPtr, pSlice, pSliceArr, pFieldAddr, pPart, pIdxAddr, pIdxAddrArr, pIdxArr, pIdxStr, pExtract, pLenStr, pLenArr, pMin, pMax, pIface, aArith, aShift, aCmp, aEq, aEqCk, aEqCells, aPart, bounds, bnd, rLoad, mkAlloc, mkBox, mkMake, w2, aStore, aFill, cellsV, AV.solid, undefA, resAll, resOne, resVal, pendOk, pastOk, cutCons, List.append_assoc, List.length_append, List.set_cons_zero, List.set_cons_succ, List.singleton_append, List.getElem?_cons_zero, List.getElem?_cons_succ, List.getElem?_nil, implies_true, false_implies, true_implies, Int.cast_ofNat_Int, Bool.and_true, Bool.true_and, Bool.false_and, Bool.and_false, Bool.or_true, Bool.or_false, Bool.true_or, Bool.false_or, Option.bind_some, Option.map_some, Option.bind_none, Option.map_none, Option.isSome_some, if_true, if_false, reduceCtorEq, Nat.reduceAdd, Nat.reduceEqDiff, Nat.reduceMod, Nat.reduceLT, Nat.reduceLeDiff, Nat.reduceSub, Nat.reduceMul, Int.reduceAdd, Int.reduceSub, Int.reduceMul, Int.reduceNeg, Int.reduceLT, Int.reduceLE, Int.reduceToNat, Bool.false_eq_true, beq_self_eq_true, ↓reduceIte, List.length_nil, List.length_cons, List.take, List.drop, List.nil_append, List.cons_append, beq_true, beq_false, Bool.not_true, Bool.not_false, Nat.zero_add, Nat.add_zero, Nat.mul_one, and_true, true_and, List.append_nil, decide_true, decide_false, not_true_eq_false, not_false_eq_true]
  exact hk1.fresh ((((((((hk2.trans hk3).trans hk4).trans hk5).trans hk6).trans hk7).trans hk8.any).trans hk9).trans hk10.any) (by simpa using hb)

theorem idxOf_cons (s : Int) (a : Sg) (l : List Sg) : idxOf s (a :: l) = if a.st == s then 0 else if 0 ≤ idxOf s l then idxOf s l + 1 else -1 := by
  unfold idxOf
  rw [List.findIdx?_cons]
  cases h : a.st == s
  · cases h2 : l.findIdx? (·.st == s) with
    | none => simp
    | some i => simp
  · simp
theorem idxOf_set3 {l : List Sg} {k : Nat} {x : Sg} (h : l[k]? = some x) (h3 : x.st ≠ 3) (y : Sg) (hy : y.st = 3) : idxOf 3 (l.set k y) = if 0 ≤ idxOf 3 l then Min.min (idxOf 3 l) k else k := by
  induction l generalizing k with
  | nil => simp at h
  | cons a l ih =>
    cases k with
    | zero =>
      simp at h; subst h
      simp [idxOf_cons, hy, h3]
      split <;> omega
    | succ k =>
      have := ih (by simpa using h)
      simp only [List.set_cons_succ, idxOf_cons, this]
      have hge : 0 ≤ idxOf 3 l ∨ ¬ 0 ≤ idxOf 3 l := by omega
      cases a.st == 3 <;> rcases hge with hg | hg <;> simp [hg] <;> omega
theorem relM_idx {l : List Sg} (h : ∀ x ∈ l, x.st ≠ 0) : idxOf 0 (relM l) = idxOf 3 l := by
  induction l with
  | nil => rfl
  | cons a l ih =>
    have h1 := h a (by simp)
    have := ih fun x hx => h x (by simp [hx])
    simp only [relM, List.map_cons] at this ⊢
    rw [idxOf_cons, idxOf_cons, this]
    cases h3 : a.st == 3
    · simp [h1]
    · simp
theorem idxOf_le {l : List Sg} {k : Nat} {x : Sg} (h : l[k]? = some x) {s : Int} (hs : x.st = s) : 0 ≤ idxOf s l ∧ idxOf s l ≤ k := by
  induction l generalizing k with
  | nil => simp at h
  | cons a l ih =>
    rw [idxOf_cons]
    cases k with
    | zero => simp at h; subst h; simp [hs]
    | succ k =>
      have := ih (by simpa using h)
      split
      · omega
      · rw [if_pos this.1]; omega
end Go.Proofs.Ytbbjimdpkcgonab
