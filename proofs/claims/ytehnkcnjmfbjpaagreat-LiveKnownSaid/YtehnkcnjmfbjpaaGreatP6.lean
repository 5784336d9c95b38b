/- Texts of this seat, joined (part 6 of 6): an abstract memory for Go programs, this seat's functions as abstract code, and what each of them does. -/
import Derived.Test.YtehnkcnjmfbjpaaGreatP5
set_option linter.unusedSimpArgs false
set_option linter.defProp false
section
namespace Go.Proofs.YtehnkcnjmfbjpaaGreat
open Go Go.Adm
set_option linter.unusedSimpArgs false
set_option linter.unusedVariables false
set_option maxRecDepth 100000
def pickI (k n : Int) : Int := if n < 1 then 0 else if k.tmod n < 0 then k.tmod n + n else k.tmod n
theorem ans_pick (k n : Int) (hn : n ≤ 1000) (m : Mem) : Ans Tryz.prog 8 [.int .i64 k, .int .i64 n] m fun r m' => r = .int .i64 (pickI k n) ∧ m' = m := by
 refine ans_ret mixed ok8 ?_
 unfold pickI
 by_cases h1 : n < 1
 ·simp only [if_pos h1]
  simp -implicitDefEqProofs only [Go.Adm.adm, wantedA, evalAll, AX.eval, AFr.get, AFr.set, AFr.put, AFr.cut, frameOf, AK.loud, pMv, pPick, aPick, pNil, pArith, pShift, pCmp, pEq, pEqAgg, pNot, pNeg, pBnot, pConv, pArrPtr, pSlice, pSliceArr, pFieldAddr, pPart, pIdxAddr, pIdxAddrArr, pIdxArr, pIdxStr, pExtract, pLenStr, pLenArr, pMin, pMax, pIface, aArith, aShift, aCmp, aEq, aEqCk, aEqCells, aPart, bounds, bnd, rLoad, mkAlloc, mkBox, mkMake, rMark, mkS2b, w2, aStore, aFill, cellsV, AV.solid, undefA, resAll, resOne, resVal, pendOk, pastOk, cutCons, List.append_assoc, List.length_append, List.set_cons_zero, List.set_cons_succ, List.singleton_append, List.getElem?_cons_zero, List.getElem?_cons_succ, List.getElem?_nil, implies_true, false_implies, true_implies, Option.bind_some, Option.map_some, Option.bind_none, Option.map_none, Option.isSome_some, if_true, if_false, reduceCtorEq, Nat.reduceAdd, Nat.reduceEqDiff, Nat.reduceMod, Nat.reduceLT, Nat.reduceLeDiff, Nat.reduceSub, Nat.reduceMul, Int.reduceAdd, Int.reduceSub, Int.reduceMul, Int.reduceNeg, Int.reduceLT, Int.reduceLE, Int.reduceToNat, beq_self_eq_true, ↓reduceIte, List.length_nil, List.length_cons, List.take, List.drop, List.nil_append, List.cons_append, List.append_nil, decide_true, decide_false, lqw, c8, r8, h1]
 ·have h0 : ¬ n = 0 := by omega
  have hb := Int.tmod_lt_of_pos k (b := n) (by omega)
  have hb2 := Int.lt_tmod_of_pos k (b := n) (by omega)
  have hw : IntKind.i64.wrap (k.tmod n) = k.tmod n := wrap_i64 (by omega) (by omega)
  simp only [if_neg h1]
  by_cases h2 : k.tmod n < 0
  ·have hw2 : IntKind.i64.wrap (k.tmod n + n) = k.tmod n + n := wrap_i64 (by omega) (by omega)
   simp -implicitDefEqProofs only [Go.Adm.adm, wantedA, evalAll, AX.eval, AFr.get, AFr.set, AFr.put, AFr.cut, frameOf, AK.loud, pMv, pPick, aPick, pNil, pArith, pShift, pCmp, pEq, pEqAgg, pNot, pNeg, pBnot, pConv, pArrPtr, pSlice, pSliceArr, pFieldAddr, pPart, pIdxAddr, pIdxAddrArr, pIdxArr, pIdxStr, pExtract, pLenStr, pLenArr, pMin, pMax, pIface, aArith, aShift, aCmp, aEq, aEqCk, aEqCells, aPart, bounds, bnd, rLoad, mkAlloc, mkBox, mkMake, rMark, mkS2b, w2, aStore, aFill, cellsV, AV.solid, undefA, resAll, resOne, resVal, pendOk, pastOk, cutCons, List.append_assoc, List.length_append, List.set_cons_zero, List.set_cons_succ, List.singleton_append, List.getElem?_cons_zero, List.getElem?_cons_succ, List.getElem?_nil, implies_true, false_implies, true_implies, Option.bind_some, Option.map_some, Option.bind_none, Option.map_none, Option.isSome_some, if_true, if_false, reduceCtorEq, Nat.reduceAdd, Nat.reduceEqDiff, Nat.reduceMod, Nat.reduceLT, Nat.reduceLeDiff, Nat.reduceSub, Nat.reduceMul, Int.reduceAdd, Int.reduceSub, Int.reduceMul, Int.reduceNeg, Int.reduceLT, Int.reduceLE, Int.reduceToNat, beq_self_eq_true, ↓reduceIte, List.length_nil, List.length_cons, List.take, List.drop, List.nil_append, List.cons_append, List.append_nil, decide_true, decide_false, lqw, c8, r8, h1, h0, hw, h2, hw2]
  ·simp -implicitDefEqProofs only [Go.Adm.adm, wantedA, evalAll, AX.eval, AFr.get, AFr.set, AFr.put, AFr.cut, frameOf, AK.loud, pMv, pPick, aPick, pNil, pArith, pShift, pCmp, pEq, pEqAgg, pNot, pNeg, pBnot, pConv, pArrPtr, pSlice, pSliceArr, pFieldAddr, pPart, pIdxAddr, pIdxAddrArr, pIdxArr, pIdxStr, pExtract, pLenStr, pLenArr, pMin, pMax, pIface, aArith, aShift, aCmp, aEq, aEqCk, aEqCells, aPart, bounds, bnd, rLoad, mkAlloc, mkBox, mkMake, rMark, mkS2b, w2, aStore, aFill, cellsV, AV.solid, undefA, resAll, resOne, resVal, pendOk, pastOk, cutCons, List.append_assoc, List.length_append, List.set_cons_zero, List.set_cons_succ, List.singleton_append, List.getElem?_cons_zero, List.getElem?_cons_succ, List.getElem?_nil, implies_true, false_implies, true_implies, Option.bind_some, Option.map_some, Option.bind_none, Option.map_none, Option.isSome_some, if_true, if_false, reduceCtorEq, Nat.reduceAdd, Nat.reduceEqDiff, Nat.reduceMod, Nat.reduceLT, Nat.reduceLeDiff, Nat.reduceSub, Nat.reduceMul, Int.reduceAdd, Int.reduceSub, Int.reduceMul, Int.reduceNeg, Int.reduceLT, Int.reduceLE, Int.reduceToNat, beq_self_eq_true, ↓reduceIte, List.length_nil, List.length_cons, List.take, List.drop, List.nil_append, List.cons_append, List.append_nil, decide_true, decide_false, lqw, c8, r8, h1, h0, hw, h2]
theorem pickI_in (k n : Int) (h : 1 ≤ n) : 0 ≤ pickI k n ∧ pickI k n < n := by
 unfold pickI
 have hb := Int.tmod_lt_of_pos k (b := n) (by omega)
 have hb2 := Int.lt_tmod_of_pos k (b := n) (by omega)
 rw [if_neg (by omega)]
 split <;> omega
def rowB (n : Nat) : List B8 := tab n fun i => BitVec.ofNat 8 (i * 7 + 1)
theorem rowB_len (n : Nat) : (rowB n).length = n := tab_len _ _
def lq11 := And.intro @lenB (And.intro @lowB_len (And.intro @numB_len (And.intro @nsumB_len (And.intro @numI_len (And.intro @Rf.cells_len (@rowB_len))))))
theorem ans_row (n : Nat) (hn : n ≤ 1000000) (m : Mem) : Ans Tryz.prog 41 [.int .i64 n] m fun r m' => ∃ p, r = .sl p 0 n n 0 ∧ Kept [] m m' ∧ m.length ≤ p ∧ own m' p = some (bys (rowB n)) := by
 refine ans_ret mixed ok41 ?_
 have hmk : (0 : Int) ≤ (n : Int) ∧ (n : Int) ≤ (n : Int) ∧ (n : Int) * 1 ≤ 1099511627776 ∧ (n : Int) ≤ 1099511627776 := by omega
 have hmx : (if (n : Int) > 0 then (n : Int) else 0) = (n : Int) := by split <;> omega
 have hr : rep n [AV.int .u8 0] = bys (List.replicate n 0#8) := by rw [← bys_rep]; simp [rep]
 simp -implicitDefEqProofs (disch := (first | omega | (simp only [lq11] <;> omega) | fail)) only [admQ, lq11, aFill, AK.cls, implies_true, if_true, if_false, seval, -List.reduceReplicate, c41, r41, hmx, hr]
 let f : Nat → B8 := fun i => BitVec.ofNat 8 (i * 7 + 1)
 refine LoopW.on (fun i : Nat => [(3, .sl m.length 0 n n 0), (4, .int .i64 i)]) (fun i => n - i) (fun i m' => i ≤ n ∧ m' = m ++ [.row (bys (upTo n f (fun _ => 0#8) i)) false]) ?_ 0 _ _ rfl ⟨by omega, by rw [upTo_zero, tab_const]⟩
 rintro i m' X ⟨hi, rfl⟩ hX
 by_cases hlt : i < n
 ·have hu : (upTo n f (fun _ => 0#8) i).set i (BitVec.ofNat 8 (i * 7 + 1)) = _ := upTo_set (f := f)
  clear_value f
  simp -implicitDefEqProofs (disch := (first | omega | (simp only [lq11] <;> omega) | fail)) only [admQ, lq11, aFill, AK.cls, implies_true, if_true, if_false, seval, -List.reduceReplicate, wrap_u8, splice_byte, hu]
  exact hX (i + 1) _ _ rfl (by omega) ⟨by omega, rfl⟩
 ·obtain rfl : i = n := by omega
  have hu : upTo i f (fun _ => 0#8) i = rowB i := upTo_all _ _ _
  simp -implicitDefEqProofs (disch := (first | omega | (simp only [lq11] <;> omega) | fail)) only [admQ, lq11, aFill, AK.cls, implies_true, if_true, if_false, seval, -List.reduceReplicate, hu]
  exact ⟨m.length, rfl, .app _ _ _, by omega, by simp -implicitDefEqProofs (disch := (first | omega | (simp only [lq11] <;> omega) | fail)) only [admQ, lq11, aFill, AK.cls, implies_true, if_true, if_false, seval, -List.reduceReplicate]⟩
theorem ans_small (m : Mem) : Ans Tryz.prog 26 [] m fun r m' => r = geoV gS ∧ Kept [] m m' := by
 refine ans_ret mixed ok26 ?_
 have h0 : own (m ++ [.row [.int .i64 0, .int .i64 0, .int .i64 0] false]) m.length = some [.int .i64 0, .int .i64 0, .int .i64 0] := by rw [own_app_at0]; rfl
 simp -implicitDefEqProofs (disch := (first | omega | (simp only [lq11] <;> omega) | fail)) only [admQ, lq11, aFill, AK.cls, implies_true, if_true, if_false, seval, -List.reduceReplicate, c26, r26]
 exact ⟨rfl, .app _ _ _⟩
def v0 : Vl := ⟨dk0 579, .nm [] [], (takeM 0 (List.replicate 18 ⟨0, 0, 0⟩)).2.2, ⟨gS, 1, 0, 0, Sm.zero, [], 2⟩⟩
def x0 : Pt := ⟨v0, Tr.new⟩
theorem ans_lvfresh (m : Mem) : Ans Tryz.prog 7 [] m fun r m' => ∃ xp xd xc xu xw xt B V, r = .ptr xp 0 ∧ Kept [] m m' ∧ PtM m' xp xd xc xu xw xt B V x0 ∧ m.length ≤ xp ∧ m.length ≤ xt ∧ ∀ q ∈ B, m.length ≤ q := by
 refine ans_ret mixed ok7 ?_
 simp -implicitDefEqProofs (disch := (first | omega | (simp only [lq11] <;> omega) | fail)) only [admQ, lq11, aFill, AK.cls, implies_true, if_true, if_false, seval, -List.reduceReplicate, c7, r7]
 refine (ans_small m).mono ?_
 rintro _ m1 ⟨rfl, k1⟩
 have hgv : geoV gS = .agg [.int .i64 18, .int .i64 32, .int .i64 4] := rfl
 have hgs := fun M => ans_gsecs gS M
 have hsec : secsG gS = 579 := rfl
 rw [hgv] at hgs ⊢
 rw [hsec] at hgs
 have k2 := Kept.app [] m1 [Blk.row [.int .i64 18, .int .i64 32, .int .i64 4] false]
 have g2 : own (m1 ++ [Blk.row [.int .i64 18, .int .i64 32, .int .i64 4] false]) m1.length = some [.int .i64 18, .int .i64 32, .int .i64 4] := by rw [own_app_at0]; rfl
 simp -implicitDefEqProofs (disch := (first | omega | (simp only [lq11] <;> omega) | fail)) only [admQ, lq11, aFill, AK.cls, implies_true, if_true, if_false, seval, -List.reduceReplicate]
 generalize hA : m1 ++ [Blk.row [.int .i64 18, .int .i64 32, .int .i64 4] false] = A at *
 refine (hgs A).mono ?_
 rintro _ m3 ⟨rfl, k3⟩
 have g3 := k3.own g2 (by simp)
 simp -implicitDefEqProofs (disch := (first | omega | (simp only [lq11] <;> omega) | fail)) only [admQ, lq11, aFill, AK.cls, implies_true, if_true, if_false, seval, -List.reduceReplicate]
 have hdn := ans_dknew 579 (by omega) m3
 refine Ans.mono hdn ?_
 rintro _ m4 ⟨k4, xd, Wd, Rd, rfl, hD, hRd⟩
 have g4 := k4.own g3 (by simp)
 simp -implicitDefEqProofs (disch := (first | omega | (simp only [lq11] <;> omega) | fail)) only [admQ, lq11, aFill, AK.cls, implies_true, if_true, if_false, seval, -List.reduceReplicate]
 refine (ans_nnew m4).mono ?_
 rintro _ m5 ⟨xc, Wc, rfl, k5, hN, hWc⟩
 have g5 := k5.own g4 (by simp)
 simp -implicitDefEqProofs (disch := (first | omega | (simp only [lq11] <;> omega) | fail)) only [admQ, lq11, aFill, AK.cls, implies_true, if_true, if_false, seval, -List.reduceReplicate, rowOf_own g5]
 refine (ans_new 18 m5).mono ?_
 rintro _ m6 ⟨xu, bu, rfl, k6, lu, lb, hT⟩
 have g6 := k6.own g5 (by simp)
 have e18 : (Min.min (Max.max (18 : Int) 0) 32).toNat = 18 := rfl
 rw [e18] at hT
 simp -implicitDefEqProofs (disch := (first | omega | (simp only [lq11] <;> omega) | fail)) only [admQ, lq11, aFill, AK.cls, implies_true, if_true, if_false, seval, -List.reduceReplicate]
 refine (ans_take hT (by simp) 0).mono ?_
 rintro _ m7 ⟨rfl, hp7⟩
 have hT7 := hp7.tab
 have k7 := hp7.kept
 have lg6 := own_lt g6
 have hbl : m1.length < bu := by have := own_lt g5; omega
 have g7 := k7.own g6 (by simp; omega)
 simp -implicitDefEqProofs (disch := (first | omega | (simp only [lq11] <;> omega) | fail)) only [admQ, lq11, aFill, AK.cls, implies_true, if_true, if_false, seval, -List.reduceReplicate, rowOf_own g7]
 refine (ans_trnew m7).mono ?_
 rintro _ m8 ⟨rfl, k8, t8⟩
 have g8 := k8.own g7 (by simp)
 simp -implicitDefEqProofs (disch := (first | omega | (simp only [lq11] <;> omega) | fail)) only [admQ, lq11, aFill, AK.cls, implies_true, if_true, if_false, seval, -List.reduceReplicate, rowOf_own g7, rowOf_own g8]
 have hwn := ans_wnew xd xc xu 83 gS 1 0 0 Sm.zero m8
 refine Ans.mono hwn ?_
 rintro _ m9 ⟨k9, xw, rfl, lw, hw⟩
 have g9 := k9.own g8 (by simp)
 have t9 := k9.own t8 (by simp)
 simp -implicitDefEqProofs (disch := (first | omega | (simp only [lq11] <;> omega) | fail)) only [admQ, lq11, aFill, AK.cls, implies_true, if_true, if_false, seval, -List.reduceReplicate, rowOf_own g7, rowOf_own g8, rowOf_own g9]
 have k10 := Kept.app [] m9 [Blk.row [.ptr xd 0, .iface 83 (.ptr xc 0), .int .i64 18, .int .i64 32, .int .i64 4, .ptr m7.length 0, .ptr xu 0, .ptr xw 0] false]
 have h10 : own (m9 ++ [Blk.row [.ptr xd 0, .iface 83 (.ptr xc 0), .int .i64 18, .int .i64 32, .int .i64 4, .ptr m7.length 0, .ptr xu 0, .ptr xw 0] false]) m9.length = some [.ptr xd 0, .iface 83 (.ptr xc 0), .int .i64 18, .int .i64 32, .int .i64 4, .ptr m7.length 0, .ptr xu 0, .ptr xw 0] := by rw [own_app_at0]; rfl
 generalize m9 ++ [Blk.row [.ptr xd 0, .iface 83 (.ptr xc 0), .int .i64 18, .int .i64 32, .int .i64 4, .ptr m7.length 0, .ptr xu 0, .ptr xw 0] false] = M at *
 have l12 := k2.len
 have l23 := k3.len
 have l34 := k4.len
 have l45 := k5.len
 have l56 := k6.len
 have l67 := k7.len
 have l78 := k8.len
 have l89 := k9.len
 have l1 := k1.len
 have lt8 := own_lt t8
 have lw9 := own_lt hw
 have lxu := own_lt hT.hd
 have lbu := own_lt hT.rows
 have kB : Kept [bu] m4 M := ((((k5.trans k6).any.trans k7).trans k8.any).trans k9.any).trans k10.any
 have kC : Kept [bu] m5 M := (((k6.any.trans k7).trans k8.any).trans k9.any).trans k10.any
 have kD : Kept [] m7 M := (k8.trans k9).trans k10
 have hRd2 : ∀ q ∈ Rd, q < m4.length := hD.lt
 have hCy : Cy m5 xc Wc Wc (.nm [] []) := ⟨hN, rfl⟩
 have hWc2 : ∀ q ∈ Wc, q < m5.length := hCy.lt
 have hVX : VlX M xd xc xu xw Wd Rd Wc Wc bu .nils v0 := by
  refine ⟨hD.kept kB (fun q hq h => ?_), hCy.kept kC (fun q hq h => ?_), hT7.kept0 kD, ?_, .nils .., ?_, ?_, ?_, by simp [blkOf]⟩
  ·simp only [List.mem_singleton] at h; have := hRd2 q hq; omega
  ·simp only [List.mem_singleton] at h; have := hWc2 q hq; omega
  ·exact k10.own hw (by simp)
  ·intro q h1 h2; have := hRd2 q h1; have := hWc q h2; omega
  ·exact ⟨fun h => by have := hRd2 _ h; omega, fun h => by have := hWc2 _ h; omega, fun h => by have := hRd2 _ h; omega, fun h => by have := hWc2 _ h; omega⟩
  ·exact ⟨fun h => by have := hRd2 _ h; omega, fun h => by have := hWc2 _ h; omega, by omega, by omega⟩
 have hB : ∀ q ∈ vlR xu xw Rd Wc bu .nils, m3.length ≤ q ∧ q ≠ m7.length ∧ q < m9.length := by
  intro q hq
  simp only [vlR, blkOf, List.nil_append, List.mem_cons, List.mem_append] at hq
  rcases hq with rfl | rfl | rfl | hq | hq
  ·omega
  ·omega
  ·omega
  ·have := hRd q hq; have := hRd2 q hq; omega
  ·have := hWc q hq; have := hWc2 q hq; omega
 refine ⟨m9.length, xd, xc, xu, xw, m7.length, vlR xu xw Rd Wc bu .nils, vlW xw Wd Wc bu .nils, rfl, ?_, ⟨⟨Wd, Rd, Wc, Wc, bu, .nils, hVX, rfl, rfl⟩, k10.own t9 (by simp), h10, fun h => (hB _ h).2.1 rfl, ⟨fun h => by have := (hB _ h).2.2; omega, by omega⟩⟩, by omega, by omega, fun q hq => by have := (hB q hq).1; have := k1.len; omega⟩
 exact ((((k1.trans k2).trans k3).trans k4).upon kB (fun q hq => by simp only [List.mem_singleton] at hq; omega))
theorem ans_sameitem {m : Mem} {i : Itm} {w z : AV} (hw : RdB m w i.data) (hz : RdB m z i.data) (hl : i.data.length ≤ 100000) : Ans Tryz.prog 19 [.agg (itC i w), .agg (itC i z)] m fun r m' => r = .bool true ∧ Kept [] m m' := by
 refine ans_ret mixed ok19 ?_
 have hlen := fun i w => itC_len i w
 have kA := Kept.app [] m [Blk.row (itC i w) false, Blk.row (itC i z) false]
 have oi : own (m ++ [Blk.row (itC i w) false, Blk.row (itC i z) false]) m.length = some (itC i w) := by rw [own_app_at0]; rfl
 have oj : own (m ++ [Blk.row (itC i w) false, Blk.row (itC i z) false]) (m.length + 1) = some (itC i z) := by rw [own_app_at]; rfl
 have c0 : ∀ (i : Itm) w, (itC i w)[0]? = some (.int .i64 i.k) := fun _ _ => rfl
 have c1 : ∀ (i : Itm) w, (itC i w)[1]? = some (.int .i64 i.no) := fun _ _ => rfl
 have c2 : ∀ (i : Itm) w, List.take 33 (List.drop 2 (itC i w)) = i.ref.cells := fun i _ => List.take_left' i.ref.cells_len
 have c3 : ∀ (i : Itm) w, (itC i w)[35]? = some w := fun i w => by
  have h : itC i w = (.int .i64 i.k :: .int .i64 i.no :: i.ref.cells) ++ [w] := rfl
  have hl : (.int .i64 i.k :: .int .i64 i.no :: i.ref.cells : List AV).length = 35 := by simp [Rf.cells_len]
  rw [h, List.getElem?_append_right (by omega), hl]; rfl
 have e1 : (i.k == i.k) = true := beq_self_eq_true _
 have e2 : (i.no == i.no) = true := beq_self_eq_true _
 have e3 : aEqCells (List.replicate 33 .i) i.ref.cells i.ref.cells = some true := by rw [← beq_self_eq_true i.ref]; exact aEq_rf _ _
 simp -implicitDefEqProofs (disch := (first | omega | (simp only [lq11] <;> omega) | fail)) only [admQ, lq11, aFill, AK.cls, implies_true, if_true, if_false, seval, -List.reduceReplicate, c19, r19, hlen, rowOf_own oi, rowOf_own oj, c0, c1, c2, c3, e1, e2, e3]
 refine (ans_samebytes (hw.kept0 kA) (hz.kept0 kA) (by omega)).mono ?_
 rintro _ M ⟨rfl, hM⟩
 subst hM
 rw [beq_self_eq_true]
 simp -implicitDefEqProofs (disch := (first | omega | (simp only [lq11] <;> omega) | fail)) only [admQ, lq11, aFill, AK.cls, implies_true, if_true, if_false, seval, -List.reduceReplicate]
 exact kA
end Go.Proofs.YtehnkcnjmfbjpaaGreat
end
section
namespace Go.Proofs.YtehnkcnjmfbjpaaGreat
open Go Go.Adm
set_option linter.unusedSimpArgs false
set_option linter.unusedVariables false
set_option maxRecDepth 100000
theorem peek0 (n : Nat) (a : Int) : peekD (dk0 n) a = [] := by
 unfold peekD
 have : cGet (dk0 n).cache a = none := rfl
 rw [this, Option.getD_none]
 show ((List.replicate n ([] : List B8))[a.toNat]?).getD [] = []
 rw [List.getElem?_replicate]
 split <;> rfl
theorem new_b (b : Nat) : Tr.new.b b = Rf.zero := by
 unfold Tr.b
 show (List.replicate 64 Rf.zero).getD b Rf.zero = Rf.zero
 rw [List.getD_eq_getElem?_getD, List.getElem?_replicate]
 split <;> rfl
theorem tb0 : TbOk v0.u 0 (cntS Tr.new.refs) := by
 have hu : v0.u = ⟨1, 0, 0⟩ :: List.replicate 17 ⟨0, 0, 0⟩ := rfl
 have hc : ∀ s, cntS Tr.new.refs s = 0 := fun s => rfl
 rw [hu]
 refine ⟨rfl, fun s hs => ⟨0, ?_⟩, fun s _ => by rw [hc]; omega, fun s _ _ => hc s⟩
 rw [hc]
 cases s with
 | zero => rfl
 | succ s =>
  rw [List.getElem?_cons_succ, List.getElem?_replicate, if_pos (by omega), if_neg (by omega), if_neg (by omega)]
theorem J0 : J x0 (fun _ => []) := by
 refine ⟨⟨⟨rfl, rfl, by decide, by decide, by decide, ⟨rfl, rfl, by show (List.replicate 579 ([] : List B8)).length = 579; rw [List.length_replicate], by show ([] : List Int).Nodup; exact List.nodup_nil⟩, ?_, ?_, ?_, ?_, tb0⟩, by decide, by decide, EntsOk.nil _⟩, ?_, ?_⟩
 ·show ([] : List Sd).length ≤ _; simp
 ·show ([] : List (List B8)).length ≤ _; simp
 ·intro a h1 h2
  have : x0.v.pos = 0 := rfl
  omega
 ·intro a _; exact peek0 579 a
 ·intro b _ hz; exact absurd (new_b b) hz
 ·intro i hi
  have : i = 0 ∨ i = 1 ∨ i = 2 ∨ i = 3 ∨ i = 4 ∨ i = 5 ∨ i = 6 ∨ i = 7 ∨ i = 8 := by omega
  rcases this with rfl | rfl | rfl | rfl | rfl | rfl | rfl | rfl | rfl
  ·exact .inr (.inr (.inl ⟨rfl, rfl⟩))
  all_goals exact .inl rfl
theorem ap_small {v : Vl} {cn : Nat → Int} (h : LgV v cn) (h15 : v.w.seg ≤ 15) (h30 : v.w.slot ≤ 30) (h14 : v.w.ents.length ≤ 14) {k no : Int} (hk : k = 4 ∧ 0 ≤ no ∧ no < 64 ∨ k = 5 ∧ 0 ≤ no ∧ no < 9) {p : List B8} (hp : p.length ≤ 975) :
  (apV v k no p).w.slot = v.w.slot + 1 ∧ (apV v k no p).w.seg = v.w.seg ∧ (apV v k no p).w.ents.length = v.w.ents.length + 1 := by
 obtain ⟨r1, r2, r3, r4, r5, r6, r7⟩ := rm_step h (by omega)
 have hent : entK k no = if k = 4 then 1 else 3 := by
  unfold entK
  rcases hk with hk | hk
  ·rw [if_pos hk, if_pos hk.1]
  ·rw [if_neg (fun h => by omega), if_pos hk, if_neg (by omega)]
 have hent0 : ¬ (entK k no = 0 ∨ p.length > 975) := by rw [hent]; split <;> omega
 have hfull : ¬ (v.full ∧ (v.last 0 ∨ v.last 1 ∧ v.w.ents.length = 15)) := fun h' => tb_full h.w.tb ⟨h.w.seg.1, by omega⟩ h'.1
 have er := r7 h30
 obtain ⟨a1, a2, a3, a4, -⟩ := wr_step h.w (by omega) (k := k) (by omega) hp
 have hApV : apV v k no p = lyV (wrV v k p) (apX v k no p) := by
  rw [apV, if_neg hent0, if_neg hfull, er, if_neg (by simp [r1]), if_neg (by simp [a2])]
 have hl : (wrV v k p).w.ents.length = v.w.ents.length := by rw [a4]
 rw [hApV, lyV, if_pos (by rw [hl]; omega)]
 show (wrV v k p).w.slot = _ ∧ (wrV v k p).w.seg = _ ∧ ((wrV v k p).w.ents ++ [_]).length = _
 rw [List.length_append, hl, a4]
 exact ⟨rfl, rfl, rfl⟩
theorem put_small {x : Pt} {last : Nat → List B8} (h : J x last) (h15 : x.v.w.seg ≤ 15) (h30 : x.v.w.slot ≤ 30) (h14 : x.v.w.ents.length ≤ 14) {b : Nat} (hb : b < 64) {data : List B8} (hd : data.length = 32) :
  (puT x b data).v.w.slot = x.v.w.slot + 1 ∧ (puT x b data).v.w.seg = x.v.w.seg ∧ (puT x b data).v.w.ents.length = x.v.w.ents.length + 1 := by
 have hpl : (puP b data).length ≤ 975 := by rw [puP, List.length_append, numI_len]; omega
 obtain ⟨a1, -⟩ := ap_step h.lg h15 (k := 4) (no := b) (.inl ⟨rfl, by omega, by omega⟩) hpl
 have hE : puE x b data = 0 := a1
 have hT : puT x b data = ⟨((apV x.v 4 b (puP b data)).acc 1 [apR x.v 4 b (puP b data)]).acc (-1) (x.t.setR b (apR x.v 4 b (puP b data))), x.t.setT b (apR x.v 4 b (puP b data))⟩ := by
  rw [puT, if_neg (by simp [hE])]
 rw [hT]
 exact ap_small h.lg h15 h30 h14 (.inl ⟨rfl, by omega, by omega⟩) hpl
theorem put_at {x : Pt} {last : Nat → List B8} (h : J x last) (hp : Psi x < 7936) (h30 : x.v.w.slot ≤ 30) (h14 : x.v.w.ents.length ≤ 14) {b : Nat} (hb : b < 64) {data : List B8} (hd : data.length = 32) :
  ((puT x b data).t.b b).at_ = 3 + x.v.pos ∧ (puT x b data).t.b b ≠ Rf.zero ∧ (puT x b data).v.pos = x.v.pos + 1 := by
 obtain ⟨a1, a2, a3, a4, r, a5, a6, a7⟩ := put_step h hp hb hd
 obtain ⟨s1, s2, s3⟩ := put_small h (psi_seg h hp) h30 h14 hb hd
 have e : (puT x b data).t.b b = r := by rw [a5, setT_b, if_pos ⟨a6, by simp⟩]
 have hpos : (puT x b data).v.pos = x.v.pos + 1 := by
  show 32 * (puT x b data).v.w.seg + (puT x b data).v.w.slot = 32 * x.v.w.seg + x.v.w.slot + 1
  omega
 have hz : (puT x b data).t.b b ≠ Rf.zero := by
  rw [e]; rintro rfl
  exact absurd a6.2 (by decide)
 have := (a2.tr.bl b hb hz).1.1
 rw [e] at this hz ⊢
 exact ⟨by omega, hz, hpos⟩
theorem sav_small {x : Pt} {last : Nat → List B8} (h : J x last) (h15 : x.v.w.seg ≤ 15) (h30 : x.v.w.slot ≤ 30) (h14 : x.v.w.ents.length ≤ 14) {i : Nat} (hi : i < 9) (h0 : ¬ ((i : Int) = 0 ∧ x.t.mapped = 0)) :
  (savT x i).v.w.slot = x.v.w.slot + 1 ∧ (savT x i).v.w.seg = x.v.w.seg ∧ (savT x i).v.w.ents.length = x.v.w.ents.length + 1 := by
 have hpg := h.page hi
 have hpE : pgE i (x.t.page i) = 0 := if_pos hpg
 have hpl8 : (x.t.page i).length = 8 := by rw [Tr.page, tab_len]
 obtain ⟨a1, -⟩ := ap_step h.lg h15 (k := 5) (no := i) (.inr ⟨rfl, by omega, by omega⟩) (pgB_len (i := i) hpl8)
 have hv : (savT x i).v.w = (apV x.v 5 i (pgB i (x.t.page i))).w := by
  rw [savT, if_neg h0, if_neg (by simp [hpE]), if_neg (by simp [a1])]; rfl
 rw [hv]
 exact ap_small h.lg h15 h30 h14 (.inr ⟨rfl, by omega, by omega⟩) (pgB_len (i := i) hpl8)
theorem en_stored {v : Vl} {cn : Nat → Int} (h : LgW v cn) (hs : v.w.slot ≤ 31) (h16 : v.w.seg ≤ 16) (hl : v.w.ents.length ≤ 16) (he : chkL (-1) v.w.ents = 0) : ∃ p, Stored (enV v 0).d (enV v 0).c (3 + v.pos) 3 p := by
 obtain ⟨e1, e2, -⟩ := en_step h hs h16 hl he
 have hE : smyE (enS v 0) = 0 := by
  unfold enE at e1
  by_cases h' : smyE (enS v 0) = 0
  ·exact h'
  ·rw [if_pos h'] at e1; exact e1
 obtain ⟨a1, a2, a3, a4, a5, a6, a7, a8, a9⟩ := wr_step h hs (k := 3) (by omega) (smyB_le (enS v 0))
 have hU : enU v = { v with u := (enU v).u } := by
  unfold enU; split <;> rfl
 obtain ⟨u1, u2, u3⟩ := wr_u v (enU v).u 3 (smyB (enS v 0))
 rw [← hU] at u1 u2 u3
 have hE2 : wrE (enU v) 3 (smyB (enS v 0)) = 0 := by rw [u1, a2]
 have hV : (enV v 0).d = (wrV v 3 (smyB (enS v 0))).d ∧ (enV v 0).c = (wrV v 3 (smyB (enS v 0))).c := by
  rw [enV, if_neg (by simp [hE]), if_neg (by simp [hE2]), u2]; exact ⟨rfl, rfl⟩
 rw [hV.1, hV.2, ← a1]
 exact ⟨_, a8⟩
theorem cl_stored {v : Vl} {cn : Nat → Int} (h : LgV v cn) (h15 : v.w.seg ≤ 15) : (∃ p, Stored (clV v 0).d (clV v 0).c (3 + v.pos) 3 p) ∧ (clV v 0).pos = v.pos + 1 := by
 have hfull : ¬ (v.full ∧ v.last 0) := fun h' => tb_full h.w.tb ⟨h.w.seg.1, by omega⟩ h'.1
 have hb' : ¬ ((0 : Int) < 0 ∨ 1099511627776 < (0 : Int)) := by omega
 have e2 : clV v 0 = enV v 0 := by rw [clV, if_neg hb', if_neg hfull]
 rw [e2]
 have h16 : v.w.seg ≤ 16 := by omega
 have hl : v.w.ents.length ≤ 16 := by have := h.el; omega
 exact ⟨en_stored h.w h.s31 h16 hl h.ek.1, (en_step h.w h.s31 h16 hl h.ek.1).2.2.2.2⟩
end Go.Proofs.YtehnkcnjmfbjpaaGreat
end
section
namespace Go.Proofs.YtehnkcnjmfbjpaaGreat
open Go Go.Adm
set_option linter.unusedSimpArgs false
set_option linter.unusedVariables false
set_option maxRecDepth 100000
theorem J.same {x x' : Pt} {last last' : Nat → List B8} (h : J x last) (h' : J x' last') (e : Ext x.v x'.v) : SameHd x x' := ⟨e.up.ty, by rw [h.lg.w.g, h'.lg.w.g]⟩
def Then (xp xd xc xu xw xt : Nat) (m : Mem) (B V : List Nat) (x' : Pt) (m' : Mem) : Prop := ∃ B' V', PtM m' xp xd xc xu xw xt B' V' x' ∧ Kept (xt :: V) m m' ∧ (∀ q ∈ B', q ∈ B ∨ m.length ≤ q) ∧ (∀ q ∈ V', q ∈ V ∨ m.length ≤ q)
section
variable {m : Mem} {xp xd xc xu xw xt : Nat} {B V : List Nat} {x : Pt} {last : Nat → List B8} (h : PtM m xp xd xc xu xw xt B V x) (hj : J x last)
include h hj
theorem pj_put (hp : Psi x < 7936) {b : Nat} (hb : b < 64) {y : AV} {data : List B8} (hy : RdB m y data) (hyB : ∀ q ∈ blkOf y, q ∉ B) (hd : data.length = 32) :
  Ans Tryz.prog 10 [.ptr xp 0, .int .i64 b, y] m fun r m' => r = .int .i64 0 ∧ Then xp xd xc xu xw xt m B V (puT x b data) m' := by
 obtain ⟨a1, a2, a3, a4, -⟩ := put_step hj hp hb hd
 refine (ans_ptput h hj.ok b hy hyB (by omega)).mono ?_
 rintro _ m' ⟨rfl, g⟩
 exact ⟨by rw [a1], h.next g (hj.same a2 a4)⟩
theorem pj_save (hp : Psi x < 7936) : Ans Tryz.prog 9 [.ptr xp 0] m fun r m' => r = .int .i64 0 ∧ Then xp xd xc xu xw xt m B V (saT x x.t.dirtyL) m' := by
 obtain ⟨a1, a2, a3, a4, a5, a6⟩ := save_step x.t.dirtyL hj hp rfl
 refine (ans_ptsave h (fun k => (a6 k).ok)).mono ?_
 rintro _ m' ⟨rfl, g⟩
 exact ⟨by rw [a1], h.next g (hj.same a2 a4)⟩
theorem pj_close (hp : Psi x < 7936) : Ans Tryz.prog 20 [.ptr xw 0, .int .i64 0] m fun r m' => r = .int .i64 0 ∧ Then xp xd xc xu xw xt m B V ⟨clV x.v 0, x.t⟩ m' := by
 obtain ⟨a1, a2, a3, a4⟩ := close_step hj hp
 refine (ans_wclose h.vl ⟨hj.ok.vl.hg, hj.ok.vl.hu, ⟨cyOk_mono hj.ok.vl.hc.1 (by omega), cyTk_mono hj.ok.vl.hc.2 (by omega)⟩, hj.ok.vl.hl⟩ 0).mono ?_
 rintro _ m' ⟨rfl, g⟩
 exact ⟨by rw [a1], h.next (Goes.parts (x1 := ⟨clV x.v 0, x.t⟩) g h.tr h.a1 h.vl.sub) (hj.same a2 a4)⟩
theorem J.peek_le {a : Int} (ha : 3 ≤ a) : (peekD x.v.d a).length ≤ 1024 := by
 have _u := h
 rcases hj.seen ha with ⟨k, p, hs⟩ | hs
 ·exact hs.get.2.2.2.1
 ·rw [hs]; simp
theorem pj_what (seg slot : Int) : Ans Tryz.prog 14 [.ptr xp 0, .agg [.int .i64 seg, .int .i64 slot]] m fun r m' => ∃ w, r = .tup [.agg (itC ((whO x seg slot).getD Itm.zero) w), .bool (whO x seg slot).isSome] ∧ RdB m' w ((whO x seg slot).getD Itm.zero).data ∧ (∀ q ∈ blkOf w, m.length ≤ q) ∧ Kept V m m' ∧ PtM m' xp xd xc xu xw xt B V (whT x seg slot) := by
 refine ans_lwhat h (cyOk_mono hj.ok.vl.hc.1 (by omega)) (cyTk_mono hj.ok.vl.hc.2 (by omega)) seg slot fun h0 => ?_
 have hin : (0 ≤ seg ∧ seg ≤ 17) ∧ 0 ≤ slot ∧ slot ≤ 31 := Classical.byContradiction fun h' => h0 (by rw [hj.lg.w.g]; exact at_no h')
 have ha := at_in hj.lg.w.g hin.1 hin.2
 rw [ha, hj.lg.w.dk.2.2.1]
 unfold secOf
 have := hj.peek_le (a := 3 + seg * 32 + slot) h (by omega)
 omega
theorem pj_is (i : Itm) {w : AV} (hw : cellsV w = [w] ∧ w.solid = true) : Ans Tryz.prog 15 [.ptr xp 0, .agg (itC i w)] m fun r m' => r = .bool (isB x.t i) ∧ Kept [] m m' := by
 have _u := hj
 exact ans_lis h i w hw
theorem pj_counts : Ans Tryz.prog 24 [.ptr xp 0] m fun r m' => ∃ b, r = .sl b 0 18 18 0 ∧ own m' b = some (intsC ((List.range 18).map (cntS x.t.refs))) ∧ m.length ≤ b ∧ Kept [] m m' := by
 have hg := hj.lg.w.g
 have hrl : x.t.refs.length ≤ 1000 := by
  have h1 : (liveB x.t.bl).length ≤ x.t.bl.length := List.length_filter_le _ _
  have h2 : ∀ l : List Nd, (liveN l).length ≤ l.length := by
   intro l
   induction l with
   | nil => exact Nat.le_refl _
   | cons n l ih =>
    have : (goneN n).length ≤ 1 := by unfold goneN; split <;> simp
    simp only [liveN, List.flatMap_cons, List.length_append, List.length_cons] at ih ⊢
    omega
  have h3 := h2 x.t.nd
  rw [x.t.hb] at h1
  rw [x.t.hn] at h3
  rw [Tr.refs, List.length_append]; omega
 refine (ans_lcounts h (by rw [hg]; decide) hrl).mono ?_
 rw [hg]
 rintro _ m' ⟨b, rfl, hb⟩
 exact ⟨b, rfl, hb⟩
end
theorem itC_k (i : Itm) (w : AV) : (itC i w)[0]? = some (.int .i64 i.k) := rfl
theorem itC_n (i : Itm) (w : AV) : (itC i w)[1]? = some (.int .i64 i.no) := rfl
theorem itC_w (i : Itm) (w : AV) : (itC i w)[35]? = some w := by
 have h : itC i w = (.int .i64 i.k :: .int .i64 i.no :: i.ref.cells) ++ [w] := rfl
 have hl : (.int .i64 i.k :: .int .i64 i.no :: i.ref.cells : List AV).length = 35 := by simp [Rf.cells_len]
 rw [h, List.getElem?_append_right (by omega), hl]; rfl
theorem itC_t (i : Itm) (w : AV) : List.take 36 (itC i w) = itC i w := List.take_of_length_le (by rw [itC_len]; omega)
theorem known_facts : ∃ x1 x2 : Pt, puT x0 2 (rowB 32) = x1 ∧ puT x1 2 (List.replicate 32 0#8) = x2 ∧ puE x0 2 (rowB 32) = 0 ∧ J x1 (fun i => if i = 2 then rowB 32 else []) ∧ Psi x1 < 7936 ∧ J x2 (fun i => if i = 2 then List.replicate 32 0#8 else if i = 2 then rowB 32 else []) ∧ x2.v.pos = 2 ∧ (x2.t.b 2).at_ = 4 ∧ x2.t.b 2 ≠ Rf.zero ∧ Stored x2.v.d x2.v.c 3 4 (puP 2 (rowB 32)) ∧ cntS x2.t.refs 0 = 1 := by
 have rl : (rowB 32).length = 32 := rowB_len 32
 have zl : (List.replicate 32 0#8).length = 32 := by simp
 obtain ⟨a1, a2, a3, a4, r1, a5, a6, a7⟩ := put_step J0 (b := 2) (by decide) (by omega) rl
 obtain ⟨b1, b2, b3⟩ := put_at J0 (b := 2) (by decide) (by decide) (by decide) (by omega) rl
 obtain ⟨c1, c2, c3⟩ := put_small J0 (b := 2) (by decide) (by decide) (by decide) (by omega) rl
 have hp0 : x0.v.pos = 0 := rfl
 have hps : Psi x0 = 0 := rfl
 have hs0 : x0.v.w.slot = 0 := rfl
 have he0 : x0.v.w.ents.length = 0 := rfl
 have hx0 : x0.t = Tr.new := rfl
 have a1' : puT x0 (2 : Nat) (rowB 32) = puT x0 2 (rowB 32) := rfl
 rw [a1'] at a2 a3 a4 a5 b1 b2 b3 c1 c2 c3
 have a6 : Tr.setOk 2 r1 := a6
 have a5 : (puT x0 2 (rowB 32)).t = x0.t.setT 2 r1 := a5
 refine ⟨_, _, rfl, rfl, a1, a2, by omega, ?_⟩
 generalize puT x0 2 (rowB 32) = x1 at *
 obtain ⟨d1, d2, d3, d4, r2, d5, d6, d7⟩ := put_step a2 (b := 2) (by omega) (by omega) zl
 obtain ⟨e1, e2, e3⟩ := put_at a2 (b := 2) (by omega) (by omega) (by omega) (by omega) zl
 have d1' : puT x1 (2 : Nat) (List.replicate 32 0#8) = puT x1 2 (List.replicate 32 0#8) := rfl
 rw [d1'] at d2 d3 d4 d5 e1 e2 e3
 have d6 : Tr.setOk 2 r2 := d6
 have d5 : (puT x1 2 (List.replicate 32 0#8)).t = x1.t.setT 2 r2 := d5
 have hS : Stored x1.v.d x1.v.c 3 4 (puP 2 (rowB 32)) := by
  have := (a2.tr.bl 2 (by omega) b2).1.2.2
  rw [b1, hp0, if_pos rfl] at this
  exact this
 have g1 : x1.t.b 2 = r1 := by rw [a5, setT_b, if_pos ⟨a6, by decide⟩]
 have f1 : ∀ q, x1.t.refs.count q = [r1].count q := fun q => by
  have := cnt_set x0.t 2 r1 q
  rw [if_pos a6] at this
  have h2 : x0.t.setR 2 r1 = [] := by
   rw [Tr.setR, if_pos a6]; rfl
  rw [h2, show x0.t.refs = [] from rfl] at this
  rw [a5]
  simpa using this
 have f2 : ∀ q, (puT x1 2 (List.replicate 32 0#8)).t.refs.count q = [r2].count q := fun q => by
  have := cnt_set x1.t 2 r2 q
  rw [if_pos d6] at this
  have h2 : x1.t.setR 2 r2 = [r1] := by
   rw [Tr.setR, if_pos d6]
   have h3 : x1.t.old (2 : Int).toNat = [r1] := by
    rw [Tr.old, show (2 : Int).toNat = 2 from rfl, if_neg b2, g1]
   rw [h3, a5, hx0, Tr.setT, if_pos a6]; rfl
  rw [h2, f1] at this
  rw [d5]
  omega
 have g2 : (puT x1 2 (List.replicate 32 0#8)).t.b 2 = r2 := by rw [d5, setT_b, if_pos ⟨d6, by decide⟩]
 refine ⟨d2, by omega, by omega, e2, d4.stored hS (by omega), ?_⟩
 have := cntS_cnt (a := (puT x1 2 (List.replicate 32 0#8)).t.refs) (b := []) (c := [r2]) (d := []) (fun q => by rw [f2]) 0
 have h0 : cntS [] 0 = 0 := rfl
 rw [h0, cntS_cons, h0, if_pos ((inS_iff 0 r2).mpr (by rw [← g2]; omega))] at this
 omega
theorem ans_lvknown (m : Mem) : Ans Tryz.prog 12 [] m fun r m' => r = .bool true ∧ True := by
 refine ans_ret mixed ok12 ?_
 simp -implicitDefEqProofs (disch := (first | omega | (simp only [lq11] <;> omega) | fail)) only [admQ, lq11, aFill, AK.cls, implies_true, if_true, if_false, seval, -List.reduceReplicate, c12, r12]
 refine (ans_lvfresh m).mono ?_
 rintro _ m1 ⟨xp, xd, xc, xu, xw, xt, B, V, rfl, k1, hP, hxp, hxt, hB⟩
 simp -implicitDefEqProofs (disch := (first | omega | (simp only [lq11] <;> omega) | fail)) only [admQ, lq11, aFill, AK.cls, implies_true, if_true, if_false, seval, -List.reduceReplicate]
 refine (ans_row 32 (by omega) m1).mono ?_
 rintro _ m2 ⟨p2, rfl, k2, l2, o2⟩
 simp -implicitDefEqProofs (disch := (first | omega | (simp only [lq11] <;> omega) | fail)) only [admQ, lq11, aFill, AK.cls, implies_true, if_true, if_false, seval, -List.reduceReplicate]
 have rl : (rowB 32).length = 32 := rowB_len 32
 have zl : (List.replicate 32 0#8).length = 32 := by simp
 have hy2 : RdB m2 (.sl p2 0 32 32 0) (rowB 32) := by have := RdB.row (l := rowB 32) 32 0 (rowOf_own o2) (by omega); rw [rl] at this; exact this
 have hB2 : ∀ q ∈ B, q < m1.length := hP.vl.lt
 obtain ⟨x1, x2, hx1, hx2, -, j1, p1, j2, ps2, at2, nz2, st2, cn2⟩ := known_facts
 have hpj := pj_put (b := 2) (hP.kept0 k2) J0 (by decide) (by omega) hy2 (fun q hq h => by simp only [blkOf, List.mem_singleton] at hq; have := hB2 q h; omega) rl
 refine Ans.mono hpj ?_
 rintro _ m3 ⟨rfl, B3, V3, hP3, k3, hB3, -⟩
 have e1 : puT x0 (2 : Nat) (rowB 32) = x1 := hx1
 rw [e1] at hP3
 have k4 := Kept.app [] m3 [Blk.row (bys (List.replicate 32 0#8)) false]
 have z4 : own (m3 ++ [Blk.row (bys (List.replicate 32 0#8)) false]) m3.length = some (bys (List.replicate 32 0#8)) := by rw [own_app_at0]; rfl
 have hr32 : rep 32 [AV.int .u8 0] = bys (List.replicate 32 0#8) := by rw [← bys_rep]; simp [rep]
 have hB3' : ∀ q ∈ B3, q < m3.length := hP3.vl.lt
 simp -implicitDefEqProofs (disch := (first | omega | (simp only [lq11] <;> omega) | fail)) only [admQ, lq11, aFill, AK.cls, implies_true, if_true, if_false, seval, -List.reduceReplicate, hr32]
 have hy4 : RdB (m3 ++ [Blk.row (bys (List.replicate 32 0#8)) false]) (.sl m3.length 0 32 32 0) (List.replicate 32 0#8) := by have := RdB.row (l := List.replicate 32 0#8) 32 0 (rowOf_own z4) (by omega); rw [zl] at this; exact this
 generalize m3 ++ [Blk.row (bys (List.replicate 32 0#8)) false] = m4 at *
 have hpj2 := pj_put (b := 2) (hP3.kept0 k4) j1 p1 (by omega) hy4 (fun q hq h => by simp only [blkOf, List.mem_singleton] at hq; have := hB3' q h; omega) zl
 refine Ans.mono hpj2 ?_
 rintro _ m5 ⟨rfl, B5, V5, hP5, k5, hB5, -⟩
 have e2 : puT x1 (2 : Nat) (List.replicate 32 0#8) = x2 := hx2
 rw [e2] at hP5
 clear hx1 hx2 e1 e2 hpj hpj2
 have hW0 : whO x2 0 0 = some ⟨4, 2, ⟨3, smOf x2.v.c (peekD x2.v.d 3)⟩, rowB 32⟩ := whO_block (a := 3) (b := 2) (by rw [j2.lg.w.g]; rfl) (by omega) (by omega) rl st2
 simp -implicitDefEqProofs (disch := (first | omega | (simp only [lq11] <;> omega) | fail)) only [admQ, lq11, aFill, AK.cls, implies_true, if_true, if_false, seval, -List.reduceReplicate]
 refine Ans.mono (pj_what hP5 j2 0 0) ?_
 rintro _ m6 ⟨w6, rfl, rw6, bl6, k6, hP6⟩
 rw [hW0] at rw6 ⊢
 obtain ⟨j6, q6, -, v6, -, t6⟩ := j2.look 0 0
 generalize whT x2 0 0 = x6 at *
 have hiC : ∀ i w, (itC i w).length = 36 := itC_len
 have hZS : ∀ i w, splice (AV.int .i64 0 :: .int .i64 0 :: .int .i64 0 :: (bys (List.replicate 32 0#8) ++ [.nils])) 0 (itC i w) = itC i w := fun i w => splice_full (by rw [itC_len]; rfl)
 have k6c := Kept.app [] m6 [Blk.row (itC ⟨4, 2, ⟨3, smOf x2.v.c (peekD x2.v.d 3)⟩, rowB 32⟩ w6) false]
 have o6 : own (m6 ++ [Blk.row (itC ⟨4, 2, ⟨3, smOf x2.v.c (peekD x2.v.d 3)⟩, rowB 32⟩ w6) false]) m6.length = some (itC ⟨4, 2, ⟨3, smOf x2.v.c (peekD x2.v.d 3)⟩, rowB 32⟩ w6) := by rw [own_app_at0]; rfl
 simp only [Option.getD_some, Option.isSome_some] at rw6 ⊢
 simp -implicitDefEqProofs (disch := (first | omega | (simp only [lq11] <;> omega) | fail)) only [admQ, lq11, aFill, AK.cls, implies_true, if_true, if_false, seval, -List.reduceReplicate, hiC, hZS]
 have hb5 : ∀ q ∈ B5, q < m5.length := hP5.vl.lt
 have hV5 := hP5.vl.sub
 have l56 := k6.len
 have rw6' := rw6.kept0 k6c
 have hP6' := hP6.kept0 k6c
 have l6 := own_lt o6
 generalize m6 ++ [Blk.row (itC ⟨4, 2, ⟨3, smOf x2.v.c (peekD x2.v.d 3)⟩, rowB 32⟩ w6) false] = m7 at *
 have nz6 : x6.t.b 2 ≠ Rf.zero := by rw [t6]; exact nz2
 have at6 : (x6.t.b 2).at_ = secOf 0 1 := by rw [t6]; exact at2
 obtain ⟨hW1, hI1⟩ := j6.block (seg := 0) (slot := 1) (by omega) (by omega) (b := 2) (by omega) nz6 at6
 rw [if_pos rfl] at hW1 hI1
 refine Ans.mono (pj_what hP6' j6 0 1) ?_
 rintro _ m8 ⟨w8, rfl, rw8, bl8, k8, hP8⟩
 rw [hW1] at rw8 ⊢
 obtain ⟨j8, q8, -, v8, -, t8⟩ := j6.look 0 1
 generalize whT x6 0 1 = x8 at *
 simp only [Option.getD_some, Option.isSome_some] at rw8 ⊢
 have k8c := Kept.app [] m8 [Blk.row (itC ⟨4, (2 : Nat), x6.t.b 2, List.replicate 32 0#8⟩ w8) false]
 have o8 : own (m8 ++ [Blk.row (itC ⟨4, (2 : Nat), x6.t.b 2, List.replicate 32 0#8⟩ w8) false]) m8.length = some (itC ⟨4, (2 : Nat), x6.t.b 2, List.replicate 32 0#8⟩ w8) := by rw [own_app_at0]; rfl
 have hn5 : ∀ q, m5.length ≤ q → q ∉ V5 := fun q h1 h2 => by have := hb5 q (hV5 q h2); omega
 have o7 := k8c.own (k8.own o6 (hn5 _ l56)) (by simp)
 have rw7 := (rw6'.kept k8 (fun b o n cap s e => hn5 b (bl6 b (by rw [e]; simp [blkOf])))).kept0 k8c
 have hP8' := hP8.kept0 k8c
 simp -implicitDefEqProofs (disch := (first | omega | (simp only [lq11] <;> omega) | fail)) only [admQ, lq11, aFill, AK.cls, implies_true, if_true, if_false, seval, -List.reduceReplicate, hiC, hZS]
 have l8 := own_lt o8
 have l78 := k8.len
 generalize m8 ++ [Blk.row (itC ⟨4, (2 : Nat), x6.t.b 2, List.replicate 32 0#8⟩ w8) false] = m9 at *
 have hW2 : whO x8 0 2 = none := whO_nil (a := 5) (by rw [j8.lg.w.g]; rfl) (j8.lg.w.un 5 (by
  have : x8.v.pos = 2 := by show 32 * x8.v.w.seg + x8.v.w.slot = 2; rw [v8, v6]; exact ps2
  omega))
 refine Ans.mono (pj_what hP8' j8 0 2) ?_
 rintro _ m10 ⟨w10, rfl, rw10, bl10, k10, hP10⟩
 rw [hW2]
 obtain ⟨j10, q10, -, v10, -, t10⟩ := j8.look 0 2
 generalize whT x8 0 2 = x10 at *
 simp only [Option.getD_none, Option.isSome_none]
 have k10c := Kept.app [] m10 [Blk.row (itC Itm.zero w10) false]
 have o9 := k10c.own (k10.own o7 (hn5 _ l56)) (by simp)
 have o10 := k10c.own (k10.own o8 (hn5 _ (by omega))) (by simp)
 have rw9 := (rw7.kept k10 (fun b o n cap s e => hn5 b (bl6 b (by rw [e]; simp [blkOf])))).kept0 k10c
 have hP10' := hP10.kept0 k10c
 simp -implicitDefEqProofs (disch := (first | omega | (simp only [lq11] <;> omega) | fail)) only [admQ, lq11, aFill, AK.cls, implies_true, if_true, if_false, seval, -List.reduceReplicate, hiC, hZS]
 generalize m10 ++ [Blk.row (itC Itm.zero w10) false] = m11 at *
 simp -implicitDefEqProofs (disch := (first | omega | (simp only [lq11] <;> omega) | fail)) only [admQ, lq11, aFill, AK.cls, implies_true, if_true, if_false, seval, -List.reduceReplicate, rowOf_own o9, itC_k, itC_n, itC_w, hiC]
 refine (ans_row 32 (by omega) m11).mono ?_
 rintro _ m12 ⟨p12, rfl, k12, l12, o12⟩
 have hy12 : RdB m12 (.sl p12 0 32 32 0) (rowB 32) := by have := RdB.row (l := rowB 32) 32 0 (rowOf_own o12) (by omega); rw [rl] at this; exact this
 have o9' := k12.own o9 (by simp)
 have o10' := k12.own o10 (by simp)
 simp -implicitDefEqProofs (disch := (first | omega | (simp only [lq11] <;> omega) | fail)) only [admQ, lq11, aFill, AK.cls, implies_true, if_true, if_false, seval, -List.reduceReplicate, rowOf_own o9', itC_k, itC_n, itC_w, hiC]
 refine (ans_samebytes (rw9.kept0 k12) hy12 (by rw [rl]; omega)).mono ?_
 rintro _ M ⟨rfl, hM⟩
 subst hM
 rw [beq_self_eq_true]
 have hPM := hP10'.kept0 k12
 simp -implicitDefEqProofs (disch := (first | omega | (simp only [lq11] <;> omega) | fail)) only [admQ, lq11, aFill, AK.cls, implies_true, if_true, if_false, seval, -List.reduceReplicate, rowOf_own o9', itC_k, itC_n, itC_w, itC_t, hiC]
 refine Ans.mono (pj_is hPM j10 ⟨4, 2, ⟨3, smOf x2.v.c (peekD x2.v.d 3)⟩, rowB 32⟩ (rd_one rw9)) ?_
 rintro _ m13 ⟨rfl, k13⟩
 have hno : isB x10.t ⟨4, 2, ⟨3, smOf x2.v.c (peekD x2.v.d 3)⟩, rowB 32⟩ = false := by
  rw [t10, t8, t6]
  have e : isB x2.t ⟨4, 2, ⟨3, smOf x2.v.c (peekD x2.v.d 3)⟩, rowB 32⟩ = (!(x2.t.at 2 == Rf.zero) && (x2.t.at 2 == ⟨3, smOf x2.v.c (peekD x2.v.d 3)⟩)) := rfl
  have e2 : (x2.t.at 2 == (⟨3, smOf x2.v.c (peekD x2.v.d 3)⟩ : Rf)) = false := by
   have h2 : x2.t.at 2 = x2.t.b 2 := rfl
   rw [h2, beq_eq_false_iff_ne]
   intro h3
   have := congrArg Rf.at_ h3
   simp only at this
   omega
  rw [e, e2, Bool.and_false]
 rw [hno]
 have o10'' := k13.own o10' (by simp)
 have rw10' := ((rw8.kept0 k8c).kept k10 (fun b o n cap s e => hn5 b (by have := bl8 b (by rw [e]; simp [blkOf]); omega)))
 have o9'' := k13.own o9' (by simp)
 simp -implicitDefEqProofs (disch := (first | omega | (simp only [lq11] <;> omega) | fail)) only [admQ, lq11, aFill, AK.cls, implies_true, if_true, if_false, seval, -List.reduceReplicate, rowOf_own o9', rowOf_own o9'', rowOf_own o10'', rowOf_own o10', itC_k, itC_n, itC_w, itC_t, hiC]
 refine Ans.mono (pj_is (hPM.kept0 k13) j10 ⟨4, (2 : Nat), x6.t.b 2, List.replicate 32 0#8⟩ (rd_one rw10')) ?_
 rintro _ m14 ⟨rfl, k14⟩
 have hyes : isB x10.t ⟨4, (2 : Nat), x6.t.b 2, List.replicate 32 0#8⟩ = true := by rw [t10, t8]; exact hI1
 rw [hyes]
 have o9t := k14.own o9'' (by simp)
 have o10t := k14.own o10'' (by simp)
 simp -implicitDefEqProofs (disch := (first | omega | (simp only [lq11] <;> omega) | fail)) only [admQ, lq11, aFill, AK.cls, implies_true, if_true, if_false, seval, -List.reduceReplicate, rowOf_own o9', rowOf_own o9'', rowOf_own o9t, rowOf_own o10'', rowOf_own o10', rowOf_own o10t, itC_k, itC_n, itC_w, itC_t, hiC]
 refine Ans.mono (pj_counts ((hPM.kept0 k13).kept0 k14) j10) ?_
 rintro _ m15 ⟨bc, rfl, o15, lbc, k15⟩
 have ht : x10.t = x2.t := by rw [t10, t8, t6]
 rw [ht] at o15
 have c15 : (intsC ((List.range 18).map (cntS x2.t.refs)))[0]? = some (.int .i64 1) := by
  rw [intsC, List.map_map, List.getElem?_map, List.getElem?_range (by omega), Option.map_some, Function.comp]
  rw [cn2]
 have o9u := k15.own o9t (by simp)
 have o10u := k15.own o10t (by simp)
 simp -implicitDefEqProofs (disch := (first | omega | (simp only [lq11] <;> omega) | fail)) only [admQ, lq11, aFill, AK.cls, implies_true, if_true, if_false, seval, -List.reduceReplicate, rowOf_own o15, c15, rowOf_own o9u, rowOf_own o10u, itC_k, itC_n, itC_w, itC_t, hiC]
end Go.Proofs.YtehnkcnjmfbjpaaGreat
end
section
namespace Go.Proofs.YtehnkcnjmfbjpaaGreat
open Go Go.Adm
set_option linter.unusedSimpArgs false
set_option linter.unusedVariables false
set_option maxRecDepth 100000
abbrev Act := Int × Int × List B8
def RdActs (m : Mem) (x : AV) (L : List Act) : Prop :=
 (x = .nils ∧ L = []) ∨ ∃ b cap xs, x = .sl b 0 L.length cap 0 ∧ rowOf m b = some xs ∧ xs.length = L.length * 3 ∧ ∀ (i : Nat) (s : Act), L[i]? = some s →
  ∃ p, xs[i * 3]? = some (.int .i64 s.1) ∧ xs[i * 3 + 1]? = some (.int .i64 s.2.1) ∧ xs[i * 3 + 2]? = some p ∧ RdB m p s.2.2
theorem RdActs.kept0 {m m' : Mem} {x : AV} {L : List Act} (h : RdActs m x L) (hk : Kept [] m m') : RdActs m' x L := by
 rcases h with h | ⟨b, cap, xs, h1, h2, h3, h4⟩
 ·exact .inl h
 ·refine .inr ⟨b, cap, xs, h1, hk.row0 h2, h3, fun i s hs => ?_⟩
  obtain ⟨p, a1, a2, a3, a4⟩ := h4 i s hs
  exact ⟨p, a1, a2, a3, a4.kept0 hk⟩
theorem RdActs.len {m : Mem} {x : AV} {L : List Act} (h : RdActs m x L) : pLen [x] = some (.int .i64 L.length) := by
 rcases h with ⟨rfl, rfl⟩ | ⟨b, cap, _, rfl, _⟩ <;> rfl
theorem RdActs.at_ {m : Mem} {x : AV} {L : List Act} (h : RdActs m x L) {i : Nat} {s : Act} (hs : L[i]? = some s) : ∃ b cap xs p, x = .sl b 0 L.length cap 0 ∧ rowOf m b = some xs ∧ xs[i * 3]? = some (.int .i64 s.1) ∧ xs[i * 3 + 1]? = some (.int .i64 s.2.1) ∧ xs[i * 3 + 2]? = some p ∧ RdB m p s.2.2 ∧ i < L.length ∧ xs.length = L.length * 3 := by
 rcases h with ⟨rfl, rfl⟩ | ⟨b, cap, xs, h1, h2, h3, h4⟩
 ·cases hs
 ·obtain ⟨p, a1, a2, a3, a4⟩ := h4 i s hs
  exact ⟨b, cap, xs, p, h1, h2, a1, a2, a3, a4, lt_of_get hs, h3⟩
theorem IsRecs.acts {m : Mem} {x : AV} {dss : List (List Adm.Fd)} (h : IsRecs [.i .i64, .i .i64, .b] dss x m) : ∃ L, dss.length = L.length ∧ RdActs m x L := by
  rcases h with ⟨rfl, rfl⟩ | ⟨b, cap, xs, rfl, h2, h3, h4⟩
  · exact ⟨[], rfl, .inl ⟨rfl, rfl⟩⟩
  · have key : ∀ (dss : List (List Adm.Fd)) (xs : List AV), (∀ ds ∈ dss, ds.length = 3) → RdCs m (List.replicate dss.length [Fk.i .i64, .i .i64, .b]).flatten dss.flatten xs →
        ∃ L : List Act, dss.length = L.length ∧ xs.length = L.length * 3 ∧ ∀ (i : Nat) (s : Act), L[i]? = some s →
          ∃ p, xs[i * 3]? = some (.int .i64 s.1) ∧ xs[i * 3 + 1]? = some (.int .i64 s.2.1) ∧ xs[i * 3 + 2]? = some p ∧ RdB m p s.2.2 := by
      intro dss
      induction dss with
      | nil => intro xs _ h; obtain ⟨_, rfl⟩ := h.none; exact ⟨[], rfl, rfl, fun i s h1 => by simp at h1⟩
      | cons d r ih =>
        intro xs hl h
        have hd := hl d (by simp)
        match d, hd with
        | [y1, y2, y3], _ =>
          simp only [List.length_cons, List.replicate_succ, List.flatten_cons, List.cons_append, List.nil_append] at h
          obtain ⟨n1, d1, x1, e1, rfl, _, h⟩ := h.int
          simp only [List.cons.injEq] at e1
          obtain ⟨rfl, rfl⟩ := e1
          obtain ⟨n2, d2, x2, e2, rfl, _, h⟩ := h.int
          simp only [List.cons.injEq] at e2
          obtain ⟨rfl, rfl⟩ := e2
          obtain ⟨l5, d5, y5', x5, e5, rfl, hb5, h⟩ := h.bytes
          simp only [List.cons.injEq] at e5
          obtain ⟨rfl, rfl⟩ := e5
          obtain ⟨L, i1, i2, i3⟩ := ih x5 (fun ds h => hl ds (by simp [h])) h
          refine ⟨(n1, n2, l5) :: L, by simp [i1], by simp [i2]; omega, fun i s hs => ?_⟩
          cases i with
          | zero => simp at hs; subst hs; exact ⟨y5', rfl, rfl, rfl, hb5⟩
          | succ i =>
            obtain ⟨p', a1, a2, a3, a4⟩ := i3 i s (by simpa using hs)
            refine ⟨p', ?_, ?_, ?_, a4⟩ <;> rw [show (i + 1) * 3 = i * 3 + 3 by omega] <;> assumption
    obtain ⟨L, k1, k2, k3⟩ := key dss xs h4 h3
    exact ⟨L, k1, .inr ⟨b, cap, xs, by rw [k1], h2, k2, k3⟩⟩
def datB (l : List B8) : List B8 := l.take 32 ++ List.replicate (32 - l.length) 0#8
theorem datB_len (l : List B8) : (datB l).length = 32 := by simp [datB]; omega
theorem copy32 {m : Mem} {p cap s : Nat} {x : AV} {l : List B8} (hx : RdB m x l) (ho : own m p = some (bys (List.replicate 32 0#8))) : ∃ r, aCopy 1 (.sl p 0 32 cap s) x m = some (r, m.set p (.row (bys (datB l)) false)) := by
 have hz : (bys (List.replicate 32 0#8)).length = 32 := by rw [bys_len, List.length_replicate]
 by_cases h : l.length ≤ 32
 ·refine ⟨.int .i64 l.length, (copy_row hx ho (by omega) h).trans ?_⟩
  have : splice (bys (List.replicate 32 0#8)) 0 (bys l) = bys (datB l) := by
   rw [datB, List.take_of_length_le h, splice, List.take_zero, List.nil_append, bys_len, Nat.zero_add, bys, bys, bys, ← List.map_drop, ← List.map_append, List.drop_replicate]
  rw [this]
 ·obtain ⟨b, o, c, s', cc, rfl, hrow, hat, hlen, hcap, hsl, htk⟩ := hx.cons (i := 0) (by omega)
  have h2 := (hx.take (k := 32) (by omega)).elems
  have hl32 : (l.take 32).length = 32 := by simp; omega
  rw [hl32] at h2
  have h3 : elems 1 32 (.sl b o l.length c s') m = some (bys (l.take 32)) := by
   simp only [elems] at h2 ⊢
   rw [if_neg (by decide), if_pos (Nat.le_refl _)] at h2
   rw [if_neg (by decide), if_pos (by omega)]
   exact h2
  have hd : datB l = l.take 32 := by rw [datB, show 32 - l.length = 0 by omega]; simp
  have hs : splice (bys (List.replicate 32 0#8)) 0 (bys (l.take 32)) = bys (l.take 32) := splice_full (by rw [hz, bys_len, hl32])
  refine ⟨.int .i64 32, ?_⟩
  unfold aCopy
  have h4 : lenA (.sl b o l.length c s') = some l.length := rfl
  have h5 : lenA (.sl p 0 32 cap s) = some 32 := rfl
  have h6 : Nat.min l.length 32 = 32 := Nat.min_eq_right (by omega)
  simp only [h4, h5, Option.bind_some, h6, h3, ho, hs, hd]
  rw [if_neg (by decide), if_pos (by omega)]
  rfl
def Well (M : Mem) (xp xd xc xu xw xt n0 : Nat) (p : Int) : Prop := ∃ B V x last, PtM M xp xd xc xu xw xt B V x ∧ J x last ∧ Psi x ≤ p ∧ (∀ q ∈ B, n0 ≤ q) ∧ n0 ≤ xp ∧ n0 ≤ xt
theorem Then.well {m0 M M' : Mem} {xp xd xc xu xw xt n0 : Nat} {B V : List Nat} {x' : Pt} {last' : Nat → List B8} {p : Int} (h : Then xp xd xc xu xw xt M B V x' M') (hV : ∀ q ∈ V, q ∈ B) (hB : ∀ q ∈ B, n0 ≤ q) (hxp : n0 ≤ xp ∧ n0 ≤ xt) (hk : Kept [] m0 M) (hn : m0.length = n0) (hJ : J x' last') (hp : Psi x' ≤ p) : Kept [] m0 M' ∧ Well M' xp xd xc xu xw xt n0 p := by
 obtain ⟨B', V', h1, h2, h3, -⟩ := h
 refine ⟨hk.upon h2 fun q hq => ?_, B', V', x', last', h1, hJ, hp, fun q hq => (h3 q hq).elim (hB q) (fun h => by have := hk.len; omega), hxp⟩
 rcases List.mem_cons.mp hq with rfl | hq
 ·omega
 ·have := hB q (hV q hq); omega
theorem pl_place {x : Pt} {last : Nat → List B8} (h : J x last) {a : Int} (ha : 3 ≤ a ∧ a < 3 + x.v.pos) : plB x.v.w.g a ∧ True ∧ (0 ≤ (plG x.v.w.g a).1 ∧ (plG x.v.w.g a).1 ≤ 17) ∧ (0 ≤ (plG x.v.w.g a).2 ∧ (plG x.v.w.g a).2 ≤ 31) ∧ a = secOf (plG x.v.w.g a).1 (plG x.v.w.g a).2 := by
 obtain ⟨h1, h2, -⟩ := h.lg.at_ok ha
 rw [h.lg.w.g, plG_gS ⟨h1, h2⟩, plB_gS]
 unfold secOf
 simp only
 exact ⟨⟨h1, h2⟩, trivial, ⟨by omega, by omega⟩, ⟨by omega, by omega⟩, by omega⟩
theorem ans_LiveCopies {m : Mem} {y : AV} {L : List Act} (hy : RdActs m y L) (k : Int) : Ans Tryz.prog 3 [y, .int .i64 k] m fun r m' => r = .bool true ∧ True := by
 refine ans_ret mixed ok3 ?_
 simp -implicitDefEqProofs (disch := (first | omega | (simp only [lq11] <;> omega) | fail)) only [admQ, lq11, aFill, AK.cls, implies_true, if_true, if_false, seval, -List.reduceReplicate, c3, r3]
 refine (ans_lvfresh m).mono ?_
 rintro _ m1 ⟨xp, xd, xc, xu, xw, xt, B, V, rfl, k1, hP, hxp, hxt, hB⟩
 simp -implicitDefEqProofs (disch := (first | omega | (simp only [lq11] <;> omega) | fail)) only [admQ, lq11, aFill, AK.cls, implies_true, if_true, if_false, seval, -List.reduceReplicate]
 refine LoopW.on (fun i : Nat => [(0, y), (1, .int .i64 k), (5, .ptr xp 0), (6, .int .i64 i)]) (fun i => 40 - i)
  (fun i M => i ≤ 40 ∧ Kept [] m M ∧ Well M xp xd xc xu xw xt m.length (51 * i)) ?_ 0 _ _ rfl ⟨by omega, k1, B, V, x0, _, hP, J0, by decide, hB, hxp, hxt⟩
 rintro i M X ⟨hi, kk, B, V, x, last, hP, hJ, hps, hB, hxp, hxt⟩ hX
 have hlen := (hy.kept0 kk).len
 by_cases hlt : i < L.length ∧ i < 40
 ·obtain ⟨a, ha⟩ : ∃ a, L[i]? = some a := ⟨_, List.getElem?_eq_getElem hlt.1⟩
  have k2 := Kept.app [] M [Blk.row (bys (List.replicate 32 0#8)) false]
  have z2 : own (M ++ [Blk.row (bys (List.replicate 32 0#8)) false]) M.length = some (bys (List.replicate 32 0#8)) := by rw [own_app_at0]; rfl
  have hr32 : rep 32 [AV.int .u8 0] = bys (List.replicate 32 0#8) := by rw [← bys_rep]; simp [rep]
  obtain ⟨b, cap, xs, pd, rfl, hb, g0, g1, g2, hpd, -, hxl⟩ := (hy.kept0 (kk.trans k2)).at_ ha
  have hdl : RdB (M ++ [Blk.row (bys (List.replicate 32 0#8)) false]) pd a.2.2 := hpd
  simp -implicitDefEqProofs (disch := (first | omega | (simp only [lq11] <;> omega) | fail)) only [admQ, lq11, aFill, AK.cls, implies_true, if_true, if_false, seval, -List.reduceReplicate, hlen, hr32, dec_t (show (i : Int) < L.length by omega), hb, g2, hxl]
  obtain ⟨rc, hcp⟩ := copy32 (cap := 32) (s := 0) hdl z2
  refine someW_eq hcp ?_
  have k4 : Kept [] M ((M ++ [Blk.row (bys (List.replicate 32 0#8)) false]).set M.length (.row (bys (datB a.2.2)) false)) := k2.write (.inr (Nat.le_refl _)) _
  have z4 := own_set (own_lt z2) (bys (datB a.2.2))
  have hp4 := hP.kept0 k4
  have kk4 := kk.trans k4
  clear hcp hpd hdl k2
  generalize (M ++ [Blk.row (bys (List.replicate 32 0#8)) false]).set M.length (.row (bys (datB a.2.2)) false) = M4 at *
  have hb4 := hb
  have hy4 := (hy.kept0 kk4).at_ ha
  obtain ⟨b', cap', xs', pd', hbe, hb', g0', g1', g2', hpd', -, hxl'⟩ := hy4
  cases hbe
  have dl : (datB a.2.2).length = 32 := datB_len _
  have hyd : RdB M4 (.sl M.length 0 32 32 0) (datB a.2.2) := by have := RdB.row (l := datB a.2.2) 32 0 (rowOf_own z4) (by omega); rw [dl] at this; exact this
  have hBM : ∀ q ∈ B, q < M.length := hP.vl.lt
  have hVB := hP.vl.sub
  simp -implicitDefEqProofs (disch := (first | omega | (simp only [lq11] <;> omega) | fail)) only [admQ, lq11, aFill, AK.cls, implies_true, if_true, if_false, seval, -List.reduceReplicate, hb', g0', hxl', dec_t (show (i : Int) < L.length by omega), hlen]
  refine (ans_pick a.1 4 (by omega) M4).mono ?_
  rintro _ M5 ⟨rfl, hM5⟩
  subst hM5
  by_cases hk3 : pickI a.1 4 = 3
  ·simp -implicitDefEqProofs (disch := (first | omega | (simp only [lq11] <;> omega) | fail)) only [admQ, lq11, aFill, AK.cls, implies_true, if_true, if_false, seval, -List.reduceReplicate, beq_iff_eq.mpr hk3]
   refine Ans.mono (pj_save hp4 hJ (by omega)) ?_
   rintro _ M6 ⟨rfl, hT⟩
   obtain ⟨-, s2, s3, -⟩ := save_step x.t.dirtyL hJ (by omega) rfl
   simp -implicitDefEqProofs (disch := (first | omega | (simp only [lq11] <;> omega) | fail)) only [admQ, lq11, aFill, AK.cls, implies_true, if_true, if_false, seval, -List.reduceReplicate]
   exact hX (i + 1) _ _ rfl (by omega) ⟨by omega, hT.well (n0 := m.length) hVB hB ⟨hxp, hxt⟩ kk4 rfl s2 (by omega)⟩
  ·simp -implicitDefEqProofs (disch := (first | omega | (simp only [lq11] <;> omega) | fail)) only [admQ, lq11, aFill, AK.cls, implies_true, if_true, if_false, seval, -List.reduceReplicate, beq_eq_false_iff_ne.mpr hk3, hb', g1', hxl']
   refine (ans_pick a.2.1 4 (by omega) M5).mono ?_
   rintro _ M6 ⟨rfl, hM6⟩
   subst hM6
   obtain ⟨p1, p2⟩ := pickI_in a.2.1 4 (by omega)
   obtain ⟨bn, hbn⟩ := Int.eq_ofNat_of_zero_le p1
   rw [hbn]
   simp -implicitDefEqProofs (disch := (first | omega | (simp only [lq11] <;> omega) | fail)) only [admQ, lq11, aFill, AK.cls, implies_true, if_true, if_false, seval, -List.reduceReplicate]
   refine Ans.mono (pj_put hp4 hJ (by omega) (b := bn) (by omega) hyd (fun q hq h => by simp only [blkOf, List.mem_singleton] at hq; have := hBM q h; omega) dl) ?_
   rintro _ M7 ⟨rfl, hT⟩
   obtain ⟨-, s2, s3, -⟩ := put_step hJ (by omega) (b := bn) (by omega) dl
   simp -implicitDefEqProofs (disch := (first | omega | (simp only [lq11] <;> omega) | fail)) only [admQ, lq11, aFill, AK.cls, implies_true, if_true, if_false, seval, -List.reduceReplicate]
   exact hX (i + 1) _ _ rfl (by omega) ⟨by omega, hT.well (n0 := m.length) hVB hB ⟨hxp, hxt⟩ kk4 rfl s2 (by omega)⟩
 ·have hM := kk
  have fin1 : (i : Int) < L.length → ¬ (i : Int) < 40 := by omega
  by_cases e1 : (i : Int) < L.length
  case' neg => simp -implicitDefEqProofs (disch := (first | omega | (simp only [lq11] <;> omega) | fail)) only [admQ, lq11, aFill, AK.cls, implies_true, if_true, if_false, seval, -List.reduceReplicate, hlen, dec_f e1]
  case' pos => simp -implicitDefEqProofs (disch := (first | omega | (simp only [lq11] <;> omega) | fail)) only [admQ, lq11, aFill, AK.cls, implies_true, if_true, if_false, seval, -List.reduceReplicate, hlen, dec_t e1, dec_f (fin1 e1)]
  all_goals
   clear fin1 e1
   refine (ans_pick k 4 (by omega) M).mono ?_
   rintro _ M0 ⟨rfl, hM0⟩
   subst hM0
   obtain ⟨p1, p2⟩ := pickI_in k 4 (by omega)
   obtain ⟨b, hbn⟩ := Int.eq_ofNat_of_zero_le p1
   rw [hbn]
   have hb4 : b < 4 := by omega
   have hh := hP.hd
   unfold ptC at hh
   simp -implicitDefEqProofs (disch := (first | omega | (simp only [lq11] <;> omega) | fail)) only [admQ, lq11, aFill, AK.cls, implies_true, if_true, if_false, seval, -List.reduceReplicate, rowOf_own hh]
   refine (ans_get hP.tr (b : Int)).mono ?_
   rintro _ M1 ⟨rfl, kM1⟩
   have hat : x.t.at (b : Int) = x.t.b b := x.t.at_nat (by omega)
   rw [hat]
   have rl := (x.t.b b).cells_len
   have rsp := (x.t.b b).sp
   have ral := (x.t.b b).all
   have kM2 := Kept.app [] M1 [Blk.row (x.t.b b).cells false]
   have r2 : own (M1 ++ [Blk.row (x.t.b b).cells false]) M1.length = some (x.t.b b).cells := by rw [own_app_at0]; rfl
   by_cases hz : x.t.b b = Rf.zero
   ·have hzb : (x.t.b b == Rf.zero) = true := by simp [hz]
    simp -implicitDefEqProofs (disch := (first | omega | (simp only [lq11] <;> omega) | fail)) only [admQ, lq11, aFill, AK.cls, implies_true, if_true, if_false, seval, -List.reduceReplicate, hzb, rl, rsp, Bool.not_true, Bool.not_false]
    refine (ans_lvknown _).mono ?_
    rintro _ M3 ⟨rfl, -⟩
    simp -implicitDefEqProofs (disch := (first | omega | (simp only [lq11] <;> omega) | fail)) only [admQ, lq11, aFill, AK.cls, implies_true, if_true, if_false, seval, -List.reduceReplicate]
   ·have hzb : (x.t.b b == Rf.zero) = false := by simpa using hz
    have hP2 := (hP.kept0 kM1).kept0 kM2
    have hh2 := (kM1.trans kM2).own hh (by simp)
    simp -implicitDefEqProofs (disch := (first | omega | (simp only [lq11] <;> omega) | fail)) only [admQ, lq11, aFill, AK.cls, implies_true, if_true, if_false, seval, -List.reduceReplicate, hzb, rl, rsp, Bool.not_true, Bool.not_false, rowOf_own hh2, rowOf_own r2, Rf.c0]
    generalize M1 ++ [Blk.row (x.t.b b).cells false] = M2 at *
    have hg2 := ans_gplace x.v.w.g (x.t.b b).at_ M2
    unfold geoV geoC at hg2
    refine hg2.mono ?_
    rintro _ M3 ⟨rfl, kM3⟩
    obtain ⟨⟨a1, a2⟩, -⟩ := (hJ.tr.bl b (by omega) hz).1
    obtain ⟨pb, ps, q1, q2, q3⟩ := pl_place hJ ⟨a1, a2⟩
    have hh3 := kM3.own hh2 (by simp)
    have r3 := kM3.own r2 (by simp)
    generalize (plG x.v.w.g (x.t.b b).at_).1 = seg at *
    generalize (plG x.v.w.g (x.t.b b).at_).2 = slot at *
    have kM4 := Kept.app [] M3 [Blk.row [.int .i64 seg, .int .i64 slot] false]
    have r4 : own (M3 ++ [Blk.row [.int .i64 seg, .int .i64 slot] false]) M3.length = some [.int .i64 seg, .int .i64 slot] := by rw [own_app_at0]; rfl
    simp -implicitDefEqProofs (disch := (first | omega | (simp only [lq11] <;> omega) | fail)) only [admQ, lq11, aFill, AK.cls, implies_true, if_true, if_false, seval, -List.reduceReplicate, dec_t pb, rowOf_own hh2, rowOf_own r2, rowOf_own hh3, rowOf_own r3, rl, Rf.c0, rowOf_own r4]
    have hP4 := (hP2.kept0 kM3).kept0 kM4
    have r4r := kM4.own r3 (by simp)
    have hh4 := kM4.own hh3 (by simp)
    generalize M3 ++ [Blk.row [.int .i64 seg, .int .i64 slot] false] = M4 at *
    obtain ⟨hW, hI⟩ := hJ.block q1 q2 (b := b) (by omega) hz q3
    refine Ans.mono (pj_what hP4 hJ seg slot) ?_
    rintro _ M5 ⟨w5, rfl, rw5, bl5, k5, hP5⟩
    rw [hW] at rw5 ⊢
    obtain ⟨j5, q5, u5, v5, -, t5⟩ := hJ.look seg slot
    generalize whT x seg slot = x5 at *
    simp only [Option.getD_some, Option.isSome_some] at rw5 ⊢
    have hiC : ∀ i w, (itC i w).length = 36 := itC_len
    have hZS : ∀ i w, splice (AV.int .i64 0 :: .int .i64 0 :: .int .i64 0 :: (bys (List.replicate 32 0#8) ++ [.nils])) 0 (itC i w) = itC i w := fun i w => splice_full (by rw [itC_len]; rfl)
    have k6 := Kept.app [] M5 [Blk.row (itC ⟨4, b, x.t.b b, last b⟩ w5) false]
    have o6 : own (M5 ++ [Blk.row (itC ⟨4, b, x.t.b b, last b⟩ w5) false]) M5.length = some (itC ⟨4, b, x.t.b b, last b⟩ w5) := by rw [own_app_at0]; rfl
    have hVB := hP4.vl.sub
    have hBl := hP.vl.lt
    have lM1 := own_lt r2
    have lk1 := kM1.len
    have lk3 := kM3.len
    have lk4 := kM4.len
    have lk5 := k5.len
    have hnV : ∀ q, M0.length ≤ q → q ∉ V := fun q h1 h2 => by have := hBl q (hVB q h2); omega
    have hxV : xp ∉ V := fun h' => hP4.a2.1 (hVB _ h')
    have r6 := k6.own (k5.own r4r (hnV _ (by omega))) (by simp)
    have hh6 := k6.own (k5.own hh4 hxV) (by simp)
    have rw6 := rw5.kept0 k6
    have hP6 := hP5.kept0 k6
    have l6 := own_lt o6
    have c2 : ∀ (i : Itm) w, List.take 33 (List.drop 2 (itC i w)) = i.ref.cells := fun i _ => List.take_left' i.ref.cells_len
    simp -implicitDefEqProofs (disch := (first | omega | (simp only [lq11] <;> omega) | fail)) only [admQ, lq11, aFill, AK.cls, implies_true, if_true, if_false, seval, -List.reduceReplicate, hiC, hZS]
    generalize M5 ++ [Blk.row (itC ⟨4, b, x.t.b b, last b⟩ w5) false] = M6 at *
    simp -implicitDefEqProofs (disch := (first | omega | (simp only [lq11] <;> omega) | fail)) only [admQ, lq11, aFill, AK.cls, implies_true, if_true, if_false, seval, -List.reduceReplicate, rowOf_own o6, itC_t, hiC]
    refine Ans.mono (pj_is hP6 j5 ⟨4, b, x.t.b b, last b⟩ (rd_one rw6)) ?_
    rintro _ M7 ⟨rfl, k7⟩
    rw [t5, hI]
    have o7 := k7.own o6 (by simp)
    have r7 := k7.own r6 (by simp)
    have eb : ((b : Int) == (b : Int)) = true := beq_self_eq_true _
    have er : aEqCells (List.replicate 33 .i) (x.t.b b).cells (x.t.b b).cells = some true := by rw [← beq_self_eq_true (x.t.b b)]; exact aEq_rf _ _
    simp -implicitDefEqProofs (disch := (first | omega | (simp only [lq11] <;> omega) | fail)) only [admQ, lq11, aFill, AK.cls, implies_true, if_true, if_false, seval, -List.reduceReplicate, rowOf_own o7, rowOf_own r7, itC_k, itC_n, itC_w, c2, hiC, rl, ral, eb, er, Bool.not_true]
    have hps5 : Psi x5 < 7936 := by
     have : Psi x5 = Psi x := by unfold Psi psi; rw [v5, t5]
     omega
    have hd5 : (last b).length = 32 := (hJ.tr.bl b (by omega) hz).2
    obtain ⟨-, c2, c3, c4, rr, c5, c6, c7⟩ := put_step j5 hps5 (b := b) (by omega) hd5
    have lxt := own_lt hP.tr
    have lxp := own_lt hh
    refine Ans.mono (pj_put (hP6.kept0 k7) j5 hps5 (b := b) (by omega) (rw6.kept0 k7) (fun q hq h => by have := bl5 q hq; have := hBl q h; omega) hd5) ?_
    rintro _ M8 ⟨rfl, B8, V8, hP8, k8, hB8, hV8⟩
    have hnx : ∀ q, M0.length ≤ q → q ∉ xt :: V := fun q h1 h2 => by
     rcases List.mem_cons.mp h2 with rfl | h2
     ·omega
     ·exact hnV q h1 h2
    have o8 := k8.own o7 (hnx _ (by omega))
    have r8 := k8.own r7 (hnx _ (by omega))
    have hh8 := hP8.hd
    unfold ptC at hh8
    have e8 : (puT x5 b (last b)).t.b b = rr := by rw [c5, setT_b, if_pos ⟨c6, by simp⟩]
    have rw8 := (rw6.kept0 k7).kept k8 (fun q o n cap s e => hnx q (by have := bl5 q (by rw [e]; simp [blkOf]); omega))
    have hpos5 : x5.v.pos = x.v.pos := by show 32 * x5.v.w.seg + x5.v.w.slot = _; rw [v5]; rfl
    generalize puT x5 b (last b) = x8 at *
    have z8 : rr ≠ Rf.zero := by rintro rfl; exact absurd c6.2 (by decide)
    have hat8 : x8.t.at (b : Int) = rr := by rw [x8.t.at_nat (by omega), e8]
    simp -implicitDefEqProofs (disch := (first | omega | (simp only [lq11] <;> omega) | fail)) only [admQ, lq11, aFill, AK.cls, implies_true, if_true, if_false, seval, -List.reduceReplicate, rowOf_own hh8]
    refine (ans_get hP8.tr (b : Int)).mono ?_
    rintro _ M9 ⟨rfl, k9⟩
    rw [hat8]
    have rl8 := rr.cells_len
    have rsp8 := rr.sp
    have ral8 := rr.all
    have zb8 : (rr == Rf.zero) = false := by simpa using z8
    have k10 := Kept.app [] M9 [Blk.row rr.cells false]
    have s10 : own (M9 ++ [Blk.row rr.cells false]) M9.length = some rr.cells := by rw [own_app_at0]; rfl
    have k910 := k9.trans k10
    have hP10 := hP8.kept0 k910
    have hh10 := k910.own hh8 (by simp)
    have o10 := k910.own o8 (by simp)
    have r10 := k910.own r8 (by simp)
    have rw10 := rw8.kept0 k910
    have l10 := own_lt s10
    have l9 := k9.len
    have l8 := k8.len
    simp -implicitDefEqProofs (disch := (first | omega | (simp only [lq11] <;> omega) | fail)) only [admQ, lq11, aFill, AK.cls, implies_true, if_true, if_false, seval, -List.reduceReplicate, zb8, rl8, rsp8, Bool.not_true, Bool.not_false, rowOf_own hh10, rowOf_own s10, Rf.c0]
    generalize M9 ++ [Blk.row rr.cells false] = M10 at *
    have hg11 := ans_gplace x8.v.w.g rr.at_ M10
    unfold geoV geoC at hg11
    refine hg11.mono ?_
    rintro _ M11 ⟨rfl, k11⟩
    have hz8 : x8.t.b b ≠ Rf.zero := by rw [e8]; exact z8
    obtain ⟨⟨f1, f2⟩, -⟩ := (c2.tr.bl b (by omega) hz8).1
    rw [e8] at f1 f2
    obtain ⟨pb8, -, g1, g2, g3⟩ := pl_place c2 ⟨f1, f2⟩
    have s11 := k11.own s10 (by simp)
    have o11 := k11.own o10 (by simp)
    have r11 := k11.own r10 (by simp)
    have hh11 := k11.own hh10 (by simp)
    have rw11 := rw10.kept0 k11
    generalize (plG x8.v.w.g rr.at_).1 = seg8 at *
    generalize (plG x8.v.w.g rr.at_).2 = slot8 at *
    have k12 := Kept.app [] M11 [Blk.row [.int .i64 seg8, .int .i64 slot8] false]
    have t12 : own (M11 ++ [Blk.row [.int .i64 seg8, .int .i64 slot8] false]) M11.length = some [.int .i64 seg8, .int .i64 slot8] := by rw [own_app_at0]; rfl
    simp -implicitDefEqProofs (disch := (first | omega | (simp only [lq11] <;> omega) | fail)) only [admQ, lq11, aFill, AK.cls, implies_true, if_true, if_false, seval, -List.reduceReplicate, dec_t pb8, rowOf_own hh10, rowOf_own s10, rowOf_own hh11, rowOf_own s11, rl8, Rf.c0, rowOf_own t12]
    have hP12 := (hP10.kept0 k11).kept0 k12
    have s12 := k12.own s11 (by simp)
    have o12 := k12.own o11 (by simp)
    have r12 := k12.own r11 (by simp)
    have rw12 := rw11.kept0 k12
    have l11 := k11.len
    have l12 := own_lt t12
    have lB8 := hP8.vl.lt
    have lV8 := hP8.vl.sub
    have hn8 : ∀ q, M8.length ≤ q → q ∉ V8 := fun q h1 h2 => by have := lB8 q (lV8 q h2); omega
    generalize M11 ++ [Blk.row [.int .i64 seg8, .int .i64 slot8] false] = M12 at *
    obtain ⟨hW8, hI8⟩ := c2.block g1 g2 (b := b) (by omega) hz8 (by rw [e8]; exact g3)
    simp only [if_true] at hW8 hI8
    refine Ans.mono (pj_what hP12 c2 seg8 slot8) ?_
    rintro _ M13 ⟨w13, rfl, rw13, bl13, k13, hP13⟩
    rw [hW8] at rw13 ⊢
    obtain ⟨j13, -, -, -, -, t13⟩ := c2.look seg8 slot8
    generalize whT x8 seg8 slot8 = x13 at *
    simp only [Option.getD_some, Option.isSome_some] at rw13 ⊢
    have k14 := Kept.app [] M13 [Blk.row (itC ⟨4, b, x8.t.b b, last b⟩ w13) false]
    have y14 : own (M13 ++ [Blk.row (itC ⟨4, b, x8.t.b b, last b⟩ w13) false]) M13.length = some (itC ⟨4, b, x8.t.b b, last b⟩ w13) := by rw [own_app_at0]; rfl
    have l13 := k13.len
    have l14 := own_lt y14
    have lk7 := k7.len
    have hnW : ∀ q, M0.length ≤ q → q < M7.length → q ∉ V8 := fun q h1 h2 h3 => (hV8 q h3).elim (hnV q h1) (fun h => by omega)
    have lo7 := own_lt o7
    have s14 := k14.own (k13.own s12 (hn8 _ (by omega))) (by simp)
    have o14 := k14.own (k13.own o12 (hnW _ (by omega) (by omega))) (by simp)
    have r14 := k14.own (k13.own r12 (hnW _ (by omega) (by omega))) (by simp)
    have rw14 := (rw12.kept k13 (fun q o n cap s e => by
     have h1 := bl5 q (by rw [e]; simp [blkOf])
     have h2 := rw6.blk_lt q (by rw [e]; simp [blkOf])
     exact hnW q (by omega) (by omega))).kept0 k14
    have rw13' := rw13.kept0 k14
    have hP14 := hP13.kept0 k14
    simp -implicitDefEqProofs (disch := (first | omega | (simp only [lq11] <;> omega) | fail)) only [admQ, lq11, aFill, AK.cls, implies_true, if_true, if_false, seval, -List.reduceReplicate, hiC, hZS]
    generalize M13 ++ [Blk.row (itC ⟨4, b, x8.t.b b, last b⟩ w13) false] = M14 at *
    have eat : (rr.at_ == (x.t.b b).at_) = false := by rw [beq_eq_false_iff_ne]; omega
    simp -implicitDefEqProofs (disch := (first | omega | (simp only [lq11] <;> omega) | fail)) only [admQ, lq11, aFill, AK.cls, implies_true, if_true, if_false, seval, -List.reduceReplicate, rowOf_own s14, rowOf_own r14, rl8, rl, Rf.c0, eat, rowOf_own y14, itC_t, hiC]
    refine Ans.mono (pj_is hP14 j13 ⟨4, b, x8.t.b b, last b⟩ (rd_one rw13')) ?_
    rintro _ M15 ⟨rfl, k15⟩
    rw [t13, hI8]
    have o15 := k15.own o14 (by simp)
    have y15 := k15.own y14 (by simp)
    simp -implicitDefEqProofs (disch := (first | omega | (simp only [lq11] <;> omega) | fail)) only [admQ, lq11, aFill, AK.cls, implies_true, if_true, if_false, seval, -List.reduceReplicate, rowOf_own o15, itC_t, hiC]
    have rw15 := rw14.kept0 k15
    refine Ans.mono (pj_is (hP14.kept0 k15) j13 ⟨4, b, x.t.b b, last b⟩ (rd_one rw15)) ?_
    rintro _ M16 ⟨rfl, k16⟩
    have hno : isB x13.t ⟨4, b, x.t.b b, last b⟩ = false := by
     rw [t13]
     have e : isB x8.t ⟨4, b, x.t.b b, last b⟩ = (!(x8.t.at b == Rf.zero) && (x8.t.at b == x.t.b b)) := rfl
     have e2 : (rr == x.t.b b) = false := by
      rw [beq_eq_false_iff_ne]
      intro h3
      rw [h3] at c7
      omega
     rw [e, hat8, e2, Bool.and_false]
    rw [hno]
    have o16 := k16.own o15 (by simp)
    have y16 := k16.own y15 (by simp)
    simp -implicitDefEqProofs (disch := (first | omega | (simp only [lq11] <;> omega) | fail)) only [admQ, lq11, aFill, AK.cls, implies_true, if_true, if_false, seval, -List.reduceReplicate, rowOf_own o16, rowOf_own y16, itC_w, hiC]
    refine (ans_samebytes (rw15.kept0 k16) ((rw13'.kept0 k15).kept0 k16) (by omega)).mono ?_
    rintro _ M17 ⟨rfl, hM17⟩
    subst hM17
    rw [beq_self_eq_true]
    simp -implicitDefEqProofs (disch := (first | omega | (simp only [lq11] <;> omega) | fail)) only [admQ, lq11, aFill, AK.cls, implies_true, if_true, if_false, seval, -List.reduceReplicate]
    refine (ans_lvknown _).mono ?_
    rintro _ M18 ⟨rfl, -⟩
    simp -implicitDefEqProofs (disch := (first | omega | (simp only [lq11] <;> omega) | fail)) only [admQ, lq11, aFill, AK.cls, implies_true, if_true, if_false, seval, -List.reduceReplicate]
end Go.Proofs.YtehnkcnjmfbjpaaGreat
end
section
namespace Go.Proofs.YtehnkcnjmfbjpaaGreat
open Go Go.Adm
set_option linter.unusedSimpArgs false
set_option linter.unusedVariables false
set_option maxRecDepth 100000
section
variable {v : Vl} {t : Tr} {last : Nat → List B8}
end
section
variable {x : Pt} {last : Nat → List B8} {seg slot : Int} (h : J x last) (h1 : 0 ≤ seg ∧ seg ≤ 17) (h2 : 0 ≤ slot ∧ slot ≤ 31)
include h h1 h2
end
end Go.Proofs.YtehnkcnjmfbjpaaGreat
end
section
namespace Go.Proofs.YtehnkcnjmfbjpaaGreat
open Go Go.Adm
set_option linter.unusedSimpArgs false
set_option linter.unusedVariables false
set_option maxRecDepth 100000
theorem sav_at {x : Pt} {last : Nat → List B8} (h : J x last) (hp : Psi x < 7936) (h30 : x.v.w.slot ≤ 30) (h14 : x.v.w.ents.length ≤ 14) {i : Nat} {l : List Nat} (hl : x.t.dirtyL = i :: l) (h0 : ¬ ((i : Int) = 0 ∧ x.t.mapped = 0)) :
  (∃ r : Rf, r.at_ = 3 + x.v.pos ∧ (savT x i).t = x.t.setN i ⟨1, r⟩) ∧ (savT x i).v.pos = x.v.pos + 1 ∧ (savT x i).v.w.slot = x.v.w.slot + 1 ∧ (savT x i).v.w.ents.length = x.v.w.ents.length + 1 ∧ (savT x i).v.w.seg = x.v.w.seg := by
 have hi : i < 9 := Tr.dirty_lt (by rw [hl]; simp)
 have hd : x.t.isDirty i := (x.t.isDirty_mem i).mp ⟨i, by rw [hl]; simp, rfl⟩
 obtain ⟨s1, s2, s3⟩ := sav_small h (psi_seg h hp) h30 h14 hi h0
 have hpos : (savT x i).v.pos = x.v.pos + 1 := by
  show 32 * (savT x i).v.w.seg + (savT x i).v.w.slot = 32 * x.v.w.seg + x.v.w.slot + 1
  omega
 refine ⟨?_, hpos, s1, s3, s2⟩
 have hc1 : ¬ (¬ x.t.isDirty (i : Int) ∨ (i : Int) = 0 ∧ 1 < x.t.dirtyL.length) := by
  rintro (h1 | ⟨h1, h2⟩)
  ·exact h1 hd
  ·obtain rfl : i = 0 := by omega
   have := dirty_zero hl
   rw [hl, this] at h2
   simp at h2
 have hpg := h.page hi
 have hpE : pgE i (x.t.page i) = 0 := if_pos hpg
 have hpl8 : (x.t.page i).length = 8 := by rw [Tr.page, tab_len]
 obtain ⟨a1, a2, a3, a4, a, a5, a6, a7, a8⟩ := ap_step h.lg (psi_seg h hp) (k := 5) (no := i) (.inr ⟨rfl, by omega, by omega⟩) (pgB_len (i := i) hpl8)
 have hpos0 : 0 ≤ x.v.pos := by have := h.lg.w.seg; have := h.lg.w.slot; show 0 ≤ 32 * x.v.w.seg + x.v.w.slot; omega
 have hsE : x.t.savedE i (apR x.v 5 i (pgB i (x.t.page i))) = 0 := by
  rw [a8, Tr.savedE, if_neg hc1, if_neg h0, if_neg (by show ¬ a < 1; omega)]
 have hSn : x.t.savedT i (apR x.v 5 i (pgB i (x.t.page i))) = x.t.setN i ⟨1, apR x.v 5 i (pgB i (x.t.page i))⟩ := by rw [Tr.savedT, if_pos hsE]; rfl
 have hT : savT x i = ⟨(apV x.v 5 i (pgB i (x.t.page i))).acc 1 [apR x.v 5 i (pgB i (x.t.page i))], x.t.setN i ⟨1, apR x.v 5 i (pgB i (x.t.page i))⟩⟩ := by
  rw [savT, if_neg h0, if_neg (by simp [hpE]), if_neg (by simp [a1]), ← hSn]
 refine ⟨apR x.v 5 i (pgB i (x.t.page i)), ?_, by rw [hT]⟩
 have hp2 : (apV x.v 5 i (pgB i (x.t.page i))).pos = x.v.pos + 1 := by
  rw [← hpos, hT]; rfl
 rw [a8]
 show a = _
 omega
theorem dirty_put1 (r : Rf) (h : Tr.setOk 1 r) : (Tr.new.setT 1 r).dirtyL = [1, 0] := by
 rw [Tr.setT, if_pos h]; rfl
theorem known2_facts : ∃ x1 x3 x4 : Pt, puT x0 1 (List.replicate 32 0#8) = x1 ∧ saT x1 x1.t.dirtyL = x3 ∧ (⟨clV x3.v 0, x3.t⟩ : Pt) = x4 ∧ J x1 (fun i => if i = 1 then List.replicate 32 0#8 else []) ∧ Psi x1 < 7936 ∧ J x3 (fun i => if i = 1 then List.replicate 32 0#8 else []) ∧ Psi x3 < 7936 ∧ J x4 (fun i => if i = 1 then List.replicate 32 0#8 else []) ∧ (x4.t.b 1).at_ = 3 ∧ x4.t.b 1 ≠ Rf.zero ∧ (x4.t.n 1).st = 1 ∧ (x4.t.n 1).ref.at_ = 4 ∧ (x4.t.n 0).st = 1 ∧ (x4.t.n 0).ref.at_ = 5 ∧ (∃ p, Stored x4.v.d x4.v.c 6 3 p) ∧ x4.v.pos = 4 ∧ x4.t.b 0 = Rf.zero ∧ x4.t.n 7 = Nd.none := by
 have zl : (List.replicate 32 0#8).length = 32 := by simp
 obtain ⟨a1, a2, a3, a4, r1, a5, a6, a7⟩ := put_step J0 (b := 1) (by decide) (by omega) zl
 obtain ⟨b1, b2, b3⟩ := put_at J0 (b := 1) (by decide) (by decide) (by decide) (by omega) zl
 obtain ⟨c1, c2, c3⟩ := put_small J0 (b := 1) (by decide) (by decide) (by decide) (by omega) zl
 have hp0 : x0.v.pos = 0 := rfl
 have hps : Psi x0 = 0 := rfl
 have hs0 : x0.v.w.slot = 0 := rfl
 have he0 : x0.v.w.ents.length = 0 := rfl
 have hg0 : x0.v.w.seg = 0 := rfl
 have hx0 : x0.t = Tr.new := rfl
 have a1' : puT x0 (1 : Nat) (List.replicate 32 0#8) = puT x0 1 (List.replicate 32 0#8) := rfl
 rw [a1'] at a2 a3 a4 a5 b1 b2 b3 c1 c2 c3
 have a6 : Tr.setOk 1 r1 := a6
 have a5 : (puT x0 1 (List.replicate 32 0#8)).t = x0.t.setT 1 r1 := a5
 generalize puT x0 1 (List.replicate 32 0#8) = x1 at *
 have hdl : x1.t.dirtyL = [1, 0] := by rw [a5, hx0]; exact dirty_put1 r1 a6
 have hmap : ∀ t : Tr, t.b 1 ≠ Rf.zero → t.mapped ≠ 0 := fun t hz h0 => by
  have : t.b 1 ∈ liveB t.bl := List.mem_filter.mpr ⟨List.mem_of_getElem? (t.b_get (by omega)), by simpa using hz⟩
  rw [Tr.mapped, List.length_eq_zero_iff] at h0
  rw [h0] at this; cases this
 obtain ⟨d1, d2, d3, d4, d5, d6⟩ := save1_step a2 (by omega) hdl
 obtain ⟨⟨r2, e1, e2⟩, e3, e4, e5, e6⟩ := sav_at a2 (by omega) (by omega) (by omega) hdl (by omega)
 have hb2 : ∀ b, (savT x1 (1 : Nat)).t.b b = x1.t.b b := fun b => by unfold Tr.b; rw [d6]
 have hm2 : ¬ (((0 : Nat) : Int) = 0 ∧ (savT x1 (1 : Nat)).t.mapped = 0) := fun h => hmap _ (by rw [hb2]; exact b2) h.2
 obtain ⟨g1, g2, g3, g4, g5, g6⟩ := save1_step d2 (by omega) d5
 obtain ⟨⟨r3, f1, f2⟩, f3, f4, f5, f6⟩ := sav_at d2 (by omega) (by omega) (by omega) d5 hm2
 have hsa : saT x1 [1, 0] = savT (savT x1 (1 : Nat)) (0 : Nat) := by
  rw [saT, if_neg (fun h => h d1), saT, if_neg (fun h => h g1), saT]
 have hb3 : ∀ b, (savT (savT x1 (1 : Nat)) (0 : Nat)).t.b b = x1.t.b b := fun b => by rw [← hb2]; unfold Tr.b; rw [g6]
 obtain ⟨k1, k2, k3, k4⟩ := close_step g2 (by omega)
 obtain ⟨l1, l2⟩ := cl_stored g2.lg (psi_seg g2 (by omega))
 refine ⟨x1, _, _, rfl, rfl, rfl, a2, by omega, ?_⟩
 rw [hdl, hsa]
 refine ⟨g2, by omega, k2, ?_, ?_, ?_, ?_, ?_, ?_, ?_, ?_, ?_, ?_⟩
 ·show ((savT (savT x1 (1 : Nat)) (0 : Nat)).t.b 1).at_ = 3
  rw [hb3]; exact b1
 ·show (savT (savT x1 (1 : Nat)) (0 : Nat)).t.b 1 ≠ _
  rw [hb3]; exact b2
 ·show ((savT (savT x1 (1 : Nat)) (0 : Nat)).t.n 1).st = 1
  rw [f2, Tr.setN_n _ _ _ _ (by omega), if_neg (by omega), e2, Tr.setN_n _ _ _ _ (by omega), if_pos rfl]
 ·show ((savT (savT x1 (1 : Nat)) (0 : Nat)).t.n 1).ref.at_ = 4
  rw [f2, Tr.setN_n _ _ _ _ (by omega), if_neg (by omega), e2, Tr.setN_n _ _ _ _ (by omega), if_pos rfl]
  show r2.at_ = 4
  omega
 ·show ((savT (savT x1 (1 : Nat)) (0 : Nat)).t.n 0).st = 1
  rw [f2, Tr.setN_n _ _ _ _ (by omega), if_pos rfl]
 ·show ((savT (savT x1 (1 : Nat)) (0 : Nat)).t.n 0).ref.at_ = 5
  rw [f2, Tr.setN_n _ _ _ _ (by omega), if_pos rfl]
  show r3.at_ = 5
  omega
 ·have : 3 + (savT (savT x1 (1 : Nat)) (0 : Nat)).v.pos = 6 := by omega
  rw [this] at l1
  exact l1
 ·show (clV (savT (savT x1 (1 : Nat)) (0 : Nat)).v 0).pos = 4
  omega
 ·show (savT (savT x1 (1 : Nat)) (0 : Nat)).t.b 0 = Rf.zero
  rw [hb3, a5, setT_b, if_neg (fun h => absurd h.2 (by decide))]
  exact new_b 0
 ·show (savT (savT x1 (1 : Nat)) (0 : Nat)).t.n 7 = Nd.none
  rw [f2, Tr.setN_n _ _ _ _ (by omega), if_neg (by omega), e2, Tr.setN_n _ _ _ _ (by omega), if_neg (by omega), a5, hx0, Tr.setT, if_pos a6]
  rfl
end Go.Proofs.YtehnkcnjmfbjpaaGreat
end
section
namespace Go.Proofs.YtehnkcnjmfbjpaaGreat
open Go Go.Adm
set_option linter.unusedSimpArgs false
set_option linter.unusedVariables false
set_option maxRecDepth 100000
def kn5 (i : Nat) : Int := [4, 5, 5, 0, 0].getD i 0
structure As (x4 x : Pt) (last : Nat → List B8) : Prop where
 j : J x last
 t : x.t = x4.t
 w : x.v.w = x4.v.w
 pk : ∀ a, peekD x.v.d a = peekD x4.v.d a
 up : CyUp x4.v.c x.v.c
theorem As.look {x4 x : Pt} {last : Nat → List B8} (h : As x4 x last) (seg slot : Int) : As x4 (whT x seg slot) last := by
 obtain ⟨a1, a2, a3, a4, -, a6⟩ := h.j.look seg slot
 exact ⟨a1, a6.trans h.t, a4.trans h.w, fun a => (a2 a).trans (h.pk a), h.up.trans a3⟩
theorem As.refl {x : Pt} {last : Nat → List B8} (h : J x last) : As x x last := ⟨h, rfl, rfl, fun _ => rfl, .refl _⟩
theorem As.who {x4 x : Pt} {last : Nat → List B8} (h4 : J x4 last) (h : As x4 x last) (seg slot : Int) : whO x seg slot = whO x4 seg slot := by
 by_cases h1 : (0 ≤ seg ∧ seg ≤ 17) ∧ 0 ≤ slot ∧ slot ≤ 31
 ·have ha := at_in h4.lg.w.g h1.1 h1.2
  exact whO_same (by rw [h.w]) ha (h4.seen (by unfold secOf; omega)) (h.pk _) h.up
 ·rw [whO_out (by rw [h.j.lg.w.g]; exact at_no h1), whO_out (by rw [h4.lg.w.g]; exact at_no h1)]
theorem known5 {x4 : Pt} {last : Nat → List B8} (j4 : J x4 last) (at1 : (x4.t.b 1).at_ = 3) (nz1 : x4.t.b 1 ≠ Rf.zero) (s1 : (x4.t.n 1).st = 1) (ra1 : (x4.t.n 1).ref.at_ = 4) (s0 : (x4.t.n 0).st = 1) (ra0 : (x4.t.n 0).ref.at_ = 5) {ps : List B8} (st6 : Stored x4.v.d x4.v.c 6 3 ps) (hpos : x4.v.pos = 4) {i : Nat} (hi : i < 5) :
  ((whO x4 0 i).getD Itm.zero).k = kn5 i ∧ (whO x4 0 i).isSome = decide (kn5 i > 0) ∧ isB x4.t ((whO x4 0 i).getD Itm.zero) = decide (kn5 i > 0) := by
 have hz : isB x4.t Itm.zero = false := rfl
 have : i = 0 ∨ i = 1 ∨ i = 2 ∨ i = 3 ∨ i = 4 := by omega
 rcases this with rfl | rfl | rfl | rfl | rfl
 ·obtain ⟨a1, a2⟩ := j4.block (seg := 0) (slot := (0 : Nat)) (by omega) (by omega) (b := 1) (by omega) nz1 (by rw [at1]; rfl)
  rw [a1]; exact ⟨rfl, rfl, a2⟩
 ·obtain ⟨a1, a2⟩ := j4.node (seg := 0) (slot := (1 : Nat)) (by omega) (by omega) (n := 1) (by omega) s1 (by omega) (by rw [ra1]; rfl)
  rw [a1]; exact ⟨rfl, rfl, a2⟩
 ·obtain ⟨a1, a2⟩ := j4.node (seg := 0) (slot := (2 : Nat)) (by omega) (by omega) (n := 0) (by omega) s0 (by omega) (by rw [ra0]; rfl)
  rw [a1]; exact ⟨rfl, rfl, a2⟩
 ·have a1 : whO x4 0 (3 : Nat) = none := whO_other (a := 6) (by rw [j4.lg.w.g]; rfl) (by omega) st6
  rw [a1]; exact ⟨rfl, rfl, hz⟩
 ·have a1 : whO x4 0 (4 : Nat) = none := whO_nil (a := 7) (by rw [j4.lg.w.g]; rfl) (j4.lg.w.un 7 (by omega))
  rw [a1]; exact ⟨rfl, rfl, hz⟩
def pl5 (i : Nat) : Int × Int := [((-1 : Int), (0 : Int)), (18, 0), (0, 32), (0, -1), (9223372036854775807, 9223372036854775807)].getD i (0, 0)
theorem ans_LiveKnown (m : Mem) : Ans Tryz.prog 5 [] m fun r m' => r = .bool true ∧ True := by
 refine ans_ret mixed ok5 ?_
 simp -implicitDefEqProofs (disch := (first | omega | (simp only [lq11] <;> omega) | fail)) only [admQ, lq11, aFill, AK.cls, implies_true, if_true, if_false, seval, -List.reduceReplicate, c5, r5]
 refine (ans_lvfresh m).mono ?_
 rintro _ m1 ⟨xp, xd, xc, xu, xw, xt, B, V, rfl, k1, hP, hxp, hxt, hB⟩
 have zl : (List.replicate 32 0#8).length = 32 := by simp
 have hr32 : rep 32 [AV.int .u8 0] = bys (List.replicate 32 0#8) := by rw [← bys_rep]; simp [rep]
 have k2 := Kept.app [] m1 [Blk.row (bys (List.replicate 32 0#8)) false]
 have z2 : own (m1 ++ [Blk.row (bys (List.replicate 32 0#8)) false]) m1.length = some (bys (List.replicate 32 0#8)) := by rw [own_app_at0]; rfl
 simp -implicitDefEqProofs (disch := (first | omega | (simp only [lq11] <;> omega) | fail)) only [admQ, lq11, aFill, AK.cls, implies_true, if_true, if_false, seval, -List.reduceReplicate, hr32]
 have hy2 : RdB (m1 ++ [Blk.row (bys (List.replicate 32 0#8)) false]) (.sl m1.length 0 32 32 0) (List.replicate 32 0#8) := by have := RdB.row (l := List.replicate 32 0#8) 32 0 (rowOf_own z2) (by omega); rw [zl] at this; exact this
 generalize m1 ++ [Blk.row (bys (List.replicate 32 0#8)) false] = m2 at *
 have hB1 : ∀ q ∈ B, q < m1.length := hP.vl.lt
 obtain ⟨x1, x3, x4, hx1, hx3, hx4, j1, p1, j3, p3, j4, at1, nz1, s1, ra1, s0, ra0, ⟨ps, st6⟩, hpos, nb0, nn7⟩ := known2_facts
 refine Ans.mono (pj_put (b := 1) (hP.kept0 k2) J0 (by decide) (by omega) hy2 (fun q hq h => by simp only [blkOf, List.mem_singleton] at hq; have := hB1 q h; omega) zl) ?_
 rintro _ m3 ⟨rfl, B3, V3, hP3, k3, hB3, -⟩
 have e1 : puT x0 (1 : Nat) (List.replicate 32 0#8) = x1 := hx1
 rw [e1] at hP3
 simp -implicitDefEqProofs (disch := (first | omega | (simp only [lq11] <;> omega) | fail)) only [admQ, lq11, aFill, AK.cls, implies_true, if_true, if_false, seval, -List.reduceReplicate]
 refine Ans.mono (pj_save hP3 j1 p1) ?_
 rintro _ m4 ⟨rfl, B4, V4, hP4, k4, hB4, -⟩
 rw [hx3] at hP4
 have hh4 := hP4.hd
 unfold ptC at hh4
 simp -implicitDefEqProofs (disch := (first | omega | (simp only [lq11] <;> omega) | fail)) only [admQ, lq11, aFill, AK.cls, implies_true, if_true, if_false, seval, -List.reduceReplicate, rowOf_own hh4]
 refine Ans.mono (pj_close hP4 j3 p3) ?_
 rintro _ m5 ⟨rfl, B5, V5, hP5, k5, hB5, -⟩
 rw [hx4] at hP5
 clear hx1 hx3 hx4 e1
 simp -implicitDefEqProofs (disch := (first | omega | (simp only [lq11] <;> omega) | fail)) only [admQ, lq11, aFill, AK.cls, implies_true, if_true, if_false, seval, -List.reduceReplicate]
 have kk6 := Kept.app [] m5 [Blk.row [.int .i64 4, .int .i64 5, .int .i64 5, .int .i64 0, .int .i64 0] false]
 have o6 : own (m5 ++ [Blk.row [.int .i64 4, .int .i64 5, .int .i64 5, .int .i64 0, .int .i64 0] false]) m5.length = some [.int .i64 4, .int .i64 5, .int .i64 5, .int .i64 0, .int .i64 0] := by rw [own_app_at0]; rfl
 have hP6 := hP5.kept0 kk6
 have lB5 := hP5.vl.lt
 have lV5 := hP5.vl.sub
 have hnV : ∀ q, m5.length ≤ q → q ∉ V5 := fun q h1 h2 => by have := lB5 q (lV5 q h2); omega
 generalize m5 ++ [Blk.row [.int .i64 4, .int .i64 5, .int .i64 5, .int .i64 0, .int .i64 0] false] = m6 at *
 have hiC : ∀ i w, (itC i w).length = 36 := itC_len
 have hZS : ∀ i w, splice (AV.int .i64 0 :: .int .i64 0 :: .int .i64 0 :: (bys (List.replicate 32 0#8) ++ [.nils])) 0 (itC i w) = itC i w := fun i w => splice_full (by rw [itC_len]; rfl)
 refine LoopW.on (fun i : Nat => [(1, .ptr xp 0), (2, .sl m5.length 0 5 5 0), (3, .int .i64 i)]) (fun i => 5 - i)
  (fun i M => i ≤ 5 ∧ own M m5.length = some [.int .i64 4, .int .i64 5, .int .i64 5, .int .i64 0, .int .i64 0] ∧ ∃ x, PtM M xp xd xc xu xw xt B5 V5 x ∧ As x4 x _) ?_ 0 _ _ rfl ⟨by omega, o6, x4, hP6, .refl j4⟩
 rintro i M X ⟨hi, oM, x, hPx, hA⟩ hX
 by_cases hlt : i < 5
 ·have hki : [AV.int .i64 4, .int .i64 5, .int .i64 5, .int .i64 0, .int .i64 0][i]? = some (.int .i64 (kn5 i)) := by
   have : i = 0 ∨ i = 1 ∨ i = 2 ∨ i = 3 ∨ i = 4 := by omega
   rcases this with rfl | rfl | rfl | rfl | rfl <;> rfl
  obtain ⟨f1, f2, f3⟩ := known5 j4 at1 nz1 s1 ra1 s0 ra0 st6 hpos hlt
  rw [← hA.who j4] at f1 f2 f3
  simp -implicitDefEqProofs (disch := (first | omega | (simp only [lq11] <;> omega) | fail)) only [admQ, lq11, aFill, AK.cls, implies_true, if_true, if_false, seval, -List.reduceReplicate]
  refine Ans.mono (pj_what hPx hA.j 0 i) ?_
  rintro _ M1 ⟨w, rfl, rw1, bl1, k1', hP1⟩
  generalize (whO x 0 i).getD Itm.zero = it at *
  generalize (whO x 0 i).isSome = ok at *
  have hA1 := hA.look 0 i
  generalize whT x 0 i = x' at *
  have o1 := k1'.own oM (hnV _ (Nat.le_refl _))
  have k2' := Kept.app [] M1 [Blk.row (itC it w) false]
  have y2 : own (M1 ++ [Blk.row (itC it w) false]) M1.length = some (itC it w) := by rw [own_app_at0]; rfl
  have o2 := k2'.own o1 (by simp)
  have hP2' := hP1.kept0 k2'
  have rw2 := rw1.kept0 k2'
  simp -implicitDefEqProofs (disch := (first | omega | (simp only [lq11] <;> omega) | fail)) only [admQ, lq11, aFill, AK.cls, implies_true, if_true, if_false, seval, -List.reduceReplicate, hiC, hZS]
  generalize M1 ++ [Blk.row (itC it w) false] = M2 at *
  simp -implicitDefEqProofs (disch := (first | omega | (simp only [lq11] <;> omega) | fail)) only [admQ, lq11, aFill, AK.cls, implies_true, if_true, if_false, seval, -List.reduceReplicate, rowOf_own y2, rowOf_own o2, itC_k, hiC, hki, f1, f2]
  rw [itC_t]
  refine Ans.mono (pj_is hP2' hA1.j it (rd_one rw2)) ?_
  rintro _ M3 ⟨rfl, k3'⟩
  rw [hA1.t, f3]
  have o3 := k3'.own o2 (by simp)
  have y3 := k3'.own y2 (by simp)
  simp -implicitDefEqProofs (disch := (first | omega | (simp only [lq11] <;> omega) | fail)) only [admQ, lq11, aFill, AK.cls, implies_true, if_true, if_false, seval, -List.reduceReplicate, rowOf_own y2, rowOf_own o2, rowOf_own y3, rowOf_own o3, itC_k, itC_t, hiC, hki, f1, f2]
  exact hX (i + 1) _ _ rfl (by omega) ⟨by omega, o3, x', hP2'.kept0 k3', hA1⟩
 ·obtain rfl : i = 5 := by omega
  simp -implicitDefEqProofs (disch := (first | omega | (simp only [lq11] <;> omega) | fail)) only [admQ, lq11, aFill, AK.cls, implies_true, if_true, if_false, seval, -List.reduceReplicate]
  refine someW_eq (show _ = some [AV.int .i64 (-1), .int .i64 0, .int .i64 18, .int .i64 0, .int .i64 0, .int .i64 32, .int .i64 0, .int .i64 (-1), .int .i64 9223372036854775807, .int .i64 9223372036854775807] from rfl) ?_
  simp -implicitDefEqProofs (disch := (first | omega | (simp only [lq11] <;> omega) | fail)) only [admQ, lq11, aFill, AK.cls, implies_true, if_true, if_false, seval, -List.reduceReplicate]
  have kk7 := Kept.app [] M [Blk.row [.int .i64 (-1), .int .i64 0, .int .i64 18, .int .i64 0, .int .i64 0, .int .i64 32, .int .i64 0, .int .i64 (-1), .int .i64 9223372036854775807, .int .i64 9223372036854775807] false]
  have o7 : own (M ++ [Blk.row [.int .i64 (-1), .int .i64 0, .int .i64 18, .int .i64 0, .int .i64 0, .int .i64 32, .int .i64 0, .int .i64 (-1), .int .i64 9223372036854775807, .int .i64 9223372036854775807] false]) M.length = some [.int .i64 (-1), .int .i64 0, .int .i64 18, .int .i64 0, .int .i64 0, .int .i64 32, .int .i64 0, .int .i64 (-1), .int .i64 9223372036854775807, .int .i64 9223372036854775807] := by rw [own_app_at0]; rfl
  have hP7 := hPx.kept0 kk7
  have lM := hPx.vl.lt
  have lMV := hPx.vl.sub
  have hnM : ∀ q, M.length ≤ q → q ∉ V5 := fun q h1 h2 => by have := lM q (lMV q h2); omega
  generalize M ++ [Blk.row [.int .i64 (-1), .int .i64 0, .int .i64 18, .int .i64 0, .int .i64 0, .int .i64 32, .int .i64 0, .int .i64 (-1), .int .i64 9223372036854775807, .int .i64 9223372036854775807] false] = M7 at *
  clear hX
  refine LoopW.on (fun i : Nat => [(1, .ptr xp 0), (6, .sl M.length 0 5 5 0), (7, .int .i64 i)]) (fun i => 5 - i)
   (fun i M' => i ≤ 5 ∧ own M' M.length = some [.int .i64 (-1), .int .i64 0, .int .i64 18, .int .i64 0, .int .i64 0, .int .i64 32, .int .i64 0, .int .i64 (-1), .int .i64 9223372036854775807, .int .i64 9223372036854775807] ∧ ∃ x, PtM M' xp xd xc xu xw xt B5 V5 x ∧ As x4 x _) ?_ 0 _ _ rfl ⟨by omega, o7, x, hP7, hA⟩
  rintro i M' X ⟨hi, oM', x, hPx, hA⟩ hX
  by_cases hlt : i < 5
  ·have hpi : List.take 2 (List.drop (i * 2) [AV.int .i64 (-1), .int .i64 0, .int .i64 18, .int .i64 0, .int .i64 0, .int .i64 32, .int .i64 0, .int .i64 (-1), .int .i64 9223372036854775807, .int .i64 9223372036854775807]) = [.int .i64 (pl5 i).1, .int .i64 (pl5 i).2] ∧ ¬ ((0 ≤ (pl5 i).1 ∧ (pl5 i).1 ≤ 17) ∧ 0 ≤ (pl5 i).2 ∧ (pl5 i).2 ≤ 31) := by
    have : i = 0 ∨ i = 1 ∨ i = 2 ∨ i = 3 ∨ i = 4 := by omega
    rcases this with rfl | rfl | rfl | rfl | rfl <;> exact ⟨rfl, by decide⟩
   obtain ⟨p1, p2⟩ := hpi
   have hW : whO x (pl5 i).1 (pl5 i).2 = none := whO_out (by rw [hA.j.lg.w.g]; exact at_no p2)
   generalize (pl5 i).1 = seg at *
   generalize (pl5 i).2 = slot at *
   simp -implicitDefEqProofs (disch := (first | omega | (simp only [lq11] <;> omega) | fail)) only [admQ, lq11, aFill, AK.cls, implies_true, if_true, if_false, seval, -List.reduceReplicate, rowOf_own oM', p1]
   refine Ans.mono (pj_what hPx hA.j seg slot) ?_
   rintro _ M1 ⟨w, rfl, rw1, bl1, k1', hP1⟩
   rw [hW]
   simp only [Option.getD_none, Option.isSome_none]
   have hA1 := hA.look seg slot
   generalize whT x seg slot = x' at *
   have o1 := k1'.own oM' (hnM _ (Nat.le_refl _))
   have k2' := Kept.app [] M1 [Blk.row (itC Itm.zero w) false]
   have o2 := k2'.own o1 (by simp)
   have hP2' := hP1.kept0 k2'
   simp -implicitDefEqProofs (disch := (first | omega | (simp only [lq11] <;> omega) | fail)) only [admQ, lq11, aFill, AK.cls, implies_true, if_true, if_false, seval, -List.reduceReplicate, hiC, hZS]
   exact hX (i + 1) _ _ rfl (by omega) ⟨by omega, o2, x', hP2', hA1⟩
  ·obtain rfl : i = 5 := by omega
   have hh := hPx.hd
   unfold ptC at hh
   simp -implicitDefEqProofs (disch := (first | omega | (simp only [lq11] <;> omega) | fail)) only [admQ, lq11, aFill, AK.cls, implies_true, if_true, if_false, seval, -List.reduceReplicate, rowOf_own hh]
   refine Ans.mono (ans_node hPx.tr 0) ?_
   rintro _ M1 ⟨rfl, k1'⟩
   have hn0 : x.t.node 0 = x4.t.n 0 := by rw [hA.t]; exact x4.t.node_nat (k := 0) (by omega)
   have hB0 : x.t.nodeB 0 = true := by rw [Tr.nodeB, hn0, s0]; rfl
   have hR0 : x.t.nodeR 0 = (x4.t.n 0).ref := by rw [Tr.nodeR, hn0, if_pos s0]
   rw [hB0, hR0]
   generalize hroot : (x4.t.n 0).ref = root at *
   have rl := root.cells_len
   have rsp := root.sp
   have ral := root.all
   have k2' := Kept.app [] M1 [Blk.row root.cells false]
   have r2 : own (M1 ++ [Blk.row root.cells false]) M1.length = some root.cells := by rw [own_app_at0]; rfl
   have hP2' := (hPx.kept0 k1').kept0 k2'
   simp -implicitDefEqProofs (disch := (first | omega | (simp only [lq11] <;> omega) | fail)) only [admQ, lq11, aFill, AK.cls, implies_true, if_true, if_false, seval, -List.reduceReplicate, rl, rsp, Bool.not_true]
   generalize M1 ++ [Blk.row root.cells false] = M2 at *
   have hsp : splice (AV.int .i64 0 :: (bys (List.replicate 32 0#8) ++ [.nils])) 0 root.cells = root.cells ++ [.nils] := by
    have e1 : (AV.int .i64 0 :: (bys (List.replicate 32 0#8) ++ [.nils])) = Rf.zero.cells ++ [.nils] := rfl
    rw [e1, splice_app_l (by simp [Rf.cells_len]), splice_rf]
   have hnw : cellsV AV.nils = [AV.nils] ∧ AV.nils.solid = true := ⟨rfl, rfl⟩
   have rz : root ≠ Rf.zero := by rintro rfl; exact absurd ra0 (by decide)
   have rzb : (root == Rf.zero) = false := by simpa using rz
   have b1 : isB x.t ⟨4, 0, root, []⟩ = false := by
    have e : isB x.t ⟨4, 0, root, []⟩ = (!(x.t.at 0 == Rf.zero) && (x.t.at 0 == root)) := rfl
    have e2 : x.t.at 0 = Rf.zero := by rw [hA.t]; exact (x4.t.at_nat (k := 0) (by omega)).trans nb0
    rw [e, e2]; rfl
   have b2 : isB x.t ⟨5, 1, root, []⟩ = false := by
    have e : isB x.t ⟨5, 1, root, []⟩ = (x.t.nodeB 1 && (x.t.nodeR 1 == root) && !(x.t.nodeR 1 == Rf.zero)) := rfl
    have e2 : x.t.node 1 = x4.t.n 1 := by rw [hA.t]; exact x4.t.node_nat (k := 1) (by omega)
    have e3 : x.t.nodeR 1 = (x4.t.n 1).ref := by rw [Tr.nodeR, e2, if_pos s1]
    have e4 : ((x4.t.n 1).ref == root) = false := by
     rw [beq_eq_false_iff_ne]; intro h; rw [h] at ra1; omega
    rw [e, e3, e4, Bool.and_false, Bool.false_and]
   have b3 : isB x.t ⟨5, 0, root, []⟩ = true := by
    have e : isB x.t ⟨5, 0, root, []⟩ = (x.t.nodeB 0 && (x.t.nodeR 0 == root) && !(x.t.nodeR 0 == Rf.zero)) := rfl
    rw [e, hB0, hR0, rzb, beq_self_eq_true]; rfl
   have b4 : isB x.t ⟨3, 0, root, []⟩ = false := rfl
   have b5 : isB x.t ⟨5, 7, Rf.zero, []⟩ = false := by
    have e : isB x.t ⟨5, 7, Rf.zero, []⟩ = (x.t.nodeB 7 && (x.t.nodeR 7 == Rf.zero) && !(x.t.nodeR 7 == Rf.zero)) := rfl
    have e2 : x.t.node 7 = Nd.none := by rw [hA.t]; exact (x4.t.node_nat (k := 7) (by omega)).trans nn7
    have e3 : x.t.nodeB 7 = false := by rw [Tr.nodeB, e2]; rfl
    rw [e, e3]; rfl
   have b6 : isB x.t ⟨4, 64, Rf.zero, []⟩ = false := by
    have e : isB x.t ⟨4, 64, Rf.zero, []⟩ = (!(x.t.at 64 == Rf.zero) && (x.t.at 64 == Rf.zero)) := rfl
    have e2 : x.t.at 64 = Rf.zero := x.t.at_out (by omega)
    rw [e, e2]; rfl
   simp -implicitDefEqProofs (disch := (first | omega | (simp only [lq11] <;> omega) | fail)) only [admQ, lq11, aFill, AK.cls, implies_true, if_true, if_false, seval, -List.reduceReplicate, rowOf_own r2, ral, rl, hsp]
   refine Ans.mono (pj_is hP2' hA.j ⟨4, 0, root, []⟩ hnw) ?_
   rintro _ M3 ⟨rfl, k3'⟩
   rw [b1]
   have r3 := k3'.own r2 (by simp)
   simp -implicitDefEqProofs (disch := (first | omega | (simp only [lq11] <;> omega) | fail)) only [admQ, lq11, aFill, AK.cls, implies_true, if_true, if_false, seval, -List.reduceReplicate, rowOf_own r3, ral, rl, hsp]
   refine Ans.mono (pj_is (hP2'.kept0 k3') hA.j ⟨5, 1, root, []⟩ hnw) ?_
   rintro _ M4 ⟨rfl, k4'⟩
   rw [b2]
   have r4 := k4'.own r3 (by simp)
   simp -implicitDefEqProofs (disch := (first | omega | (simp only [lq11] <;> omega) | fail)) only [admQ, lq11, aFill, AK.cls, implies_true, if_true, if_false, seval, -List.reduceReplicate, rowOf_own r4, ral, rl, hsp]
   refine Ans.mono (pj_is ((hP2'.kept0 k3').kept0 k4') hA.j ⟨5, 0, root, []⟩ hnw) ?_
   rintro _ M5 ⟨rfl, k5'⟩
   rw [b3]
   have r5 := k5'.own r4 (by simp)
   simp -implicitDefEqProofs (disch := (first | omega | (simp only [lq11] <;> omega) | fail)) only [admQ, lq11, aFill, AK.cls, implies_true, if_true, if_false, seval, -List.reduceReplicate, rowOf_own r5, ral, rl, hsp]
   refine Ans.mono (pj_is (((hP2'.kept0 k3').kept0 k4').kept0 k5') hA.j ⟨3, 0, root, []⟩ hnw) ?_
   rintro _ M6 ⟨rfl, k6'⟩
   rw [b4]
   have r6 := k6'.own r5 (by simp)
   simp -implicitDefEqProofs (disch := (first | omega | (simp only [lq11] <;> omega) | fail)) only [admQ, lq11, aFill, AK.cls, implies_true, if_true, if_false, seval, -List.reduceReplicate, rowOf_own r6, ral, rl, hsp]
   refine Ans.mono (pj_is ((((hP2'.kept0 k3').kept0 k4').kept0 k5').kept0 k6') hA.j ⟨5, 7, Rf.zero, []⟩ hnw) ?_
   rintro _ M7' ⟨rfl, k7'⟩
   rw [b5]
   simp -implicitDefEqProofs (disch := (first | omega | (simp only [lq11] <;> omega) | fail)) only [admQ, lq11, aFill, AK.cls, implies_true, if_true, if_false, seval, -List.reduceReplicate, rowOf_own r6, ral, rl, hsp]
   refine Ans.mono (pj_is (((((hP2'.kept0 k3').kept0 k4').kept0 k5').kept0 k6').kept0 k7') hA.j ⟨4, 64, Rf.zero, []⟩ hnw) ?_
   rintro _ M8' ⟨rfl, k8'⟩
   rw [b6]
   simp -implicitDefEqProofs (disch := (first | omega | (simp only [lq11] <;> omega) | fail)) only [admQ, lq11, aFill, AK.cls, implies_true, if_true, if_false, seval, -List.reduceReplicate]
   refine (ans_lvknown _).mono ?_
   rintro _ M9' ⟨rfl, -⟩
   simp -implicitDefEqProofs (disch := (first | omega | (simp only [lq11] <;> omega) | fail)) only [admQ, lq11, aFill, AK.cls, implies_true, if_true, if_false, seval, -List.reduceReplicate]
end Go.Proofs.YtehnkcnjmfbjpaaGreat
end
section
namespace Go.Proofs.YtehnkcnjmfbjpaaGreat
open Go Go.Adm
set_option linter.unusedSimpArgs false
set_option linter.unusedVariables false
set_option maxRecDepth 100000
theorem PtM.kept {m m1 : Mem} {xp xd xc xu xw xt : Nat} {B V X : List Nat} {x : Pt} (h : PtM m xp xd xc xu xw xt B V x) (hk : Kept X m m1) (hX : ∀ q ∈ B, q ∉ X) (h1 : xp ∉ X) (h2 : xt ∉ X) : PtM m1 xp xd xc xu xw xt B V x := ⟨h.vl.kept hk hX, hk.own h.tr h2, hk.own h.hd h1, h.a1, h.a2⟩
section
variable {M M' : Mem} {xp xd xc xu xw xt : Nat} {B V : List Nat} {lp cb rb bp np : Nat} {x1 : Pt} {last : Nat → List B8} {ws : List AV} {fb fn : Nat → Int}
end
end Go.Proofs.YtehnkcnjmfbjpaaGreat
end
section
namespace Go.Proofs.YtehnkcnjmfbjpaaGreat
open Go Go.Adm
set_option linter.unusedSimpArgs false
set_option linter.unusedVariables false
set_option maxRecDepth 100000
set_option maxHeartbeats 4000000
end Go.Proofs.YtehnkcnjmfbjpaaGreat
end
section
namespace Go.Proofs.YtehnkcnjmfbjpaaGreat
open Go Go.Adm
set_option linter.unusedSimpArgs false
set_option linter.unusedVariables false
set_option maxRecDepth 100000
theorem cySm_inj {c : CyS} {n : Nat} (ht : cyTr c n) (hn : n ≤ 60000) {b b1 : List B8} (h1 : cyKn c b1) (h : cySm c b = cySm c b1) : b = b1 := by
 cases c with
 | nm S T =>
  have hl : T.length ≤ 60001 := by simp only [cyTr] at ht; split at ht <;> omega
  have h2 : sumN (posN b T) = sumN (posN b1 T) := h
  have p1 := posN_le b T
  have p2 := posN_le b1 T
  have h3 := sumN_inj (by omega) (by omega) h2
  obtain ⟨j, hj⟩ := fidx_of_mem (show b1 ∈ T from h1)
  rw [show posN b1 T = j + 1 by simp [posN, hj]] at h3
  have hjl := lt_of_get (fidx_some hj)
  cases hb : fidx b T with
  | none => rw [show posN b T = T.length + 1 by simp [posN, hb]] at h3; omega
  | some i =>
   rw [show posN b T = i + 1 by simp [posN, hb]] at h3
   obtain rfl : i = j := by omega
   have e1 := fidx_some hb
   rw [fidx_some hj] at e1
   exact (Option.some.inj e1).symm
structure Sp (x y : Pt) (A : Int) (b : List B8) (n : Nat) : Prop where
 w : y.v.w = x.v.w
 t : y.t = x.t
 d : CalmD y.v.d 579
 pk : ∀ a, 0 ≤ a → peekD y.v.d a = if a = A then b else peekD x.v.d a
 up : CyUp x.v.c y.v.c
 co : cyOk y.v.c x.v.w.no.toNat
 ct : cyTr y.v.c (x.v.w.no.toNat + n)
section
variable {x y : Pt} {A : Int} {b : List B8} {n : Nat} {last : Nat → List B8}
theorem Sp.look (h : Sp x y A b n) (hj : J x last) (seg slot : Int) : Sp x (whT y seg slot) A b (n + 1) := by
 have hm : cyTr y.v.c (x.v.w.no.toNat + (n + 1)) := cyTr_mono h.ct (by omega)
 unfold whT
 split
 ·exact ⟨h.w, h.t, h.d, h.pk, h.up, h.co, hm⟩
 ·obtain ⟨r1, r2⟩ := h.d.read (atG y.v.w.g seg slot)
  exact ⟨h.w, h.t, r1, fun a ha => (r2 a).trans (h.pk a ha), h.up.trans (.tx _ _), cyOk_tx h.co _, cyTr_tx h.ct _⟩
theorem Sp.peek_le (h : Sp x y A b n) (hj : J x last) (hb : b.length ≤ 1024) {a : Int} (ha : 3 ≤ a) : (peekD y.v.d a).length ≤ 1024 := by
 rw [h.pk a (by omega)]
 split
 ·exact hb
 ·rcases hj.seen ha with ⟨k, p, hs⟩ | hs
  ·exact hs.get.2.2.2.1
  ·rw [hs]; simp
theorem Sp.who (h : Sp x y A b n) (hj : J x last) {seg slot : Int} (h1 : 0 ≤ seg ∧ seg ≤ 17) (h2 : 0 ≤ slot ∧ slot ≤ 31) (hA : secOf seg slot ≠ A ∨ b = peekD x.v.d A) : whO y seg slot = whO x seg slot := by
 have ha := at_in hj.lg.w.g h1 h2
 have h3 : 3 ≤ secOf seg slot := by unfold secOf; omega
 refine whO_same (by rw [h.w]) ha (hj.seen h3) ?_ h.up
 rw [h.pk _ (by omega)]
 split
 ·rename_i e
  rcases hA with hA | hA
  ·exact absurd e hA
  ·rw [e]; exact hA
 ·rfl
theorem Sp.gone (h : Sp x y A b n) (hj : J x last) {seg slot : Int} (h1 : 0 ≤ seg ∧ seg ≤ 17) (h2 : 0 ≤ slot ∧ slot ≤ 31) (hA : secOf seg slot = A) (hb : b ≠ peekD x.v.d A) (hn : n ≤ 1000) {i : Itm} (hi : whO y seg slot = some i) : isB y.t i = false := by
 have ha := at_in hj.lg.w.g h1 h2
 have h0 : secOf seg slot ≠ 0 := by unfold secOf; omega
 have hno := hj.lg.w.no
 have hpos : x.v.pos = 32 * x.v.w.seg + x.v.w.slot := rfl
 have hs1 := hj.lg.w.seg
 have hs2 := hj.lg.w.slot
 have hpk : peekD y.v.d A = b := by rw [h.pk A (by rw [← hA]; unfold secOf; omega), if_pos rfl]
 have href : i.ref = ⟨A, smOf y.v.c b⟩ := by
  rw [whO, h.w, ha, if_neg h0, hA, hpk] at hi
  split at hi
  ·cases hi
  ·split at hi
   ·obtain ⟨q, -, rfl⟩ := Option.map_eq_some_iff.mp hi; rfl
   ·split at hi
    ·cases hi; rfl
    ·cases hi
 have key : ∀ r k p, RefTo x.v r k p → r ≠ i.ref := by
  rintro r k p ⟨⟨g1, g2⟩, g3, g4⟩ rfl
  rw [href] at g3 g4
  simp only at g3 g4
  have hk := g4.get.2.2.2.2.1
  have e1 : cySm y.v.c b = cySm x.v.c (peekD x.v.d A) := congrArg Subtype.val g3
  rw [← h.up.sm _ hk] at e1
  exact hb (cySm_inj h.ct (by omega) (h.up.kn _ hk) e1)
 rw [h.t]
 unfold isB
 by_cases k4 : i.k = 4
 ·rw [if_pos k4]
  by_cases hz : x.t.at i.no = Rf.zero
  ·rw [hz]; rfl
  ·have hr : 0 ≤ i.no ∧ i.no < 64 := Classical.byContradiction fun h' => hz (x.t.at_out h')
   obtain ⟨c, hc⟩ := Int.eq_ofNat_of_zero_le hr.1
   have hc6 : c < 64 := by omega
   rw [hc, x.t.at_nat hc6] at hz ⊢
   have := key _ _ _ (hj.tr.bl c hc6 hz).1
   have e : (x.t.b c == i.ref) = false := by simpa using this
   rw [e, Bool.and_false]
 ·rw [if_neg k4]
  by_cases k5 : i.k = 5
  ·rw [if_pos k5]
   by_cases hs : x.t.nodeB i.no = true
   ·have hs' : (x.t.node i.no).st = 1 := by simpa [Tr.nodeB] using hs
    have hr := Tr.node_lt hs'
    obtain ⟨c, hc⟩ := Int.eq_ofNat_of_zero_le hr.1
    have hc9 : c < 9 := by omega
    have e0 : x.t.node i.no = x.t.n c := by rw [hc]; exact x.t.node_nat (by omega)
    have e1 : x.t.nodeR i.no = (x.t.n c).ref := by rw [Tr.nodeR, if_pos hs', e0]
    rw [e1]
    rw [e0] at hs'
    have : (x.t.n c).ref ≠ i.ref := by
     by_cases hp : 0 < (x.t.n c).ref.at_
     ·obtain ⟨pg, g1, -⟩ := hj.tr.node hc9 hs' hp
      exact key _ _ _ g1
     ·intro e
      rw [e, href] at hp
      rw [← hA] at hp
      unfold secOf at hp
      simp only at hp
      omega
    have e : ((x.t.n c).ref == i.ref) = false := by simpa using this
    rw [e, Bool.and_false, Bool.false_and]
   ·have : x.t.nodeB i.no = false := by simpa using hs
    rw [this]; rfl
  ·rw [if_neg k5]
theorem Sp.start (hj : J x last) {a : Int} (ha : 3 ≤ a ∧ a < 579) (hb : b.length ≤ 1024) (y' : Pt) (hA : As x y' last) : Sp x ⟨{ y'.v with d := tamperD y'.v.d a b }, y'.t⟩ a b 0 := by
 obtain ⟨c1, c2⟩ := hA.j.lg.w.dk.tamper (i := a) (by omega) hb
 refine ⟨hA.w, hA.t, c1, fun j h => ?_, hA.up, ?_, ?_⟩
 ·show peekD (tamperD y'.v.d a b) j = _
  rw [c2 j h, hA.pk]
 ·show cyOk y'.v.c _
  rw [← hA.w]; exact hA.j.lg.w.co
 ·show cyTr y'.v.c _
  rw [← hA.w]; exact cyTr_mono hA.j.lg.w.ct (by omega)
end
structure WasM (M : Mem) (wp : Nat) (E : List Nat) (f : Nat → Itm) (n : Nat) (es : List (Itm × AV)) : Prop where
 len : es.length = 64
 own : own M wp = some (flatOf (fun e : Itm × AV => itC e.1 e.2) es)
 rd : ∀ i, i < n → ∃ w, es[i]? = some (f i, w) ∧ RdB M w (f i).data ∧ ∀ q ∈ blkOf w, q ∉ E ∧ q ≠ wp
 no : wp ∉ E
theorem WasM.kept {M M' : Mem} {wp : Nat} {E E' X : List Nat} {f : Nat → Itm} {n : Nat} {es : List (Itm × AV)} (h : WasM M wp E f n es) (hk : Kept X M M') (hX : ∀ q ∈ X, q ∈ E) (hE : ∀ q ∈ E', q ∈ E ∨ M.length ≤ q) : WasM M' wp E' f n es := by
 have hl := own_lt h.own
 refine ⟨h.len, hk.own h.own (fun h' => h.no (hX _ h')), fun j hj => ?_, fun h' => (hE _ h').elim h.no (fun h => by omega)⟩
 obtain ⟨w, h1, h2, h3⟩ := h.rd j hj
 refine ⟨w, h1, h2.kept hk (fun q o n cap s e h' => (h3 q (by rw [e]; simp [blkOf])).1 (hX _ h')), fun q hq => ⟨fun h' => ?_, (h3 q hq).2⟩⟩
 have hq2 := h2.blk_lt q hq
 exact (hE _ h').elim (h3 q hq).1 (fun h => by omega)
theorem WasM.kept0 {M M' : Mem} {wp : Nat} {E : List Nat} {f : Nat → Itm} {n : Nat} {es : List (Itm × AV)} (h : WasM M wp E f n es) (hk : Kept [] M M') : WasM M' wp E f n es := h.kept hk (by simp) (fun _ h => .inl h)
theorem WasM.put {M : Mem} {wp : Nat} {E : List Nat} {f : Nat → Itm} {n : Nat} {es : List (Itm × AV)} (h : WasM M wp E f n es) (hn : n < 64) {w : AV} (hw : RdB M w (f n).data) (hq : ∀ q ∈ blkOf w, q ∉ E ∧ q ≠ wp) : WasM (M.set wp (.row (flatOf (fun e : Itm × AV => itC e.1 e.2) (es.set n (f n, w))) false)) wp E f (n + 1) (es.set n (f n, w)) := by
 have hl := own_lt h.own
 have hk := Kept.set1 M wp (.row (flatOf (fun e : Itm × AV => itC e.1 e.2) (es.set n (f n, w))) false)
 refine ⟨by rw [List.length_set]; exact h.len, own_set hl _, fun j hj => ?_, h.no⟩
 by_cases e : j = n
 ·subst e
  refine ⟨w, by rw [List.getElem?_set_self (by rw [h.len]; exact hn)], ?_, hq⟩
  exact hw.kept hk (fun q o n cap s e h' => (hq q (by rw [e]; simp [blkOf])).2 (by simpa using h'))
 ·obtain ⟨w', h1, h2, h3⟩ := h.rd j (by omega)
  refine ⟨w', by rw [List.getElem?_set_ne (fun h => e h.symm)]; exact h1, ?_, h3⟩
  exact h2.kept hk (fun q o n cap s e h' => (h3 q (by rw [e]; simp [blkOf])).2 (by simpa using h'))
theorem es_len (es : List (Itm × AV)) : (flatOf (fun e : Itm × AV => itC e.1 e.2) es).length = es.length * 36 := flatOf_length (fun e => itC_len _ _) es
theorem es_get {es : List (Itm × AV)} {i : Nat} {e : Itm × AV} (h : es[i]? = some e) : List.take 36 (List.drop (i * 36) (flatOf (fun e : Itm × AV => itC e.1 e.2) es)) = itC e.1 e.2 := by
 have hi := lt_of_get h
 rw [flatOf_get (f := fun e : Itm × AV => itC e.1 e.2) (fun e => itC_len _ _) es i hi]
 rw [List.getElem?_eq_getElem hi, Option.some.injEq] at h
 rw [h]
theorem es_set (es : List (Itm × AV)) {i : Nat} (hi : i < es.length) (j : Itm) (w : AV) : splice (flatOf (fun e : Itm × AV => itC e.1 e.2) es) (i * 36) (itC j w) = flatOf (fun e : Itm × AV => itC e.1 e.2) (es.set i (j, w)) := flatOf_set (f := fun e : Itm × AV => itC e.1 e.2) (fun e => itC_len _ _) es i (j, w) hi
section
variable {m : Mem} {xp xd xc xu xw xt : Nat} {B V : List Nat} {x : Pt} (h : PtM m xp xd xc xu xw xt B V x)
include h
theorem pm_read {a : Nat} (ha : a < x.v.d.lasts.length) (hsz : (peekD x.v.d a).length ≤ 1000000) : Ans Tryz.prog 17 [.ptr xd 0, .int .i64 a] m fun r m' => ∃ v, r = .tup [v, .int .i64 0] ∧ RdB m' v (peekD x.v.d a) ∧ (∀ q ∈ blkOf v, m.length ≤ q) ∧ Kept V m m' ∧ PtM m' xp xd xc xu xw xt B V ⟨{ x.v with d := readD x.v.d a }, x.t⟩ := by
 obtain ⟨Wd, Rd, Wc, Rc, bu, en, hX, rfl, rfl⟩ := h.vl
 refine (ans_dkread hX.dk ha hsz).mono ?_
 rintro _ m' ⟨k, hD, v, rfl, hv⟩
 have hs := hX.dk.sub
 have hxp : xp ∉ Wd := fun h' => h.a2.1 (by simp [vlR, hs _ h'])
 have hxt : xt ∉ Wd := fun h' => h.a1 (by simp [vlR, hs _ h'])
 exact ⟨v, rfl, hv.rd, hv.low, k.more (fun q hq _ => by simp [vlW, hq]), ⟨⟨Wd, Rd, Wc, Rc, bu, en, hX.disk k hD (fun q h => .inl h), rfl, rfl⟩, k.own h.tr hxt, k.own h.hd hxp, h.a1, h.a2⟩⟩
theorem pm_tamper (a : Nat) {z : AV} {b : List B8} (hz : RdB m z b) (hb : b.length ≤ 100000) : Ans Tryz.prog 18 [.ptr xd 0, .int .i64 a, z] m fun r m' => r = .int .i64 (wrongD x.v.d a b) ∧ Kept V m m' ∧ ∃ B', PtM m' xp xd xc xu xw xt B' V ⟨{ x.v with d := tamperD x.v.d a b }, x.t⟩ ∧ ∀ q ∈ B', q ∈ B ∨ m.length ≤ q := by
 obtain ⟨Wd, Rd, Wc, Rc, bu, en, hX, rfl, rfl⟩ := h.vl
 refine (ans_dktamper hX.dk hz hb a).mono ?_
 rintro _ m' ⟨rfl, k, Rd', hD, hR⟩
 have hs := hX.dk.sub
 have hxp : xp ∉ Wd := fun h' => h.a2.1 (by simp [vlR, hs _ h'])
 have hxt : xt ∉ Wd := fun h' => h.a1 (by simp [vlR, hs _ h'])
 have lt := own_lt h.tr
 have lp := own_lt h.hd
 have hB' : ∀ q ∈ vlR xu xw Rd' Rc bu en, q ∈ vlR xu xw Rd Rc bu en ∨ m.length ≤ q := fun q hq => by
  simp only [vlR, List.mem_cons, List.mem_append] at hq ⊢
  rcases hq with hq | hq | hq | hq | hq | hq
  ·exact .inl (.inl hq)
  ·exact .inl (.inr (.inl hq))
  ·exact .inl (.inr (.inr (.inl hq)))
  ·exact .inl (.inr (.inr (.inr (.inl hq))))
  ·exact (hR q hq).imp (fun h => .inr (.inr (.inr (.inr (.inl h))))) id
  ·exact .inl (.inr (.inr (.inr (.inr (.inr hq)))))
 exact ⟨rfl, k.more (fun q hq _ => by simp [vlW, hq]), vlR xu xw Rd' Rc bu en, ⟨⟨Wd, Rd', Wc, Rc, bu, en, hX.disk k hD hR, rfl, rfl⟩, k.own h.tr hxt, k.own h.hd hxp, fun h' => (hB' _ h').elim h.a1 (fun h => by omega), fun h' => (hB' _ h').elim h.a2.1 (fun h => by omega), h.a2.2⟩, hB'⟩
end
end Go.Proofs.YtehnkcnjmfbjpaaGreat
end
section
namespace Go.Proofs.YtehnkcnjmfbjpaaGreat
open Go Go.Adm
set_option linter.unusedSimpArgs false
set_option linter.unusedVariables false
set_option maxRecDepth 100000
set_option maxHeartbeats 4000000
theorem whO_data (x : Pt) (seg slot : Int) : ((whO x seg slot).getD Itm.zero).data.length ≤ 100000 := by
 cases hw : whO x seg slot with
 | none => rw [Option.getD_none]; show 0 ≤ 100000; omega
 | some i =>
  rw [Option.getD_some]
  rw [whO] at hw
  split at hw
  ·cases hw
  ·split at hw
   ·cases hw
   ·split at hw
    ·obtain ⟨q, hq, rfl⟩ := Option.map_eq_some_iff.mp hw
     unfold blkO at hq
     split at hq
     ·rename_i h
      cases hq
      simp only [List.length_drop]
      omega
     ·cases hq
    ·split at hw
     ·cases hw; show 0 ≤ 100000; omega
     ·cases hw
theorem ans_LiveSpoilt {m : Mem} {y z : AV} {L : List Act} {zb : List B8} (hy : RdActs m y L) (k : Int) (hz : RdB m z zb) : Ans Tryz.prog 4 [y, .int .i64 k, z] m fun r m' => r = .bool true ∧ True := by
 refine ans_ret mixed ok4 ?_
 simp -implicitDefEqProofs (disch := (first | omega | (simp only [lq11] <;> omega) | fail)) only [admQ, lq11, aFill, AK.cls, implies_true, if_true, if_false, seval, -List.reduceReplicate, c4, r4]
 refine (ans_lvfresh m).mono ?_
 rintro _ m1 ⟨xp, xd, xc, xu, xw, xt, B, V, rfl, k1, hP, hxp, hxt, hB⟩
 have hzl := (hz.kept0 k1).len
 by_cases hzs : zb.length ≤ 1024
 case neg =>
  simp -implicitDefEqProofs (disch := (first | omega | (simp only [lq11] <;> omega) | fail)) only [admQ, lq11, aFill, AK.cls, implies_true, if_true, if_false, seval, -List.reduceReplicate, hzl, dec_t (show (zb.length : Int) > 1024 by omega)]
  refine (ans_lvknown _).mono ?_
  rintro _ M18 ⟨rfl, -⟩
  simp -implicitDefEqProofs (disch := (first | omega | (simp only [lq11] <;> omega) | fail)) only [admQ, lq11, aFill, AK.cls, implies_true, if_true, if_false, seval, -List.reduceReplicate]
 simp -implicitDefEqProofs (disch := (first | omega | (simp only [lq11] <;> omega) | fail)) only [admQ, lq11, aFill, AK.cls, implies_true, if_true, if_false, seval, -List.reduceReplicate, hzl, dec_f (show ¬ (zb.length : Int) > 1024 by omega)]
 refine LoopW.on (fun i : Nat => [(0, y), (1, .int .i64 k), (2, z), (7, .ptr xp 0), (8, .int .i64 i)]) (fun i => 40 - i)
  (fun i M => i ≤ 40 ∧ Kept [] m M ∧ Well M xp xd xc xu xw xt m.length (51 * i)) ?_ 0 _ _ rfl ⟨by omega, k1, B, V, x0, _, hP, J0, by decide, hB, hxp, hxt⟩
 rintro i M X ⟨hi, kk, B, V, x, last, hP, hJ, hps, hB, hxp, hxt⟩ hX
 have hlen := (hy.kept0 kk).len
 by_cases hlt : i < L.length ∧ i < 40
 ·obtain ⟨a, ha⟩ : ∃ a, L[i]? = some a := ⟨_, List.getElem?_eq_getElem hlt.1⟩
  have k2 := Kept.app [] M [Blk.row (bys (List.replicate 32 0#8)) false]
  have z2 : own (M ++ [Blk.row (bys (List.replicate 32 0#8)) false]) M.length = some (bys (List.replicate 32 0#8)) := by rw [own_app_at0]; rfl
  have hr32 : rep 32 [AV.int .u8 0] = bys (List.replicate 32 0#8) := by rw [← bys_rep]; simp [rep]
  obtain ⟨b, cap, xs, pd, rfl, hb, g0, g1, g2, hpd, -, hxl⟩ := (hy.kept0 (kk.trans k2)).at_ ha
  have hdl : RdB (M ++ [Blk.row (bys (List.replicate 32 0#8)) false]) pd a.2.2 := hpd
  simp -implicitDefEqProofs (disch := (first | omega | (simp only [lq11] <;> omega) | fail)) only [admQ, lq11, aFill, AK.cls, implies_true, if_true, if_false, seval, -List.reduceReplicate, hlen, hr32, dec_t (show (i : Int) < L.length by omega), hb, g2, hxl]
  obtain ⟨rc, hcp⟩ := copy32 (cap := 32) (s := 0) hdl z2
  refine someW_eq hcp ?_
  have k4 : Kept [] M ((M ++ [Blk.row (bys (List.replicate 32 0#8)) false]).set M.length (.row (bys (datB a.2.2)) false)) := k2.write (.inr (Nat.le_refl _)) _
  have z4 := own_set (own_lt z2) (bys (datB a.2.2))
  have hp4 := hP.kept0 k4
  have kk4 := kk.trans k4
  clear hcp hpd hdl k2
  generalize (M ++ [Blk.row (bys (List.replicate 32 0#8)) false]).set M.length (.row (bys (datB a.2.2)) false) = M4 at *
  have hb4 := hb
  have hy4 := (hy.kept0 kk4).at_ ha
  obtain ⟨b', cap', xs', pd', hbe, hb', g0', g1', g2', hpd', -, hxl'⟩ := hy4
  cases hbe
  have dl : (datB a.2.2).length = 32 := datB_len _
  have hyd : RdB M4 (.sl M.length 0 32 32 0) (datB a.2.2) := by have := RdB.row (l := datB a.2.2) 32 0 (rowOf_own z4) (by omega); rw [dl] at this; exact this
  have hBM : ∀ q ∈ B, q < M.length := hP.vl.lt
  have hVB := hP.vl.sub
  simp -implicitDefEqProofs (disch := (first | omega | (simp only [lq11] <;> omega) | fail)) only [admQ, lq11, aFill, AK.cls, implies_true, if_true, if_false, seval, -List.reduceReplicate, hb', g0', hxl', dec_t (show (i : Int) < L.length by omega), hlen]
  refine (ans_pick a.1 4 (by omega) M4).mono ?_
  rintro _ M5 ⟨rfl, hM5⟩
  subst hM5
  by_cases hk3 : pickI a.1 4 = 3
  ·simp -implicitDefEqProofs (disch := (first | omega | (simp only [lq11] <;> omega) | fail)) only [admQ, lq11, aFill, AK.cls, implies_true, if_true, if_false, seval, -List.reduceReplicate, beq_iff_eq.mpr hk3]
   refine Ans.mono (pj_save hp4 hJ (by omega)) ?_
   rintro _ M6 ⟨rfl, hT⟩
   obtain ⟨-, s2, s3, -⟩ := save_step x.t.dirtyL hJ (by omega) rfl
   simp -implicitDefEqProofs (disch := (first | omega | (simp only [lq11] <;> omega) | fail)) only [admQ, lq11, aFill, AK.cls, implies_true, if_true, if_false, seval, -List.reduceReplicate]
   exact hX (i + 1) _ _ rfl (by omega) ⟨by omega, hT.well (n0 := m.length) hVB hB ⟨hxp, hxt⟩ kk4 rfl s2 (by omega)⟩
  ·simp -implicitDefEqProofs (disch := (first | omega | (simp only [lq11] <;> omega) | fail)) only [admQ, lq11, aFill, AK.cls, implies_true, if_true, if_false, seval, -List.reduceReplicate, beq_eq_false_iff_ne.mpr hk3, hb', g1', hxl']
   refine (ans_pick a.2.1 4 (by omega) M5).mono ?_
   rintro _ M6 ⟨rfl, hM6⟩
   subst hM6
   obtain ⟨p1, p2⟩ := pickI_in a.2.1 4 (by omega)
   obtain ⟨bn, hbn⟩ := Int.eq_ofNat_of_zero_le p1
   rw [hbn]
   simp -implicitDefEqProofs (disch := (first | omega | (simp only [lq11] <;> omega) | fail)) only [admQ, lq11, aFill, AK.cls, implies_true, if_true, if_false, seval, -List.reduceReplicate]
   refine Ans.mono (pj_put hp4 hJ (by omega) (b := bn) (by omega) hyd (fun q hq h => by simp only [blkOf, List.mem_singleton] at hq; have := hBM q h; omega) dl) ?_
   rintro _ M7 ⟨rfl, hT⟩
   obtain ⟨-, s2, s3, -⟩ := put_step hJ (by omega) (b := bn) (by omega) dl
   simp -implicitDefEqProofs (disch := (first | omega | (simp only [lq11] <;> omega) | fail)) only [admQ, lq11, aFill, AK.cls, implies_true, if_true, if_false, seval, -List.reduceReplicate]
   exact hX (i + 1) _ _ rfl (by omega) ⟨by omega, hT.well (n0 := m.length) hVB hB ⟨hxp, hxt⟩ kk4 rfl s2 (by omega)⟩
 ·have fin1 : (i : Int) < L.length → ¬ (i : Int) < 40 := by omega
  by_cases e1 : (i : Int) < L.length
  case' neg => simp -implicitDefEqProofs (disch := (first | omega | (simp only [lq11] <;> omega) | fail)) only [admQ, lq11, aFill, AK.cls, implies_true, if_true, if_false, seval, -List.reduceReplicate, hlen, dec_f e1]
  case' pos => simp -implicitDefEqProofs (disch := (first | omega | (simp only [lq11] <;> omega) | fail)) only [admQ, lq11, aFill, AK.cls, implies_true, if_true, if_false, seval, -List.reduceReplicate, hlen, dec_t e1, dec_f (fin1 e1)]
  all_goals
   clear fin1 e1 hX
   refine (ans_pick k 64 (by omega) M).mono ?_
   rintro _ M0 ⟨rfl, hM0⟩
   subst hM0
   obtain ⟨p1, p2⟩ := pickI_in k 64 (by omega)
   obtain ⟨a, hav⟩ := Int.eq_ofNat_of_zero_le p1
   rw [hav]
   have ha : a < 64 := by omega
   simp -implicitDefEqProofs (disch := (first | omega | (simp only [lq11] <;> omega) | fail)) only [admQ, lq11, aFill, AK.cls, implies_true, if_true, if_false, seval, -List.reduceReplicate]
   have k3' := Kept.app [] M0 [Blk.row (rep 64 (.int .i64 0 :: .int .i64 0 :: .int .i64 0 :: (bys (List.replicate 32 0#8) ++ [.nils]))) false, .row (List.replicate 64 (.bool false)) false]
   let f : Nat → Itm := fun i => (whO x ((i / 32 : Nat) : Int) ((i % 32 : Nat) : Int)).getD Itm.zero
   have hf : ∀ i, f i = (whO x ((i / 32 : Nat) : Int) ((i % 32 : Nat) : Int)).getD Itm.zero := fun i => rfl
   have lB2 := hP.vl.lt
   have lVB := hP.vl.sub
   have lxp2 := own_lt hP.hd
   have lxt2 := own_lt hP.tr
   have ow : own (M0 ++ [Blk.row (rep 64 (.int .i64 0 :: .int .i64 0 :: .int .i64 0 :: (bys (List.replicate 32 0#8) ++ [.nils]))) false, .row (List.replicate 64 (.bool false)) false]) M0.length = some (flatOf (fun e : Itm × AV => itC e.1 e.2) (List.replicate 64 (Itm.zero, .nils))) := by
    rw [own_app_at0, flatOf, List.flatMap_replicate]; rfl
   have oa : own (M0 ++ [Blk.row (rep 64 (.int .i64 0 :: .int .i64 0 :: .int .i64 0 :: (bys (List.replicate 32 0#8) ++ [.nils]))) false, .row (List.replicate 64 (.bool false)) false]) (M0.length + 1) = some (upTo 64 (fun j => AV.bool (isB x.t (f j))) (fun _ => AV.bool false) 0) := by
    rw [own_app_at, upTo_zero]; rfl
   have hWas : WasM (M0 ++ [Blk.row (rep 64 (.int .i64 0 :: .int .i64 0 :: .int .i64 0 :: (bys (List.replicate 32 0#8) ++ [.nils]))) false, .row (List.replicate 64 (.bool false)) false]) M0.length ((M0.length + 1) :: xp :: xt :: B) f 0 (List.replicate 64 (Itm.zero, .nils)) := by
    refine ⟨by simp, ow, fun i h => by omega, fun h => ?_⟩
    simp only [List.mem_cons] at h
    rcases h with h | h | h | h
    ·omega
    ·omega
    ·omega
    ·have := lB2 _ h; omega
   have hP3 := hP.kept0 k3'
   have hA3 : As x x last := .refl hJ
   have kk3 := kk.trans k3'
   have hapB : M0.length + 1 ∉ xp :: xt :: B := fun h => by
    simp only [List.mem_cons] at h
    rcases h with h | h | h
    ·omega
    ·omega
    ·have := lB2 _ h; omega
   have hm0 : m.length ≤ M0.length := kk.len
   generalize M0 ++ [Blk.row (rep 64 (.int .i64 0 :: .int .i64 0 :: .int .i64 0 :: (bys (List.replicate 32 0#8) ++ [.nils]))) false, .row (List.replicate 64 (.bool false)) false] = M3 at *
   have hap0 : M0.length ≤ M0.length + 1 := by omega
   have hapw : M0.length + 1 ≠ M0.length := by omega
   generalize M0.length + 1 = ap at *
   generalize hwp : M0.length = wp at *
   clear k3' ow
   have hiC : ∀ i w, (itC i w).length = 36 := itC_len
   have hZS : ∀ i w, splice (AV.int .i64 0 :: .int .i64 0 :: .int .i64 0 :: (bys (List.replicate 32 0#8) ++ [.nils])) 0 (itC i w) = itC i w := fun i w => splice_full (by rw [itC_len]; rfl)
   clear_value f
   refine LoopW.on (fun i : Nat => [(1, .int .i64 (a : Int)), (2, z), (7, .ptr xp 0), (10, .ptr wp 0), (11, .ptr ap 0), (12, .int .i64 i)]) (fun i => 64 - i)
    (fun i M' => i ≤ 64 ∧ Kept [] m M' ∧ (∃ y', PtM M' xp xd xc xu xw xt B V y' ∧ As x y' last) ∧ (∃ es, WasM M' wp (ap :: xp :: xt :: B) f i es) ∧ own M' ap = some (upTo 64 (fun j => AV.bool (isB x.t (f j))) (fun _ => AV.bool false) i)) ?_ 0 _ _ rfl ⟨by omega, kk3, ⟨x, hP3, hA3⟩, ⟨_, hWas⟩, oa⟩
   rintro i M1 X' ⟨hi, kk1, ⟨y', hy', hA'⟩, ⟨es, hW⟩, oa1⟩ hX'
   by_cases hlt' : i < 64
   ·simp -implicitDefEqProofs (disch := (first | omega | (simp only [lq11] <;> omega) | fail)) only [admQ, lq11, aFill, AK.cls, implies_true, if_true, if_false, seval, -List.reduceReplicate, dec_t (show (i : Int) < 64 by omega)]
    refine Ans.mono (pj_what hy' hA'.j ((i / 32 : Nat) : Int) ((i % 32 : Nat) : Int)) ?_
    rintro _ M2 ⟨w, rfl, rw2, bl2, k2', hP2⟩
    rw [hA'.who hJ, ← hf] at rw2 ⊢
    have hA2 := hA'.look ((i / 32 : Nat) : Int) ((i % 32 : Nat) : Int)
    generalize whT y' ((i / 32 : Nat) : Int) ((i % 32 : Nat) : Int) = y2 at *
    generalize (whO x ((i / 32 : Nat) : Int) ((i % 32 : Nat) : Int)).isSome = ok at *
    have hXV : ∀ q ∈ V, q ∈ ap :: xp :: xt :: B := fun q hq => by simp [lVB q hq]
    have hW2 := hW.kept k2' hXV (fun _ h => .inl h)
    have hapV : ap ∉ V := fun h => hapB (by simp [lVB _ h])
    have oa2 := k2'.own oa1 hapV
    have kk2 := kk1.upon k2' (fun q hq => hB q (lVB q hq))
    have k5' := Kept.app [] M2 [Blk.row (itC (f i) w) false]
    have o5 : own (M2 ++ [Blk.row (itC (f i) w) false]) M2.length = some (itC (f i) w) := by rw [own_app_at0]; rfl
    simp -implicitDefEqProofs (disch := (first | omega | (simp only [lq11] <;> omega) | fail)) only [admQ, lq11, aFill, AK.cls, implies_true, if_true, if_false, seval, -List.reduceReplicate, hiC, hZS]
    have hW5 := hW2.kept0 k5'
    have oa5 := k5'.own oa2 (by simp)
    have hP5 := hP2.kept0 k5'
    have rw5 := rw2.kept0 k5'
    have kk5 := kk2.trans k5'
    have l12 := k2'.len
    have l5 := own_lt o5
    have lwp := own_lt hW.own
    have lap := own_lt oa1
    have lBy := hy'.vl.lt
    have lyp := own_lt hy'.hd
    have lyt := own_lt hy'.tr
    generalize M2 ++ [Blk.row (itC (f i) w) false] = M5 at *
    have hWo := hW5.own
    have hWl := es_len es
    have hel := hW5.len
    have hse := es_set es (i := i) (by omega) (f i) w
    simp -implicitDefEqProofs (disch := (first | omega | (simp only [lq11] <;> omega) | fail)) only [admQ, lq11, aFill, AK.cls, implies_true, if_true, if_false, seval, -List.reduceReplicate, rowOf_own o5, itC_t, hiC, hWo, rowOf_own hWo, hWl, hel, hse]
    have hW6 := hW5.put hlt' rw5 (fun q hq => by
     have h1 := bl2 q hq
     refine ⟨fun h => ?_, by omega⟩
     simp only [List.mem_cons] at h
     rcases h with h | h | h | h
     ·omega
     ·omega
     ·omega
     ·have := lBy q h; omega)
    have kS := Kept.set1 M5 wp (.row (flatOf (fun e : Itm × AV => itC e.1 e.2) (es.set i (f i, w))) false)
    have o6 := kS.own o5 (by simp only [List.mem_singleton]; omega)
    have oa6 := kS.own oa5 (by simp only [List.mem_singleton]; omega)
    have hP6 := hP5.kept kS (fun q hq h => by
     simp only [List.mem_singleton] at h
     exact hW.no (by rw [← h]; simp [hq])) (fun h => by
     simp only [List.mem_singleton] at h
     exact hW.no (by rw [← h]; simp)) (fun h => by
     simp only [List.mem_singleton] at h
     exact hW.no (by rw [← h]; simp))
    have kk6 := kk5.upon kS (fun q hq => by simp only [List.mem_singleton] at hq; omega)
    have rw6 : RdB (M5.set wp (.row (flatOf (fun e : Itm × AV => itC e.1 e.2) (es.set i (f i, w))) false)) w (f i).data := rw5.kept kS (fun q o n cap s e h => by
     simp only [List.mem_singleton] at h
     have := bl2 q (by rw [e]; simp [blkOf]); omega)
    generalize M5.set wp (.row (flatOf (fun e : Itm × AV => itC e.1 e.2) (es.set i (f i, w))) false) = M6 at *
    simp -implicitDefEqProofs (disch := (first | omega | (simp only [lq11] <;> omega) | fail)) only [admQ, lq11, aFill, AK.cls, implies_true, if_true, if_false, seval, -List.reduceReplicate, rowOf_own o6, itC_t, hiC]
    refine Ans.mono (pj_is hP6 hA2.j (f i) (rd_one rw6)) ?_
    rintro _ M7 ⟨rfl, k7'⟩
    rw [hA2.t]
    have oa7 := k7'.own oa6 (by simp)
    have hW7 := hW6.kept0 k7'
    have hP7 := hP6.kept0 k7'
    have hul := upTo_len 64 (fun j => AV.bool (isB x.t (f j))) (fun _ => AV.bool false) i
    have hus := upTo_set (n := 64) (i := i) (f := fun j => AV.bool (isB x.t (f j))) (g := fun _ => AV.bool false)
    have hsp1 : splice (upTo 64 (fun j => AV.bool (isB x.t (f j))) (fun _ => AV.bool false) i) i [AV.bool (isB x.t (f i))] = upTo 64 (fun j => AV.bool (isB x.t (f j))) (fun _ => AV.bool false) (i + 1) := by
     rw [splice_one _ _ _ (by rw [hul]; exact hlt')]; exact hus
    simp -implicitDefEqProofs (disch := (first | omega | (simp only [lq11] <;> omega) | fail)) only [admQ, lq11, aFill, AK.cls, implies_true, if_true, if_false, seval, -List.reduceReplicate, rowOf_own oa7, oa7, hul, hsp1]
    have kT := Kept.set1 M7 ap (.row (upTo 64 (fun j => AV.bool (isB x.t (f j))) (fun _ => AV.bool false) (i + 1)) false)
    refine hX' (i + 1) _ _ rfl (by omega) ⟨by omega, (kk6.trans k7').upon kT (fun q hq => by simp only [List.mem_singleton] at hq; omega), ⟨y2, hP7.kept kT (fun q hq h => by
     simp only [List.mem_singleton] at h
     exact hapB (by rw [← h]; simp [hq])) (fun h => by
     simp only [List.mem_singleton] at h
     exact hapB (by rw [← h]; simp)) (fun h => by
     simp only [List.mem_singleton] at h
     exact hapB (by rw [← h]; simp)), hA2⟩, ⟨_, hW7.kept kT (by simp) (fun _ h => .inl h)⟩, own_set (own_lt oa7) _⟩
   ·obtain rfl : i = 64 := by omega
    clear hX' hWas oa hP3 hA3 kk3
    have hh := hy'.hd
    unfold ptC at hh
    simp -implicitDefEqProofs (disch := (first | omega | (simp only [lq11] <;> omega) | fail)) only [admQ, lq11, aFill, AK.cls, implies_true, if_true, if_false, seval, -List.reduceReplicate, rowOf_own hh]
    have hdl := hA'.j.lg.w.dk.2.2.1
    refine Ans.mono (pm_read hy' (a := 3 + a) (by omega) (by have := hA'.j.peek_le hy' (a := ((3 + a : Nat) : Int)) (by omega); omega)) ?_
    rintro _ M2 ⟨vo, rfl, rvo, blo, k2', hP2⟩
    obtain ⟨r1, r2⟩ := hA'.j.lg.w.dk.read ((3 + a : Nat) : Int)
    have hA2 : As x ⟨{ y'.v with d := readD y'.v.d ((3 + a : Nat) : Int) }, y'.t⟩ last := ⟨hA'.j.mono r1 r2 (.refl _) hA'.j.lg.w.co hA'.j.lg.w.ct, hA'.t, hA'.w, fun b => (r2 b).trans (hA'.pk b), hA'.up⟩
    rw [hA'.pk] at rvo
    generalize (⟨{ y'.v with d := readD y'.v.d ((3 + a : Nat) : Int) }, y'.t⟩ : Pt) = y2 at *
    have hXV : ∀ q ∈ V, q ∈ ap :: xp :: xt :: B := fun q hq => by simp [lVB q hq]
    have hapV : ap ∉ V := fun h => hapB (by simp [lVB _ h])
    have hW2 := hW.kept k2' hXV (fun _ h => .inl h)
    have oa2 := k2'.own oa1 hapV
    have kk2 := kk1.upon k2' (fun q hq => hB q (lVB q hq))
    have hh2 := hP2.hd
    unfold ptC at hh2
    simp -implicitDefEqProofs (disch := (first | omega | (simp only [lq11] <;> omega) | fail)) only [admQ, lq11, aFill, AK.cls, implies_true, if_true, if_false, seval, -List.reduceReplicate, rowOf_own hh2]
    refine Ans.mono (pm_tamper hP2 (3 + a) (hz.kept0 kk2) (by omega)) ?_
    rintro _ M3' ⟨rfl, k3', B2, hP3, hB2⟩
    have hsp := Sp.start hJ (a := ((3 + a : Nat) : Int)) (by omega) hzs y2 hA2
    have lBy := hy'.vl.lt
    have l12 := k2'.len
    have l23 := k3'.len
    have lap := own_lt oa1
    have lwp := own_lt hW.own
    have lyp := own_lt hh
    have lyt := own_lt hy'.tr
    have hE : ∀ q ∈ ap :: xp :: xt :: B2, q ∈ ap :: xp :: xt :: B ∨ M2.length ≤ q := fun q hq => by
     simp only [List.mem_cons] at hq ⊢
     rcases hq with h | h | h | h
     ·exact .inl (.inl h)
     ·exact .inl (.inr (.inl h))
     ·exact .inl (.inr (.inr (.inl h)))
     ·exact (hB2 q h).imp (fun h => .inr (.inr (.inr h))) id
    have hW3 := hW2.kept k3' hXV hE
    have oa3 := k3'.own oa2 hapV
    have kk3 := kk2.upon k3' (fun q hq => hB q (lVB q hq))
    have rvo3 := rvo.kept k3' (fun q o n cap s e h => by
     have h1 := blo q (by rw [e]; simp [blkOf])
     have := lBy q (lVB q h); omega)
    have hvo : ∀ q ∈ blkOf vo, q ∉ B2 := fun q hq h => by
     have h1 := blo q hq
     have h2 := rvo.blk_lt q hq
     rcases hB2 q h with h | h
     ·have := lBy q h; omega
     ·omega
    have hap2 : ap ∉ B2 := fun h => by
     rcases hB2 ap h with h | h
     ·exact hapB (by simp [h])
     ·omega
    have hBm2 : ∀ q ∈ B2, m.length ≤ q := fun q h => (hB2 q h).elim (hB q) (fun h => by omega)
    generalize (⟨{ y2.v with d := tamperD y2.v.d ((3 + a : Nat) : Int) zb }, y2.t⟩ : Pt) = y3 at *
    clear hP2 hA2 hW2 oa2 k2' k3' hh hh2
    simp -implicitDefEqProofs (disch := (first | omega | (simp only [lq11] <;> omega) | fail)) only [admQ, lq11, aFill, AK.cls, implies_true, if_true, if_false, seval, -List.reduceReplicate]
    refine LoopW.on (fun i : Nat => [(1, .int .i64 (a : Int)), (2, z), (7, .ptr xp 0), (10, .ptr wp 0), (11, .ptr ap 0), (15, vo), (17, .int .i64 i)]) (fun i => 64 - i)
     (fun i M' => i ≤ 64 ∧ Kept [] m M' ∧ (∃ y', PtM M' xp xd xc xu xw xt B2 V y' ∧ Sp x y' ((3 + a : Nat) : Int) zb i) ∧ WasM M' wp (ap :: xp :: xt :: B2) f 64 es ∧ own M' ap = some (upTo 64 (fun j => AV.bool (isB x.t (f j))) (fun _ => AV.bool false) 64) ∧ RdB M' vo (peekD x.v.d ((3 + a : Nat) : Int))) ?_ 0 _ _ rfl ⟨by omega, kk3, ⟨y3, hP3, hsp⟩, hW3, oa3, rvo3⟩
    rintro i M4 X' ⟨hi, kk4, ⟨y4, hy4, hs4⟩, hW4, oa4, rvo4⟩ hX'
    by_cases hlt' : i < 64
    ·simp -implicitDefEqProofs (disch := (first | omega | (simp only [lq11] <;> omega) | fail)) only [admQ, lq11, aFill, AK.cls, implies_true, if_true, if_false, seval, -List.reduceReplicate, dec_t (show (i : Int) < 64 by omega)]
     have hno := hJ.lg.w.no
     have hpos : x.v.pos = 32 * x.v.w.seg + x.v.w.slot := rfl
     have hs1 := hJ.lg.w.seg
     have hs2 := hJ.lg.w.slot
     have hat : atG y4.v.w.g ((i / 32 : Nat) : Int) ((i % 32 : Nat) : Int) = secOf ((i / 32 : Nat) : Int) ((i % 32 : Nat) : Int) := by rw [hs4.w]; exact at_in hJ.lg.w.g (by omega) (by omega)
     have hsec : secOf ((i / 32 : Nat) : Int) ((i % 32 : Nat) : Int) = ((3 + i : Nat) : Int) := by unfold secOf; omega
     refine Ans.mono (ans_lwhat hy4 (cyOk_mono hs4.co (by omega)) (cyTk_mono (cyTr_k hs4.ct) (by omega)) ((i / 32 : Nat) : Int) ((i % 32 : Nat) : Int) (fun _ => by
      rw [hat, hsec, hs4.d.2.2.1]
      have := hs4.peek_le hJ hzs (a := ((3 + i : Nat) : Int)) (by omega)
      omega)) ?_
     rintro _ M5 ⟨w, rfl, rw5, bl5, k5', hP5⟩
     have hs5 := hs4.look hJ ((i / 32 : Nat) : Int) ((i % 32 : Nat) : Int)
     generalize whT y4 ((i / 32 : Nat) : Int) ((i % 32 : Nat) : Int) = y5 at *
     have lV2 := hy4.vl.sub
     have lB4 := hy4.vl.lt
     have hXV2 : ∀ q ∈ V, q ∈ ap :: xp :: xt :: B2 := fun q hq => by simp [lV2 q hq]
     have hW5 := hW4.kept k5' hXV2 (fun _ h => .inl h)
     have oa5 := k5'.own oa4 (fun h => hap2 (lV2 _ h))
     have kk5 := kk4.upon k5' (fun q hq => hBm2 q (lV2 q hq))
     have rvo5 := rvo4.kept k5' (fun q o n cap s e h => hvo q (by rw [e]; simp [blkOf]) (lV2 q h))
     have hfin : ∀ {M9 : Mem}, Kept [] M5 M9 → i + 1 ≤ 64 ∧ Kept [] m M9 ∧ (∃ y', PtM M9 xp xd xc xu xw xt B2 V y' ∧ Sp x y' ((3 + a : Nat) : Int) zb (i + 1)) ∧ WasM M9 wp (ap :: xp :: xt :: B2) f 64 es ∧ own M9 ap = some (upTo 64 (fun j => AV.bool (isB x.t (f j))) (fun _ => AV.bool false) 64) ∧ RdB M9 vo (peekD x.v.d ((3 + a : Nat) : Int)) := fun k9 =>
      ⟨by omega, kk5.trans k9, ⟨y5, hP5.kept0 k9, hs5⟩, hW5.kept0 k9, k9.own oa5 (by simp), rvo5.kept0 k9⟩
     have k6' := Kept.app [] M5 [Blk.row (itC ((whO y4 ((i / 32 : Nat) : Int) ((i % 32 : Nat) : Int)).getD Itm.zero) w) false]
     have o6 : own (M5 ++ [Blk.row (itC ((whO y4 ((i / 32 : Nat) : Int) ((i % 32 : Nat) : Int)).getD Itm.zero) w) false]) M5.length = some (itC ((whO y4 ((i / 32 : Nat) : Int) ((i % 32 : Nat) : Int)).getD Itm.zero) w) := by rw [own_app_at0]; rfl
     simp -implicitDefEqProofs (disch := (first | omega | (simp only [lq11] <;> omega) | fail)) only [admQ, lq11, aFill, AK.cls, implies_true, if_true, if_false, seval, -List.reduceReplicate, hiC, hZS]
     have rw6 := rw5.kept0 k6'
     have hP6 := hP5.kept0 k6'
     have hW6 := hW5.kept0 k6'
     have oa6 := k6'.own oa5 (by simp)
     have rvo6 := rvo5.kept0 k6'
     have hz6 := hz.kept0 (kk5.trans k6')
     generalize M5 ++ [Blk.row (itC ((whO y4 ((i / 32 : Nat) : Int) ((i % 32 : Nat) : Int)).getD Itm.zero) w) false] = M6 at *
     have hus := upTo_old (n := 64) (i := 64) (j := i) (f := fun j => AV.bool (isB x.t (f j))) (g := fun _ => AV.bool false) hlt' hlt'
     have hul := upTo_len 64 (fun j => AV.bool (isB x.t (f j))) (fun _ => AV.bool false) 64
     obtain ⟨wi, g1, g2, g3⟩ := hW6.rd i hlt'
     have hWo := hW6.own
     have hWl := es_len es
     have hel := hW6.len
     have hgt := es_get g1
     have hso : ∀ {M9 : Mem}, Kept [] M6 M9 → (secOf ((i / 32 : Nat) : Int) ((i % 32 : Nat) : Int) ≠ ((3 + a : Nat) : Int) ∨ zb = peekD x.v.d ((3 + a : Nat) : Int)) → True := fun _ _ => trivial
     by_cases hia : i = a
     ·by_cases hsame : zb = peekD x.v.d ((3 + a : Nat) : Int)
      ·have hwho := hs4.who hJ (seg := ((i / 32 : Nat) : Int)) (slot := ((i % 32 : Nat) : Int)) (by omega) (by omega) (.inr hsame)
       rw [hwho, ← hf] at rw6 o6
       rw [hwho]
       generalize (whO x ((i / 32 : Nat) : Int) ((i % 32 : Nat) : Int)).isSome = ok at *
       have heq : ((i : Int) == (a : Int)) = true := by rw [beq_iff_eq]; omega
       have hb1 : (peekD x.v.d ((3 + a : Nat) : Int) == zb) = true := by rw [beq_iff_eq]; exact hsame.symm
       simp -implicitDefEqProofs (disch := (first | omega | (simp only [lq11] <;> omega) | fail)) only [admQ, lq11, aFill, AK.cls, implies_true, if_true, if_false, seval, -List.reduceReplicate, heq]
       refine (ans_samebytes rvo6 hz6 (by rw [← hsame]; omega)).mono ?_
       rintro _ M6' ⟨rfl, hM⟩
       subst hM
       rw [hb1]
       simp -implicitDefEqProofs (disch := (first | omega | (simp only [lq11] <;> omega) | fail)) only [admQ, lq11, aFill, AK.cls, implies_true, if_true, if_false, seval, -List.reduceReplicate, rowOf_own o6, itC_t, hiC, rowOf_own hWo, hWl, hel, hgt]
       refine (ans_sameitem rw6 g2 (by rw [hf]; exact whO_data _ _ _)).mono ?_
       rintro _ M7 ⟨rfl, k7'⟩
       have o7 := k7'.own o6 (by simp)
       have oa7 := k7'.own oa6 (by simp)
       have hWo7 := k7'.own hWo (by simp)
       simp -implicitDefEqProofs (disch := (first | omega | (simp only [lq11] <;> omega) | fail)) only [admQ, lq11, aFill, AK.cls, implies_true, if_true, if_false, seval, -List.reduceReplicate, rowOf_own o6, rowOf_own o7, itC_t, hiC, rowOf_own hWo, rowOf_own hWo7, hWl, hel, hgt, Bool.not_true]
       refine Ans.mono (ans_lis (hP6.kept0 k7') (f i) w (rd_one rw6)) ?_
       rintro _ M8 ⟨rfl, k8'⟩
       have o8 := k8'.own o7 (by simp)
       have oa8 := k8'.own oa7 (by simp)
       have hWo8 := k8'.own hWo7 (by simp)
       rw [hs5.t]
       simp -implicitDefEqProofs (disch := (first | omega | (simp only [lq11] <;> omega) | fail)) only [admQ, lq11, aFill, AK.cls, implies_true, if_true, if_false, seval, -List.reduceReplicate, rowOf_own o6, rowOf_own o7, rowOf_own o8, itC_t, hiC, rowOf_own hWo, rowOf_own hWo7, rowOf_own hWo8, rowOf_own oa7, rowOf_own oa8, hus, hul, hWl, hel, hgt, Bool.not_true]
       exact hX' (i + 1) _ _ rfl (by omega) (hfin ((k6'.trans k7').trans k8'))
      ·have heq : ((i : Int) == (a : Int)) = true := by rw [beq_iff_eq]; omega
       have hb1 : (peekD x.v.d ((3 + a : Nat) : Int) == zb) = false := by rw [beq_eq_false_iff_ne]; exact fun h => hsame h.symm
       simp -implicitDefEqProofs (disch := (first | omega | (simp only [lq11] <;> omega) | fail)) only [admQ, lq11, aFill, AK.cls, implies_true, if_true, if_false, seval, -List.reduceReplicate, heq]
       refine (ans_samebytes rvo6 hz6 (by
        rcases hJ.seen (a := ((3 + a : Nat) : Int)) (by omega) with ⟨k, p, hs⟩ | hs
        ·have := hs.get.2.2.2.1; omega
        ·rw [hs]; simp)).mono ?_
       rintro _ M6' ⟨rfl, hM⟩
       subst hM
       rw [hb1]
       cases ho : whO y4 ((i / 32 : Nat) : Int) ((i % 32 : Nat) : Int) with
       | none =>
        simp only [Option.isSome_none]
        simp -implicitDefEqProofs (disch := (first | omega | (simp only [lq11] <;> omega) | fail)) only [admQ, lq11, aFill, AK.cls, implies_true, if_true, if_false, seval, -List.reduceReplicate]
        exact hX' (i + 1) _ _ rfl (by omega) (hfin k6')
       | some it =>
        have hgone := hs4.gone hJ (seg := ((i / 32 : Nat) : Int)) (slot := ((i % 32 : Nat) : Int)) (by omega) (by omega) (by rw [hsec, hia]) hsame (by omega) ho
        rw [ho] at o6 rw6
        simp only [Option.getD_some, Option.isSome_some] at o6 rw6 ⊢
        simp -implicitDefEqProofs (disch := (first | omega | (simp only [lq11] <;> omega) | fail)) only [admQ, lq11, aFill, AK.cls, implies_true, if_true, if_false, seval, -List.reduceReplicate, rowOf_own o6, itC_t, hiC]
        refine Ans.mono (ans_lis hP6 it w (rd_one rw6)) ?_
        rintro _ M8 ⟨rfl, k8'⟩
        rw [hs5.t, ← hs4.t, hgone]
        simp -implicitDefEqProofs (disch := (first | omega | (simp only [lq11] <;> omega) | fail)) only [admQ, lq11, aFill, AK.cls, implies_true, if_true, if_false, seval, -List.reduceReplicate]
        exact hX' (i + 1) _ _ rfl (by omega) (hfin (k6'.trans k8'))
     ·have hne : ((i : Int) == (a : Int)) = false := by rw [beq_eq_false_iff_ne]; omega
      have hwho := hs4.who hJ (seg := ((i / 32 : Nat) : Int)) (slot := ((i % 32 : Nat) : Int)) (by omega) (by omega) (.inl (by rw [hsec]; omega))
      rw [hwho, ← hf] at rw6 o6
      rw [hwho]
      generalize (whO x ((i / 32 : Nat) : Int) ((i % 32 : Nat) : Int)).isSome = ok at *
      simp -implicitDefEqProofs (disch := (first | omega | (simp only [lq11] <;> omega) | fail)) only [admQ, lq11, aFill, AK.cls, implies_true, if_true, if_false, seval, -List.reduceReplicate, hne, rowOf_own o6, itC_t, hiC, rowOf_own hWo, hWl, hel, hgt]
      refine (ans_sameitem rw6 g2 (by rw [hf]; exact whO_data _ _ _)).mono ?_
      rintro _ M7 ⟨rfl, k7'⟩
      have o7 := k7'.own o6 (by simp)
      have oa7 := k7'.own oa6 (by simp)
      have hWo7 := k7'.own hWo (by simp)
      simp -implicitDefEqProofs (disch := (first | omega | (simp only [lq11] <;> omega) | fail)) only [admQ, lq11, aFill, AK.cls, implies_true, if_true, if_false, seval, -List.reduceReplicate, rowOf_own o6, rowOf_own o7, itC_t, hiC, rowOf_own hWo, rowOf_own hWo7, hWl, hel, hgt, Bool.not_true]
      refine Ans.mono (ans_lis (hP6.kept0 k7') (f i) w (rd_one rw6)) ?_
      rintro _ M8 ⟨rfl, k8'⟩
      have o8 := k8'.own o7 (by simp)
      have oa8 := k8'.own oa7 (by simp)
      have hWo8 := k8'.own hWo7 (by simp)
      rw [hs5.t]
      simp -implicitDefEqProofs (disch := (first | omega | (simp only [lq11] <;> omega) | fail)) only [admQ, lq11, aFill, AK.cls, implies_true, if_true, if_false, seval, -List.reduceReplicate, rowOf_own o6, rowOf_own o7, rowOf_own o8, itC_t, hiC, rowOf_own hWo, rowOf_own hWo7, rowOf_own hWo8, rowOf_own oa7, rowOf_own oa8, hus, hul, hWl, hel, hgt, Bool.not_true]
      exact hX' (i + 1) _ _ rfl (by omega) (hfin ((k6'.trans k7').trans k8'))
    ·obtain rfl : i = 64 := by omega
     simp -implicitDefEqProofs (disch := (first | omega | (simp only [lq11] <;> omega) | fail)) only [admQ, lq11, aFill, AK.cls, implies_true, if_true, if_false, seval, -List.reduceReplicate]
     refine (ans_lvknown _).mono ?_
     rintro _ M18 ⟨rfl, -⟩
     simp -implicitDefEqProofs (disch := (first | omega | (simp only [lq11] <;> omega) | fail)) only [admQ, lq11, aFill, AK.cls, implies_true, if_true, if_false, seval, -List.reduceReplicate]
end Go.Proofs.YtehnkcnjmfbjpaaGreat
end
