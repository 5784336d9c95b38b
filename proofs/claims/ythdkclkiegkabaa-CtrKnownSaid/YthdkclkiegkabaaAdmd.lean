/- The rules of a walk, with the equations of what they speak of, as one. -/
import Derived.Test.YthdkclkiegkabaaAdmc
namespace Go.Adm
set_option maxRecDepth 100000
theorem cellsV_bool (b : Bool) : cellsV (.bool b) = [(.bool b)] := rfl
theorem solid_bool (b : Bool) : AV.solid (.bool b) = true := rfl
theorem cellsV_int (k : IntKind) (n : Int) : cellsV (.int k n) = [(.int k n)] := rfl
theorem solid_int (k : IntKind) (n : Int) : AV.solid (.int k n) = true := rfl
theorem cellsV_str (s : ByteArray) : cellsV (.str s) = [(.str s)] := rfl
theorem solid_str (s : ByteArray) : AV.solid (.str s) = true := rfl
theorem cellsV_nilp  : cellsV .nilp = [.nilp] := rfl
theorem solid_nilp  : AV.solid .nilp = true := rfl
theorem cellsV_ptr (b o : Nat) : cellsV (.ptr b o) = [(.ptr b o)] := rfl
theorem solid_ptr (b o : Nat) : AV.solid (.ptr b o) = true := rfl
theorem cellsV_nils  : cellsV .nils = [.nils] := rfl
theorem solid_nils  : AV.solid .nils = true := rfl
theorem cellsV_sl (b o len cap s : Nat) : cellsV (.sl b o len cap s) = [(.sl b o len cap s)] := rfl
theorem solid_sl (b o len cap s : Nat) : AV.solid (.sl b o len cap s) = true := rfl
theorem cellsV_mapn  : cellsV .mapn = [.mapn] := rfl
theorem solid_mapn  : AV.solid .mapn = true := rfl
theorem cellsV_map (b : Nat) : cellsV (.map b) = [(.map b)] := rfl
theorem solid_map (b : Nat) : AV.solid (.map b) = true := rfl
theorem cellsV_fn (f : Fn) (first captured : List AV) : cellsV (.fn f first captured) = [(.fn f first captured)] := rfl
theorem solid_fn (f : Fn) (first captured : List AV) : AV.solid (.fn f first captured) = true := rfl
theorem cellsV_nilf  : cellsV .nilf = [.nilf] := rfl
theorem solid_nilf  : AV.solid .nilf = true := rfl
theorem cellsV_nili  : cellsV .nili = [.nili] := rfl
theorem solid_nili  : AV.solid .nili = true := rfl
theorem cellsV_iface (t : TypeId) (v : AV) : cellsV (.iface t v) = [(.iface t v)] := rfl
theorem solid_iface (t : TypeId) (v : AV) : AV.solid (.iface t v) = true := rfl
theorem solid_agg (l : List AV) : AV.solid (.agg l) = true := rfl
theorem resVal_nil : resVal [] = .tup [] := rfl
theorem resVal_two (a b : AV) (l : List AV) : resVal (a :: b :: l) = .tup (a :: b :: l) := rfl
set_option linter.defProp false
def admQ := And.intro @Bool.false_eq_true (And.intro @beq_self_eq_true.{0} (And.intro @beq_true (And.intro @beq_false (And.intro @and_true (And.intro @true_and (And.intro @or_true (And.intro @true_or (And.intro @or_false (And.intro @false_or (And.intro @and_false (And.intro @false_and (And.intro @not_true_eq_false (And.intro @not_false_eq_true (And.intro @decide_true (And.intro @decide_false (And.intro @false_implies (And.intro @true_implies (And.intro @implies_true.{1} (And.intro @Int.cast_ofNat_Int (
  And.intro @wantedA.eq_1 (And.intro @wantedA.eq_2 (And.intro @evalAll.eq_1 (And.intro @evalAll.eq_2 (And.intro @AX.eval.eq_1 (And.intro @AX.eval.eq_2 (And.intro
  @AFr.get.eq_1 (And.intro @AFr.get.eq_2 (And.intro @AFr.set.eq_1 (And.intro @AFr.set.eq_2 (And.intro @AFr.put.eq_1 (And.intro @AFr.put.eq_2 (And.intro @AFr.cut.eq_1 (And.intro
  @AFr.cut.eq_2 (And.intro @frameOf.eq_1 (And.intro @frameOf.eq_2 (And.intro @AK.loud.eq_1 (And.intro @pMv.eq_1 (And.intro @pPick.eq_1 (And.intro @aPick.eq_1 (And.intro @aPick.eq_2
  (And.intro @pNil.eq_1 (And.intro @pNil.eq_2 (And.intro @pArith.eq_1 (And.intro @pShift.eq_1 (And.intro @pCmp.eq_1 (And.intro @pEq.eq_1 (And.intro @pEqAgg.eq_1 (And.intro
  @pNot.eq_1 (And.intro @pNeg.eq_1 (And.intro @pBnot.eq_1 (And.intro @pConv.eq_1 (And.intro @pArrPtr.eq_1 (And.intro @pSlice.eq_1 (And.intro @pSlice.eq_2 (And.intro @pSliceArr.eq_1
  (And.intro @pFieldAddr.eq_1 (And.intro @pPart.eq_1 (And.intro @pIdxAddr.eq_1 (And.intro @pIdxAddrArr.eq_1 (And.intro @pIdxArr.eq_1 (And.intro @pIdxStr.eq_1 (And.intro
  @pExtract.eq_1 (And.intro @pLenStr.eq_1 (And.intro @pLenArr.eq_1 (And.intro @pMin.eq_1 (And.intro @pMax.eq_1 (And.intro @pIface.eq_1 (And.intro @aArith.eq_1 (And.intro
  @aArith.eq_2 (And.intro @aArith.eq_3 (And.intro @aArith.eq_4 (And.intro @aArith.eq_5 (And.intro @aArith.eq_6 (And.intro @aArith.eq_7 (And.intro @aArith.eq_8 (And.intro
  @aArith.eq_9 (And.intro @aShift.eq_1 (And.intro @aShift.eq_2 (And.intro @aCmp.eq_1 (And.intro @aCmp.eq_2 (And.intro @aCmp.eq_3 (And.intro @aCmp.eq_4 (And.intro @aEq.eq_1
  (And.intro @aEq.eq_2 (And.intro @aEq.eq_3 (And.intro @aEq.eq_4 (And.intro @aEq.eq_5 (And.intro @aEq.eq_6 (And.intro @aEq.eq_7 (And.intro @aEq.eq_8 (And.intro @aEq.eq_9 (And.intro
  @aEq.eq_10 (And.intro @aEq.eq_11 (And.intro @aEq.eq_12 (And.intro @aEqCk.eq_1 (And.intro @aEqCk.eq_2 (And.intro @aEqCk.eq_3 (And.intro @aEqCells.eq_1 (And.intro @aEqCells.eq_2
  (And.intro @aPart.eq_1 (And.intro @aPart.eq_2 (And.intro @bounds.eq_1 (And.intro @bounds.eq_2 (And.intro @bounds.eq_3 (And.intro @bounds.eq_4 (And.intro @bounds.eq_5 (And.intro
  @bounds.eq_6 (And.intro @bnd.eq_1 (And.intro @rLoad.eq_1 (And.intro @mkAlloc.eq_1 (And.intro @mkBox.eq_1 (And.intro @mkMake.eq_1 (And.intro @w2.eq_1 (And.intro @aStore.eq_1
  (And.intro @cellsV.eq_1 (And.intro @undefA.eq_1 (And.intro @resAll.eq_1 (And.intro @resAll.eq_2 (And.intro @resOne.eq_1 (And.intro
  @resOne.eq_2 (And.intro @resVal.eq_1 (And.intro @pendOk.eq_1 (And.intro @pendOk.eq_2 (And.intro @pastOk.eq_1 (And.intro @pastOk.eq_2 (And.intro @pastOk.eq_3 (And.intro
  @cutCons.eq_1 (And.intro @cutCons.eq_2 (And.intro @cellsV_bool (And.intro @solid_bool (And.intro @cellsV_int (And.intro @solid_int (And.intro @cellsV_str (And.intro @solid_str
  (And.intro @cellsV_nilp (And.intro @solid_nilp (And.intro @cellsV_ptr (And.intro @solid_ptr (And.intro @cellsV_nils (And.intro @solid_nils (And.intro @cellsV_sl (And.intro
  @solid_sl (And.intro @cellsV_mapn (And.intro @solid_mapn (And.intro @cellsV_map (And.intro @solid_map (And.intro @cellsV_fn (And.intro @solid_fn (And.intro @cellsV_nilf (And.intro
  @solid_nilf (And.intro @cellsV_nili (And.intro @solid_nili (And.intro @cellsV_iface (And.intro @solid_iface (And.intro @solid_agg (And.intro @resVal_nil (And.intro @resVal_two
  (And.intro @List.append_assoc.{0} (And.intro @List.length_append.{0} (And.intro @List.set_cons_zero.{0} (And.intro @List.set_cons_succ.{0} (And.intro @List.singleton_append.{0}
  (And.intro @List.getElem?_cons_zero.{0} (And.intro @List.getElem?_cons_succ.{0} (And.intro @List.getElem?_nil.{0} (And.intro @Bool.and_true (And.intro @Bool.true_and (And.intro
  @Bool.false_and (And.intro @Bool.and_false (And.intro @Bool.or_true (And.intro @Bool.or_false (And.intro @Bool.true_or (And.intro @Bool.false_or (And.intro @Option.bind_some.{0,0}
  (And.intro @Option.map_some.{0,0} (And.intro @Option.bind_none.{0,0} (And.intro @Option.map_none.{0,0} (And.intro @Option.isSome_some.{0} (And.intro @List.length_nil.{0}
  (And.intro @List.length_cons.{0} (And.intro @List.nil_append.{0} (And.intro @List.cons_append.{0} (And.intro @Bool.not_true (And.intro @Bool.not_false (And.intro @Nat.zero_add
  (And.intro @Nat.add_zero (And.intro @Nat.mul_one (And.intro @List.append_nil.{0} (And.intro @Nat.sub_zero (And.intro @Nat.le_refl (And.intro @List.drop_zero.{0} (And.intro
  @List.length_replicate.{0} (And.intro @List.length_set.{0} (And.intro @List.take_zero.{0} (And.intro @List.take_succ_cons.{0} (And.intro @List.take_nil.{0} (And.intro
  @List.drop_succ_cons.{0} (And.intro @List.drop_nil.{0}
  (admP)))))))))))))))))))))))))))))))))))))))))))))))))))))))))))))))))))))))))))))))))))))))))))))))))))))))))))))))))))))))))))))))))))))))))))))))))))))))))))))))))))))))))))))))))))))))))))))))))))))))
/-- Lengths, for what is left to omega. -/
def lenB := And.intro @upTo_len ( And.intro @tab_len ( And.intro @List.length_replicate.{0} ( And.intro @List.length_set.{0} ( And.intro @List.length_map.{0,0} ( And.intro @List.length_cons.{0} ( And.intro @List.length_nil.{0} (@List.length_append.{0})))))))
end Go.Adm
