/- Texts of this seat, joined (part 4 of 6): an abstract memory for Go programs, this seat's functions as abstract code, and what each of them does. -/
import Derived.Test.YtmklcealhjmlgaaM3
set_option linter.unusedSimpArgs false
section
/- The tree of blocks: a block's ref, nodes. -/
namespace Go.Proofs.Ytmklcealhjmlgaa
open Go Go.Adm
set_option linter.unusedSimpArgs false
set_option maxRecDepth 100000
set_option maxHeartbeats 1000000
theorem aEq_rf' (r s : Rf) : aEqCells (List.replicate 33 .i) r.cells s.cells = some (r == s) := aEq_rf r s
theorem rf_zero' : [AV.int .i64 0] ++ List.replicate 32 (.int .u8 0) = Rf.zero.cells := rfl
theorem rf_zero'' : AV.int .i64 0 :: List.replicate 32 (.int .u8 0) = Rf.zero.cells := rfl
theorem splice_rf (a b : Rf) : splice a.cells 0 b.cells = b.cells := by
  simp [splice, Rf.cells_len, List.drop_of_length_le]
theorem take_rf (a : Rf) : a.cells.take 33 = a.cells := List.take_of_length_le (by rw [a.cells_len]; exact Nat.le_refl _)
theorem splice_nd (a b : Nd) : splice a.cells 0 b.cells = b.cells := by
  simp [splice, Nd.cells_len, List.drop_of_length_le]
theorem take_nd (a : Nd) : a.cells.take 34 = a.cells := List.take_of_length_le (by rw [a.cells_len]; exact Nat.le_refl _)
theorem drop_nd (a : Nd) : (a.cells.drop 1).take 33 = a.ref.cells := take_rf a.ref
theorem nd_st (a : Nd) : a.cells[0]? = some (.int .i64 a.st) := rfl
theorem nd_at (a : Nd) : a.cells[1]? = some (.int .i64 a.ref.at_) := rfl
theorem rf_at (a : Rf) : a.cells[0]? = some (.int .i64 a.at_) := rfl
def Tr.at (t : Tr) (k : Int) : Rf := if 0 ≤ k ∧ k < 64 then t.b k.toNat else Rf.zero
theorem Tr.at_nat (t : Tr) {k : Nat} (h : k < 64) : t.at (k : Int) = t.b k := by rw [Tr.at, if_pos (by omega), Int.toNat_natCast]
theorem Tr.at_out (t : Tr) {k : Int} (h : ¬ (0 ≤ k ∧ k < 64)) : t.at k = Rf.zero := by rw [Tr.at, if_neg h]

theorem ans_within (n lo hi : Int) (m : Mem) : Ans Try.prog 33 [.int .i64 n, .int .i64 lo, .int .i64 hi] m fun r m' => r = .bool (decide (lo ≤ n ∧ n ≤ hi)) ∧ m' = m := by
  refine ans_ret mixed ok33 ?_
  by_cases h1 : lo ≤ n
  · by_cases h2 : n ≤ hi
    · have d : decide (lo ≤ n ∧ n ≤ hi) = true := decide_eq_true ⟨h1, h2⟩
      simp -implicitDefEqProofs (disch := (first | omega | (simp only [lenB, Tr.row_len, Rf.cells_len, Nd.cells_len] <;> omega) | fail)) only [admQ, lenB, Tr.row_len, Rf.cells_len, Nd.cells_len, aFill, AK.cls, implies_true, ↓reduceIte, reduceCtorEq, if_true, if_false, Nat.reduceAdd, Nat.reduceEqDiff, Nat.reduceMod, Nat.reduceLT, Nat.reduceLeDiff, Nat.reduceSub, Nat.reduceMul, Nat.reduceBEq, Int.reduceAdd, Int.reduceSub, Int.reduceMul, Int.reduceNeg, Int.reduceLT, Int.reduceLE, Int.reduceToNat, Int.reduceEq, Int.reduceBEq, c33, r33, d, dec_t, dec_f]
    · have d : decide (lo ≤ n ∧ n ≤ hi) = false := decide_eq_false (fun h => h2 h.2)
      simp -implicitDefEqProofs (disch := (first | omega | (simp only [lenB, Tr.row_len, Rf.cells_len, Nd.cells_len] <;> omega) | fail)) only [admQ, lenB, Tr.row_len, Rf.cells_len, Nd.cells_len, aFill, AK.cls, implies_true, ↓reduceIte, reduceCtorEq, if_true, if_false, Nat.reduceAdd, Nat.reduceEqDiff, Nat.reduceMod, Nat.reduceLT, Nat.reduceLeDiff, Nat.reduceSub, Nat.reduceMul, Nat.reduceBEq, Int.reduceAdd, Int.reduceSub, Int.reduceMul, Int.reduceNeg, Int.reduceLT, Int.reduceLE, Int.reduceToNat, Int.reduceEq, Int.reduceBEq, c33, r33, d, dec_t, dec_f]
  · have d : decide (lo ≤ n ∧ n ≤ hi) = false := decide_eq_false (fun h => h1 h.1)
    simp -implicitDefEqProofs (disch := (first | omega | (simp only [lenB, Tr.row_len, Rf.cells_len, Nd.cells_len] <;> omega) | fail)) only [admQ, lenB, Tr.row_len, Rf.cells_len, Nd.cells_len, aFill, AK.cls, implies_true, ↓reduceIte, reduceCtorEq, if_true, if_false, Nat.reduceAdd, Nat.reduceEqDiff, Nat.reduceMod, Nat.reduceLT, Nat.reduceLeDiff, Nat.reduceSub, Nat.reduceMul, Nat.reduceBEq, Int.reduceAdd, Int.reduceSub, Int.reduceMul, Int.reduceNeg, Int.reduceLT, Int.reduceLE, Int.reduceToNat, Int.reduceEq, Int.reduceBEq, c33, r33, d, dec_t, dec_f]
theorem ans_has {m : Mem} {p : Nat} {t : Tr} (hp : own m p = some t.row) (k : Int) : Ans Try.prog 32 [.ptr p 0, .int .i64 k] m fun r m' => r = .bool (!(t.at k == Rf.zero)) ∧ m' = m := by
  refine ans_ret mixed ok32 ?_
  simp -implicitDefEqProofs (disch := (first | omega | (simp only [lenB, Tr.row_len, Rf.cells_len, Nd.cells_len] <;> omega) | fail)) only [admQ, lenB, Tr.row_len, Rf.cells_len, Nd.cells_len, aFill, AK.cls, implies_true, ↓reduceIte, reduceCtorEq, if_true, if_false, Nat.reduceAdd, Nat.reduceEqDiff, Nat.reduceMod, Nat.reduceLT, Nat.reduceLeDiff, Nat.reduceSub, Nat.reduceMul, Nat.reduceBEq, Int.reduceAdd, Int.reduceSub, Int.reduceMul, Int.reduceNeg, Int.reduceLT, Int.reduceLE, Int.reduceToNat, Int.reduceEq, Int.reduceBEq, c32, r32]
  refine (ans_within k 0 63 m).mono ?_
  rintro _ m' ⟨rfl, rfl⟩
  by_cases h : 0 ≤ k ∧ k < 64
  · obtain ⟨k, rfl⟩ := Int.eq_ofNat_of_zero_le h.1
    have hk : k < 64 := by omega
    have d : decide (0 ≤ (k : Int) ∧ (k : Int) ≤ 63) = true := decide_eq_true (by omega)
    have e := t.b_part hk
    have ez := aEq_rf' (t.b k) Rf.zero
    rw [t.at_nat hk]
    simp -implicitDefEqProofs (disch := (first | omega | (simp only [lenB, Tr.row_len, Rf.cells_len, Nd.cells_len] <;> omega) | fail)) only [admQ, lenB, Tr.row_len, Rf.cells_len, Nd.cells_len, aFill, AK.cls, implies_true, ↓reduceIte, reduceCtorEq, if_true, if_false, Nat.reduceAdd, Nat.reduceEqDiff, Nat.reduceMod, Nat.reduceLT, Nat.reduceLeDiff, Nat.reduceSub, Nat.reduceMul, Nat.reduceBEq, Int.reduceAdd, Int.reduceSub, Int.reduceMul, Int.reduceNeg, Int.reduceLT, Int.reduceLE, Int.reduceToNat, Int.reduceEq, Int.reduceBEq, rowOf_own hp, d, e, rf_zero, ez]
  · have d : decide (0 ≤ k ∧ k ≤ 63) = false := decide_eq_false (by omega)
    rw [t.at_out h]
    simp -implicitDefEqProofs (disch := (first | omega | (simp only [lenB, Tr.row_len, Rf.cells_len, Nd.cells_len] <;> omega) | fail)) only [admQ, lenB, Tr.row_len, Rf.cells_len, Nd.cells_len, aFill, AK.cls, implies_true, ↓reduceIte, reduceCtorEq, if_true, if_false, Nat.reduceAdd, Nat.reduceEqDiff, Nat.reduceMod, Nat.reduceLT, Nat.reduceLeDiff, Nat.reduceSub, Nat.reduceMul, Nat.reduceBEq, Int.reduceAdd, Int.reduceSub, Int.reduceMul, Int.reduceNeg, Int.reduceLT, Int.reduceLE, Int.reduceToNat, Int.reduceEq, Int.reduceBEq, d]
theorem ans_get {m : Mem} {p : Nat} {t : Tr} (hp : own m p = some t.row) (k : Int) : Ans Try.prog 14 [.ptr p 0, .int .i64 k] m fun r m' => r = .tup [.agg (t.at k).cells, .bool (!(t.at k == Rf.zero))] ∧ Kept [] m m' := by
  refine ans_ret mixed ok14 ?_
  simp -implicitDefEqProofs (disch := (first | omega | (simp only [lenB, Tr.row_len, Rf.cells_len, Nd.cells_len] <;> omega) | fail)) only [admQ, lenB, Tr.row_len, Rf.cells_len, Nd.cells_len, aFill, AK.cls, implies_true, ↓reduceIte, reduceCtorEq, if_true, if_false, Nat.reduceAdd, Nat.reduceEqDiff, Nat.reduceMod, Nat.reduceLT, Nat.reduceLeDiff, Nat.reduceSub, Nat.reduceMul, Nat.reduceBEq, Int.reduceAdd, Int.reduceSub, Int.reduceMul, Int.reduceNeg, Int.reduceLT, Int.reduceLE, Int.reduceToNat, Int.reduceEq, Int.reduceBEq, c14, r14, rf_zero]
  refine (ans_has (own_app hp _) k).mono ?_
  rintro _ m' ⟨rfl, rfl⟩
  by_cases hz : t.at k = Rf.zero
  · simp -implicitDefEqProofs (disch := (first | omega | (simp only [lenB, Tr.row_len, Rf.cells_len, Nd.cells_len] <;> omega) | fail)) only [admQ, lenB, Tr.row_len, Rf.cells_len, Nd.cells_len, aFill, AK.cls, implies_true, ↓reduceIte, reduceCtorEq, if_true, if_false, Nat.reduceAdd, Nat.reduceEqDiff, Nat.reduceMod, Nat.reduceLT, Nat.reduceLeDiff, Nat.reduceSub, Nat.reduceMul, Nat.reduceBEq, Int.reduceAdd, Int.reduceSub, Int.reduceMul, Int.reduceNeg, Int.reduceLT, Int.reduceLE, Int.reduceToNat, Int.reduceEq, Int.reduceBEq, hz, rf_zero, beq_self_eq_true, splice_rf, take_rf]
    exact .app _ _ _
  · have h : 0 ≤ k ∧ k < 64 := Classical.byContradiction fun h => hz (t.at_out h)
    obtain ⟨k, rfl⟩ := Int.eq_ofNat_of_zero_le h.1
    have hk : k < 64 := by omega
    rw [t.at_nat hk] at *
    have e := t.b_part hk
    simp -implicitDefEqProofs (disch := (first | omega | (simp only [lenB, Tr.row_len, Rf.cells_len, Nd.cells_len] <;> omega) | fail)) only [admQ, lenB, Tr.row_len, Rf.cells_len, Nd.cells_len, aFill, AK.cls, implies_true, ↓reduceIte, reduceCtorEq, if_true, if_false, Nat.reduceAdd, Nat.reduceEqDiff, Nat.reduceMod, Nat.reduceLT, Nat.reduceLeDiff, Nat.reduceSub, Nat.reduceMul, Nat.reduceBEq, Int.reduceAdd, Int.reduceSub, Int.reduceMul, Int.reduceNeg, Int.reduceLT, Int.reduceLE, Int.reduceToNat, Int.reduceEq, Int.reduceBEq, rowOf_own (own_app hp _), e, rf_zero, beq_eq_false_iff_ne.mpr hz, splice_rf, take_rf]
    exact .app _ _ _
theorem ans_leaf (k : Nat) (hk : k < 64) (m : Mem) : Ans Try.prog 50 [.int .i64 k] m fun r m' => r = .tup [.int .i64 (k / 8 + 1 : Nat), .int .i64 (k % 8 : Nat)] ∧ m' = m := by
  refine ans_ret mixed ok50 ?_
  simp -implicitDefEqProofs (disch := (first | omega | (simp only [lenB, Tr.row_len, Rf.cells_len, Nd.cells_len] <;> omega) | fail)) only [admQ, lenB, Tr.row_len, Rf.cells_len, Nd.cells_len, aFill, AK.cls, implies_true, ↓reduceIte, reduceCtorEq, if_true, if_false, Nat.reduceAdd, Nat.reduceEqDiff, Nat.reduceMod, Nat.reduceLT, Nat.reduceLeDiff, Nat.reduceSub, Nat.reduceMul, Nat.reduceBEq, Int.reduceAdd, Int.reduceSub, Int.reduceMul, Int.reduceNeg, Int.reduceLT, Int.reduceLE, Int.reduceToNat, Int.reduceEq, Int.reduceBEq, c50, r50, dec_t, dec_f]
end Go.Proofs.Ytmklcealhjmlgaa
end
section
/- The tree of blocks: nodes become dirty. -/
namespace Go.Proofs.Ytmklcealhjmlgaa
open Go Go.Adm
set_option linter.unusedSimpArgs false
set_option maxRecDepth 100000
set_option maxHeartbeats 1000000
def nats (l : List Nat) : List AV := l.map fun i : Nat => AV.int .i64 (i : Int)
theorem nats_get {l : List Nat} {i v : Nat} (h : l[i]? = some v) : (nats l)[i]? = some (.int .i64 (v : Int)) := by simp [nats, h]
theorem nats_len (l : List Nat) : (nats l).length = l.length := by simp [nats]
def Nd.dirty : Nd := ⟨2, Rf.zero⟩
def Nd.none : Nd := ⟨0, Rf.zero⟩
theorem nd_zero : AV.int .i64 0 :: .int .i64 0 :: bys (List.replicate 32 0#8) = Nd.none.cells := rfl
theorem nd_dirty : AV.int .i64 2 :: .int .i64 0 :: bys (List.replicate 32 0#8) = Nd.dirty.cells := rfl
theorem nd_dirt : splice Nd.none.cells 0 [.int .i64 2] = Nd.dirty.cells := rfl
theorem nd_zero2 : AV.int .i64 0 :: Rf.zero.cells = Nd.none.cells := rfl
def Tr.gone (t : Tr) (i : Nat) : List Rf := if (t.n i).st = 1 ∧ 0 < (t.n i).ref.at_ then [(t.n i).ref] else []
def Tr.spoilT (t : Tr) : List Nat → Tr
  | [] => t
  | i :: l => (t.setN i Nd.dirty).spoilT l
def Tr.spoilR (t : Tr) : List Nat → List Rf
  | [] => []
  | i :: l => t.gone i ++ (t.setN i Nd.dirty).spoilR l
abbrev RfL := GrL Rf.cells 33

theorem ans_spoil {m : Mem} {p q : Nat} {t : Tr} (hp : own m p = some t.row) (idx : List Nat) (hi : ∀ i ∈ idx, i < 9) (hq : own m q = some (nats idx)) (hk : idx.length ≤ 9) :
    Ans Try.prog 51 [.ptr p 0, .sl q 0 idx.length idx.length 0] m fun r m' => RfL m.length m' r (t.spoilR idx) ∧ Kept [p] m m' ∧ own m' p = some (t.spoilT idx).row := by
  refine ans_ret mixed ok51 ?_
  have hpq : q ≠ p := by
    rintro rfl
    rw [hp, Option.some.injEq] at hq
    have := congrArg List.length hq
    rw [t.row_len, nats_len] at this
    omega
  have hpl := own_lt hp
  generalize hn : idx.length = n at *
  simp -implicitDefEqProofs (disch := (first | omega | (simp only [lenB, Tr.row_len, Rf.cells_len, Nd.cells_len] <;> omega) | fail)) only [admQ, lenB, Tr.row_len, Rf.cells_len, Nd.cells_len, aFill, AK.cls, implies_true, ↓reduceIte, reduceCtorEq, if_true, if_false, Nat.reduceAdd, Nat.reduceEqDiff, Nat.reduceMod, Nat.reduceLT, Nat.reduceLeDiff, Nat.reduceSub, Nat.reduceMul, Nat.reduceBEq, Int.reduceAdd, Int.reduceSub, Int.reduceMul, Int.reduceNeg, Int.reduceLT, Int.reduceLE, Int.reduceToNat, Int.reduceEq, Int.reduceBEq, c51, r51]
  refine LoopW.on (fun s : Nat × AV × Tr × List Rf => [(0, .ptr p 0), (5, s.2.1), (9, .sl q 0 n n 0), (10, .int .i64 n), (11, .int .i64 s.1)]) (fun s => n - s.1)
    (fun s m' => s.1 ≤ n ∧ Kept [p] m m' ∧ own m' p = some s.2.2.1.row ∧ RfL m.length m' s.2.1 s.2.2.2 ∧ s.2.2.2 ++ s.2.2.1.spoilR (idx.drop s.1) = t.spoilR idx ∧ s.2.2.1.spoilT (idx.drop s.1) = t.spoilT idx ∧ s.2.2.2.length ≤ s.1) ?_ (0, .nils, t, []) _ _ rfl ⟨by omega, .refl _ _, hp, .nils .., rfl, rfl, by simp⟩
  rintro ⟨j, x, t', l⟩ m' X ⟨hj, hkk, hp', hx, hr, ht, hl⟩ hX
  dsimp only at hj hkk hp' hx hr ht hl hX ⊢
  by_cases hlt : j < n
  · have hjj : j < idx.length := by omega
    obtain ⟨i, hij⟩ : ∃ i, idx[j]? = some i := ⟨_, List.getElem?_eq_getElem hjj⟩
    have hi9 : i < 9 := hi i (List.mem_of_getElem? hij)
    have hd : idx.drop j = i :: idx.drop (j + 1) := by
      rw [List.drop_eq_getElem_cons hjj]; rw [List.getElem?_eq_getElem hjj, Option.some.injEq] at hij; rw [hij]
    rw [hd] at hr ht
    simp only [Tr.spoilR, Tr.spoilT] at hr ht
    have hq' := hkk.own hq (by simpa using hpq)
    have e1 := nats_get hij
    have e2 := t'.n_part hi9
    have hpm := own_lt hp'
    have hs := t'.setN_row hi9 Nd.dirty
    by_cases hc : (t'.n i).st = 1 ∧ 0 < (t'.n i).ref.at_
    · have hg : t'.gone i = [(t'.n i).ref] := if_pos hc
      have hxp := fun b hb => Nat.ne_of_gt (Nat.lt_of_lt_of_le hpl (hx.blk b hb))
      have hxx := hx.kept0 (.app [] m' [.row (t'.n i).cells false])
      obtain ⟨x', m2, ha, hg2, hk2, hf2, hb2⟩ := hxx.push (bytes := 40) Rf.cells_len (by omega) (t'.n i).ref (by omega) (by have := hkk.len; simp; omega)
      rw [List.length_append, List.append_assoc] at ha
      simp only [List.length_singleton, List.singleton_append] at ha
      have hp2 := hk2.own (own_app hp' _) (fun h => hxp p h rfl)
      have hf3 := hf2 [p] m (hkk.more_app _) (Nat.le_refl _)
      have hlen : p < m2.length := own_lt hp2
      simp -implicitDefEqProofs (disch := (first | omega | (simp only [lenB, Tr.row_len, Rf.cells_len, Nd.cells_len] <;> omega) | fail)) only [admQ, lenB, Tr.row_len, Rf.cells_len, Nd.cells_len, aFill, AK.cls, implies_true, ↓reduceIte, reduceCtorEq, if_true, if_false, Nat.reduceAdd, Nat.reduceEqDiff, Nat.reduceMod, Nat.reduceLT, Nat.reduceLeDiff, Nat.reduceSub, Nat.reduceMul, Nat.reduceBEq, Int.reduceAdd, Int.reduceSub, Int.reduceMul, Int.reduceNeg, Int.reduceLT, Int.reduceLE, Int.reduceToNat, Int.reduceEq, Int.reduceBEq, rowOf_own hq', rowOf_own hp', own_app hp', e1, e2, nd_zero, nd_dirty, splice_nd, take_nd, drop_nd, nd_st, nd_at, hc.1, beq_self_eq_true, dec_t, dec_f, nd_dirt, hs, rf_zero, nd_zero2, splice_rf, ha, hp2]
      exact hX (j + 1, x', t'.setN i Nd.dirty, l ++ [(t'.n i).ref]) _ _ rfl (by simp; omega) ⟨by simp; omega, hf3.trans (.set1 _ _ _), own_set hlen _, hg2.kept (.set1 _ _ _) (fun b hb => by have := hb2 b hb; simp at this; simp; omega), by rw [List.append_assoc, ← hg]; exact hr, ht, by simp; omega⟩
    · have hg : t'.gone i = [] := if_neg hc
      have hfin : ∀ m2, m2 = List.set (m' ++ [.row (t'.n i).cells false]) p (.row (t'.setN i Nd.dirty).row false) → Kept [p] m m2 ∧ own m2 p = some (t'.setN i Nd.dirty).row ∧ RfL m.length m2 x l := by
        rintro _ rfl
        have h1 : Kept [p] m' (m' ++ [.row (t'.n i).cells false]) := .app _ _ _
        have h2 := h1.trans (.set1 _ p (.row (t'.setN i Nd.dirty).row false))
        exact ⟨hkk.trans h2, own_set (own_lt (own_app hp' _)) _, hx.kept h2 (fun b hb => by have := hx.blk b hb; simp; omega)⟩
      by_cases hc1 : (t'.n i).st = 1
      · have hc2 : ¬ 0 < (t'.n i).ref.at_ := fun h => hc ⟨hc1, h⟩
        simp -implicitDefEqProofs (disch := (first | omega | (simp only [lenB, Tr.row_len, Rf.cells_len, Nd.cells_len] <;> omega) | fail)) only [admQ, lenB, Tr.row_len, Rf.cells_len, Nd.cells_len, aFill, AK.cls, implies_true, ↓reduceIte, reduceCtorEq, if_true, if_false, Nat.reduceAdd, Nat.reduceEqDiff, Nat.reduceMod, Nat.reduceLT, Nat.reduceLeDiff, Nat.reduceSub, Nat.reduceMul, Nat.reduceBEq, Int.reduceAdd, Int.reduceSub, Int.reduceMul, Int.reduceNeg, Int.reduceLT, Int.reduceLE, Int.reduceToNat, Int.reduceEq, Int.reduceBEq, rowOf_own hq', rowOf_own hp', own_app hp', e1, e2, nd_zero, nd_dirty, splice_nd, take_nd, nd_st, nd_at, hc1, beq_self_eq_true, dec_t, dec_f, nd_dirt, hs]
        obtain ⟨f1, f2, f3⟩ := hfin _ rfl
        exact hX (j + 1, x, t'.setN i Nd.dirty, l) _ _ rfl (by simp; omega) ⟨by simp; omega, f1, f2, f3, by rw [hg] at hr; exact hr, ht, by simp; omega⟩
      · simp -implicitDefEqProofs (disch := (first | omega | (simp only [lenB, Tr.row_len, Rf.cells_len, Nd.cells_len] <;> omega) | fail)) only [admQ, lenB, Tr.row_len, Rf.cells_len, Nd.cells_len, aFill, AK.cls, implies_true, ↓reduceIte, reduceCtorEq, if_true, if_false, Nat.reduceAdd, Nat.reduceEqDiff, Nat.reduceMod, Nat.reduceLT, Nat.reduceLeDiff, Nat.reduceSub, Nat.reduceMul, Nat.reduceBEq, Int.reduceAdd, Int.reduceSub, Int.reduceMul, Int.reduceNeg, Int.reduceLT, Int.reduceLE, Int.reduceToNat, Int.reduceEq, Int.reduceBEq, rowOf_own hq', rowOf_own hp', own_app hp', e1, e2, nd_zero, nd_dirty, splice_nd, take_nd, nd_st, nd_at, beq_eq_false_iff_ne.mpr hc1, nd_dirt, hs]
        obtain ⟨f1, f2, f3⟩ := hfin _ rfl
        exact hX (j + 1, x, t'.setN i Nd.dirty, l) _ _ rfl (by simp; omega) ⟨by simp; omega, f1, f2, f3, by rw [hg] at hr; exact hr, ht, by simp; omega⟩
  · obtain rfl : j = n := by omega
    rw [List.drop_eq_nil_of_le (by omega)] at hr ht
    simp only [Tr.spoilR, Tr.spoilT, List.append_nil] at hr ht
    simp -implicitDefEqProofs (disch := (first | omega | (simp only [lenB, Tr.row_len, Rf.cells_len, Nd.cells_len] <;> omega) | fail)) only [admQ, lenB, Tr.row_len, Rf.cells_len, Nd.cells_len, aFill, AK.cls, implies_true, ↓reduceIte, reduceCtorEq, if_true, if_false, Nat.reduceAdd, Nat.reduceEqDiff, Nat.reduceMod, Nat.reduceLT, Nat.reduceLeDiff, Nat.reduceSub, Nat.reduceMul, Nat.reduceBEq, Int.reduceAdd, Int.reduceSub, Int.reduceMul, Int.reduceNeg, Int.reduceLT, Int.reduceLE, Int.reduceToNat, Int.reduceEq, Int.reduceBEq]
    exact ⟨by rw [← hr]; exact hx, hkk, by rw [← ht]; exact hp'⟩
end Go.Proofs.Ytmklcealhjmlgaa
end
section
/- The tree of blocks: a block is set. -/
namespace Go.Proofs.Ytmklcealhjmlgaa
open Go Go.Adm
set_option linter.unusedSimpArgs false
set_option maxRecDepth 100000
set_option maxHeartbeats 1000000
def Tr.old (t : Tr) (k : Nat) : List Rf := if t.b k = Rf.zero then [] else [t.b k]
def Tr.setOk (k : Int) (r : Rf) : Prop := (0 ≤ k ∧ k < 64) ∧ 1 ≤ r.at_
instance (k : Int) (r : Rf) : Decidable (Tr.setOk k r) := inferInstanceAs (Decidable (_ ∧ _))
def Tr.setT (t : Tr) (k : Int) (r : Rf) : Tr := if Tr.setOk k r then (t.setB k.toNat r).spoilT [k.toNat / 8 + 1, 0] else t
def Tr.setR (t : Tr) (k : Int) (r : Rf) : List Rf := if Tr.setOk k r then t.old k.toNat ++ (t.setB k.toNat r).spoilR [k.toNat / 8 + 1, 0] else []

theorem Tr.gone_len (t : Tr) (i : Nat) : (t.gone i).length ≤ 1 := by unfold Tr.gone; split <;> simp
theorem Tr.spoilR_len (l : List Nat) : ∀ t : Tr, (t.spoilR l).length ≤ l.length := by
  induction l with
  | nil => intro t; simp [Tr.spoilR]
  | cons i l ih => intro t; have := ih (t.setN i Nd.dirty); have := t.gone_len i; simp [Tr.spoilR]; omega
theorem Tr.old_len (t : Tr) (k : Nat) : (t.old k).length ≤ 1 := by unfold Tr.old; split <;> simp
def setTail : ACode := tlC (tlC (tlC (tlC c29)))
theorem setCode : c29 = .seq (hdC c29) (.seq (hdC (tlC c29)) (.seq (hdC (tlC (tlC c29))) (.seq (hdC (tlC (tlC (tlC c29)))) setTail))) := rfl
theorem set_tail {m M : Mem} {p q : Nat} {t : Tr} {x : AV} {old : List Rf} {k : Nat} {r : Rf} (hkM : Kept [p] m M) (hp : own M p = some t.row) (hq : own M q = some r.cells) (hx : RfL m.length M x old) (hold : old.length ≤ 1) (hm : p < m.length) (hk : k < 64) {e : AFr} (he : e = [] ∨ e = [(20, .bool false)]) :
    wpA Try.prog setTail ((0, .ptr p 0) :: (1, .int .i64 k) :: (5, .ptr q 0) :: (7, x) :: e) M (retQ [.tmp 6] fun x' m' => RfL m.length m' x' (old ++ (t.setB k r).spoilR [k / 8 + 1, 0]) ∧ Kept [p] m m' ∧ own m' p = some ((t.setB k r).spoilT [k / 8 + 1, 0]).row) := by
  rcases he with rfl | rfl
  all_goals
    simp only [setTail, tlC, c29]
    have hs := t.setB_row hk r
    simp -implicitDefEqProofs (disch := (first | omega | (simp only [lenB, Tr.row_len, Rf.cells_len, Nd.cells_len] <;> omega) | fail)) only [admQ, lenB, Tr.row_len, Rf.cells_len, Nd.cells_len, aFill, AK.cls, implies_true, ↓reduceIte, reduceCtorEq, if_true, if_false, Nat.reduceAdd, Nat.reduceEqDiff, Nat.reduceMod, Nat.reduceLT, Nat.reduceLeDiff, Nat.reduceSub, Nat.reduceMul, Nat.reduceBEq, Int.reduceAdd, Int.reduceSub, Int.reduceMul, Int.reduceNeg, Int.reduceLT, Int.reduceLE, Int.reduceToNat, Int.reduceEq, Int.reduceBEq, rowOf_own hq, hp, take_rf, hs]
    have hp1 : own (List.set M p (.row (t.setB k r).row false)) p = some (t.setB k r).row := own_set (own_lt hp) _
    have hk1 := hkM.trans (.set1 M p (.row (t.setB k r).row false))
    have hx1 := hx.kept (.set1 M p (.row (t.setB k r).row false)) (fun b hb => by have := hx.blk b hb; simp; omega)
    generalize List.set M p (Blk.row (t.setB k r).row false) = M1 at *
    refine (ans_leaf k hk M1).mono ?_
    rintro _ m' ⟨rfl, rfl⟩
    simp -implicitDefEqProofs (disch := (first | omega | (simp only [lenB, Tr.row_len, Rf.cells_len, Nd.cells_len] <;> omega) | fail)) only [admQ, lenB, Tr.row_len, Rf.cells_len, Nd.cells_len, aFill, AK.cls, implies_true, ↓reduceIte, reduceCtorEq, if_true, if_false, Nat.reduceAdd, Nat.reduceEqDiff, Nat.reduceMod, Nat.reduceLT, Nat.reduceLeDiff, Nat.reduceSub, Nat.reduceMul, Nat.reduceBEq, Int.reduceAdd, Int.reduceSub, Int.reduceMul, Int.reduceNeg, Int.reduceLT, Int.reduceLE, Int.reduceToNat, Int.reduceEq, Int.reduceBEq]
    have hl1 := hk1.len
    refine (ans_spoil (own_app hp1 _) [k / 8 + 1, 0] (by simp; omega) (q := m'.length) (by rw [own_app_at0]; rfl) (by simp)).mono ?_
    rintro y M2 ⟨hy, hk2, hp2⟩
    have hk2' : Kept [p] m' M2 := (Kept.app [p] m' _).trans hk2
    have hx2 := hx1.kept hk2' (fun b hb => by have := hx.blk b hb; simp; omega)
    have hsl := (t.setB k r).spoilR_len [k / 8 + 1, 0]
    have hl2 := hk2'.len
    obtain ⟨z, M3, ha, hg3, hk3, hf3, -, -⟩ := hx2.pushs (bytes := 40) Rf.cells_len (by omega) hy (by simp at hsl; omega) (by omega)
    simp -implicitDefEqProofs (disch := (first | omega | (simp only [lenB, Tr.row_len, Rf.cells_len, Nd.cells_len] <;> omega) | fail)) only [admQ, lenB, Tr.row_len, Rf.cells_len, Nd.cells_len, aFill, AK.cls, implies_true, ↓reduceIte, reduceCtorEq, if_true, if_false, Nat.reduceAdd, Nat.reduceEqDiff, Nat.reduceMod, Nat.reduceLT, Nat.reduceLeDiff, Nat.reduceSub, Nat.reduceMul, Nat.reduceBEq, Int.reduceAdd, Int.reduceSub, Int.reduceMul, Int.reduceNeg, Int.reduceLT, Int.reduceLE, Int.reduceToNat, Int.reduceEq, Int.reduceBEq, ha]
    exact ⟨hg3, hf3 _ _ (hk1.trans hk2') (Nat.le_refl _), hk3.own hp2 (fun h => by have := hx.blk _ h; omega)⟩

theorem ans_set {m : Mem} {p : Nat} {t : Tr} (hp : own m p = some t.row) (k : Int) (r : Rf) :
    Ans Try.prog 29 [.ptr p 0, .int .i64 k, .agg r.cells] m fun x m' => RfL m.length m' x (t.setR k r) ∧ Kept [p] m m' ∧ own m' p = some (t.setT k r).row := by
  refine ans_ret mixed ok29 ?_
  have hpl := own_lt hp
  rw [setCode]
  simp -implicitDefEqProofs (disch := (first | omega | (simp only [lenB, Tr.row_len, Rf.cells_len, Nd.cells_len] <;> omega) | fail)) only [admQ, lenB, Tr.row_len, Rf.cells_len, Nd.cells_len, aFill, AK.cls, implies_true, ↓reduceIte, reduceCtorEq, if_true, if_false, Nat.reduceAdd, Nat.reduceEqDiff, Nat.reduceMod, Nat.reduceLT, Nat.reduceLeDiff, Nat.reduceSub, Nat.reduceMul, Nat.reduceBEq, Int.reduceAdd, Int.reduceSub, Int.reduceMul, Int.reduceNeg, Int.reduceLT, Int.reduceLE, Int.reduceToNat, Int.reduceEq, Int.reduceBEq, hdC, tlC, c29, r29]
  refine (ans_within k 0 63 _).mono ?_
  rintro _ m' ⟨rfl, rfl⟩
  by_cases h : 0 ≤ k ∧ k < 64
  · obtain ⟨k, rfl⟩ := Int.eq_ofNat_of_zero_le h.1
    have hk : k < 64 := by omega
    have d : decide (0 ≤ (k : Int) ∧ (k : Int) ≤ 63) = true := decide_eq_true (by omega)
    by_cases hr : r.at_ < 1
    · rw [Tr.setR, Tr.setT, if_neg (fun h => by have := h.2; omega), if_neg (fun h => by have := h.2; omega)]
      simp -implicitDefEqProofs (disch := (first | omega | (simp only [lenB, Tr.row_len, Rf.cells_len, Nd.cells_len] <;> omega) | fail)) only [admQ, lenB, Tr.row_len, Rf.cells_len, Nd.cells_len, aFill, AK.cls, implies_true, ↓reduceIte, reduceCtorEq, if_true, if_false, Nat.reduceAdd, Nat.reduceEqDiff, Nat.reduceMod, Nat.reduceLT, Nat.reduceLeDiff, Nat.reduceSub, Nat.reduceMul, Nat.reduceBEq, Int.reduceAdd, Int.reduceSub, Int.reduceMul, Int.reduceNeg, Int.reduceLT, Int.reduceLE, Int.reduceToNat, Int.reduceEq, Int.reduceBEq, d, rf_at, dec_t, dec_f]
      exact ⟨.nils .., .app _ _ _, own_app hp _⟩
    · have ho : Tr.setOk k r := ⟨h, by omega⟩
      rw [Tr.setR, Tr.setT, if_pos ho, if_pos ho, Int.toNat_natCast]
      simp -implicitDefEqProofs (disch := (first | omega | (simp only [lenB, Tr.row_len, Rf.cells_len, Nd.cells_len] <;> omega) | fail)) only [admQ, lenB, Tr.row_len, Rf.cells_len, Nd.cells_len, aFill, AK.cls, implies_true, ↓reduceIte, reduceCtorEq, if_true, if_false, Nat.reduceAdd, Nat.reduceEqDiff, Nat.reduceMod, Nat.reduceLT, Nat.reduceLeDiff, Nat.reduceSub, Nat.reduceMul, Nat.reduceBEq, Int.reduceAdd, Int.reduceSub, Int.reduceMul, Int.reduceNeg, Int.reduceLT, Int.reduceLE, Int.reduceToNat, Int.reduceEq, Int.reduceBEq, d, rf_at, dec_t, dec_f]
      refine (ans_has (own_app hp _) k).mono ?_
      rintro _ M ⟨rfl, rfl⟩
      rw [t.at_nat hk]
      have hkM : Kept [p] m (m ++ [.row r.cells false]) := .app _ _ _
      have hq : own (m ++ [.row r.cells false]) m.length = some r.cells := by rw [own_app_at0]; rfl
      have hpM := own_app hp [.row r.cells false]
      have hlM : (m ++ [Blk.row r.cells false]).length = m.length + 1 := by simp
      generalize m ++ [Blk.row r.cells false] = M at *
      by_cases hz : t.b k = Rf.zero
      · simp -implicitDefEqProofs (disch := (first | omega | (simp only [lenB, Tr.row_len, Rf.cells_len, Nd.cells_len] <;> omega) | fail)) only [admQ, lenB, Tr.row_len, Rf.cells_len, Nd.cells_len, aFill, AK.cls, implies_true, ↓reduceIte, reduceCtorEq, if_true, if_false, Nat.reduceAdd, Nat.reduceEqDiff, Nat.reduceMod, Nat.reduceLT, Nat.reduceLeDiff, Nat.reduceSub, Nat.reduceMul, Nat.reduceBEq, Int.reduceAdd, Int.reduceSub, Int.reduceMul, Int.reduceNeg, Int.reduceLT, Int.reduceLE, Int.reduceToNat, Int.reduceEq, Int.reduceBEq, hz, beq_self_eq_true]
        rw [Tr.old, if_pos hz]
        exact set_tail hkM hpM hq (.nils ..) (by simp) hpl hk (.inr rfl)
      · have e := t.b_part hk
        obtain ⟨x', m2, ha, hg2, hk2, hf2, hb2⟩ := (GrL.nils Rf.cells 33 m.length M).push (bytes := 40) Rf.cells_len (by omega) (t.b k) (by simp) (by omega)
        simp -implicitDefEqProofs (disch := (first | omega | (simp only [lenB, Tr.row_len, Rf.cells_len, Nd.cells_len] <;> omega) | fail)) only [admQ, lenB, Tr.row_len, Rf.cells_len, Nd.cells_len, aFill, AK.cls, implies_true, ↓reduceIte, reduceCtorEq, if_true, if_false, Nat.reduceAdd, Nat.reduceEqDiff, Nat.reduceMod, Nat.reduceLT, Nat.reduceLeDiff, Nat.reduceSub, Nat.reduceMul, Nat.reduceBEq, Int.reduceAdd, Int.reduceSub, Int.reduceMul, Int.reduceNeg, Int.reduceLT, Int.reduceLE, Int.reduceToNat, Int.reduceEq, Int.reduceBEq, beq_eq_false_iff_ne.mpr hz, rowOf_own hpM, e, rf_zero, splice_rf, ha]
        rw [Tr.old, if_neg hz]
        exact set_tail (hf2 _ _ hkM (Nat.le_refl _)) (hk2.own hpM (by simp [blkOf])) (hk2.own hq (by simp [blkOf])) hg2 (by simp) hpl hk (.inl rfl)
  · rw [Tr.setR, Tr.setT, if_neg (fun h' => h h'.1), if_neg (fun h' => h h'.1)]
    have d : decide (0 ≤ k ∧ k ≤ 63) = false := decide_eq_false (by omega)
    simp -implicitDefEqProofs (disch := (first | omega | (simp only [lenB, Tr.row_len, Rf.cells_len, Nd.cells_len] <;> omega) | fail)) only [admQ, lenB, Tr.row_len, Rf.cells_len, Nd.cells_len, aFill, AK.cls, implies_true, ↓reduceIte, reduceCtorEq, if_true, if_false, Nat.reduceAdd, Nat.reduceEqDiff, Nat.reduceMod, Nat.reduceLT, Nat.reduceLeDiff, Nat.reduceSub, Nat.reduceMul, Nat.reduceBEq, Int.reduceAdd, Int.reduceSub, Int.reduceMul, Int.reduceNeg, Int.reduceLT, Int.reduceLE, Int.reduceToNat, Int.reduceEq, Int.reduceBEq, d, dec_t, dec_f]
    exact ⟨.nils .., .app _ _ _, own_app hp _⟩
end Go.Proofs.Ytmklcealhjmlgaa
end
section
/- The tree of blocks: is a leaf empty; a node's ref. -/
namespace Go.Proofs.Ytmklcealhjmlgaa
open Go Go.Adm
set_option linter.unusedSimpArgs false
set_option maxRecDepth 100000
set_option maxHeartbeats 1000000
theorem ans_empty1 (r : Rf) (m : Mem) : Ans Try.prog 64 [.agg r.cells] m fun x m' => x = .bool (!(r == Rf.zero)) ∧ Kept [] m m' := by
  refine ans_ret mixed ok64 ?_
  have ez := aEq_rf' r Rf.zero
  simp -implicitDefEqProofs (disch := (first | omega | (simp only [lenB, Tr.row_len, Rf.cells_len, Nd.cells_len] <;> omega) | fail)) only [admQ, lenB, Tr.row_len, Rf.cells_len, Nd.cells_len, aFill, AK.cls, implies_true, ↓reduceIte, reduceCtorEq, if_true, if_false, Nat.reduceAdd, Nat.reduceEqDiff, Nat.reduceMod, Nat.reduceLT, Nat.reduceLeDiff, Nat.reduceSub, Nat.reduceMul, Nat.reduceBEq, Int.reduceAdd, Int.reduceSub, Int.reduceMul, Int.reduceNeg, Int.reduceLT, Int.reduceLE, Int.reduceToNat, Int.reduceEq, Int.reduceBEq, c64, r64, take_rf, rf_zero, ez]
  exact .app _ _ _
/-- Elements of a slice of refs. -/
def SlR (m : Mem) (p o n : Nat) (rs : Nat → Rf) : Prop := ∃ cells, rowOf m p = some cells ∧ o + n * 33 ≤ cells.length ∧ ∀ i, i < n → (cells.drop (o + i * 33)).take 33 = (rs i).cells
theorem SlR.kept0 {m m' : Mem} {p o n : Nat} {rs : Nat → Rf} (h : SlR m p o n rs) (hk : Kept [] m m') : SlR m' p o n rs := by
  obtain ⟨c, h1, h2⟩ := h
  exact ⟨c, hk.row0 h1, h2⟩
theorem ans_slif {m : Mem} {p o n cap s : Nat} {rs : Nat → Rf} (h : SlR m p o n rs) (hn : n < 1000) :
    Ans Try.prog 65 [.sl p o n cap s, .fn (.func 64) [] []] m fun x m' => (∃ v : Int, x = .int .i64 v ∧ (0 ≤ v ↔ ∃ i, i < n ∧ rs i ≠ Rf.zero)) ∧ Kept [] m m' := by
  refine ans_ret mixed ok65 ?_
  simp -implicitDefEqProofs (disch := (first | omega | (simp only [lenB, Tr.row_len, Rf.cells_len, Nd.cells_len] <;> omega) | fail)) only [admQ, lenB, Tr.row_len, Rf.cells_len, Nd.cells_len, aFill, AK.cls, implies_true, ↓reduceIte, reduceCtorEq, if_true, if_false, Nat.reduceAdd, Nat.reduceEqDiff, Nat.reduceMod, Nat.reduceLT, Nat.reduceLeDiff, Nat.reduceSub, Nat.reduceMul, Nat.reduceBEq, Int.reduceAdd, Int.reduceSub, Int.reduceMul, Int.reduceNeg, Int.reduceLT, Int.reduceLE, Int.reduceToNat, Int.reduceEq, Int.reduceBEq, c65, r65]
  refine LoopW.on (fun j : Nat => [(0, .sl p o n cap s), (1, .fn (.func 64) [] []), (7, .int .i64 n), (8, .int .i64 j)]) (fun j => n - j)
    (fun j m' => j ≤ n ∧ Kept [] m m' ∧ ∀ i, i < j → rs i = Rf.zero) ?_ 0 _ _ rfl ⟨by omega, .refl _ _, fun i hi => by omega⟩
  rintro j m' X ⟨hj, hk, hz⟩ hX
  by_cases hlt : j < n
  · obtain ⟨cells, h1, h2, h3⟩ := h.kept0 hk
    have e := h3 j hlt
    simp -implicitDefEqProofs (disch := (first | omega | (simp only [lenB, Tr.row_len, Rf.cells_len, Nd.cells_len] <;> omega) | fail)) only [admQ, lenB, Tr.row_len, Rf.cells_len, Nd.cells_len, aFill, AK.cls, implies_true, ↓reduceIte, reduceCtorEq, if_true, if_false, Nat.reduceAdd, Nat.reduceEqDiff, Nat.reduceMod, Nat.reduceLT, Nat.reduceLeDiff, Nat.reduceSub, Nat.reduceMul, Nat.reduceBEq, Int.reduceAdd, Int.reduceSub, Int.reduceMul, Int.reduceNeg, Int.reduceLT, Int.reduceLE, Int.reduceToNat, Int.reduceEq, Int.reduceBEq, h1, e]
    refine (ans_empty1 (rs j) m').mono ?_
    rintro _ M ⟨rfl, hk2⟩
    by_cases hr : rs j = Rf.zero
    · simp -implicitDefEqProofs (disch := (first | omega | (simp only [lenB, Tr.row_len, Rf.cells_len, Nd.cells_len] <;> omega) | fail)) only [admQ, lenB, Tr.row_len, Rf.cells_len, Nd.cells_len, aFill, AK.cls, implies_true, ↓reduceIte, reduceCtorEq, if_true, if_false, Nat.reduceAdd, Nat.reduceEqDiff, Nat.reduceMod, Nat.reduceLT, Nat.reduceLeDiff, Nat.reduceSub, Nat.reduceMul, Nat.reduceBEq, Int.reduceAdd, Int.reduceSub, Int.reduceMul, Int.reduceNeg, Int.reduceLT, Int.reduceLE, Int.reduceToNat, Int.reduceEq, Int.reduceBEq, hr, beq_self_eq_true]
      exact hX (j + 1) _ _ rfl (by omega) ⟨by omega, hk.trans hk2, fun i hi => if e : i = j then by rw [e, hr] else hz i (by omega)⟩
    · simp -implicitDefEqProofs (disch := (first | omega | (simp only [lenB, Tr.row_len, Rf.cells_len, Nd.cells_len] <;> omega) | fail)) only [admQ, lenB, Tr.row_len, Rf.cells_len, Nd.cells_len, aFill, AK.cls, implies_true, ↓reduceIte, reduceCtorEq, if_true, if_false, Nat.reduceAdd, Nat.reduceEqDiff, Nat.reduceMod, Nat.reduceLT, Nat.reduceLeDiff, Nat.reduceSub, Nat.reduceMul, Nat.reduceBEq, Int.reduceAdd, Int.reduceSub, Int.reduceMul, Int.reduceNeg, Int.reduceLT, Int.reduceLE, Int.reduceToNat, Int.reduceEq, Int.reduceBEq, beq_eq_false_iff_ne.mpr hr]
      exact ⟨⟨_, rfl, by simp; exact ⟨j, hlt, hr⟩⟩, hk.trans hk2⟩
  · obtain rfl : j = n := by omega
    simp -implicitDefEqProofs (disch := (first | omega | (simp only [lenB, Tr.row_len, Rf.cells_len, Nd.cells_len] <;> omega) | fail)) only [admQ, lenB, Tr.row_len, Rf.cells_len, Nd.cells_len, aFill, AK.cls, implies_true, ↓reduceIte, reduceCtorEq, if_true, if_false, Nat.reduceAdd, Nat.reduceEqDiff, Nat.reduceMod, Nat.reduceLT, Nat.reduceLeDiff, Nat.reduceSub, Nat.reduceMul, Nat.reduceBEq, Int.reduceAdd, Int.reduceSub, Int.reduceMul, Int.reduceNeg, Int.reduceLT, Int.reduceLE, Int.reduceToNat, Int.reduceEq, Int.reduceBEq]
    exact ⟨⟨_, rfl, by simp; intro i hi; exact hz i hi⟩, hk⟩
theorem ans_slcf {m : Mem} {p o n cap s : Nat} {rs : Nat → Rf} (h : SlR m p o n rs) (hn : n < 1000) :
    Ans Try.prog 63 [.sl p o n cap s, .fn (.func 64) [] []] m fun x m' => (∃ b : Bool, x = .bool b ∧ (b = true ↔ ∃ i, i < n ∧ rs i ≠ Rf.zero)) ∧ Kept [] m m' := by
  refine ans_ret mixed ok63 ?_
  simp -implicitDefEqProofs (disch := (first | omega | (simp only [lenB, Tr.row_len, Rf.cells_len, Nd.cells_len] <;> omega) | fail)) only [admQ, lenB, Tr.row_len, Rf.cells_len, Nd.cells_len, aFill, AK.cls, implies_true, ↓reduceIte, reduceCtorEq, if_true, if_false, Nat.reduceAdd, Nat.reduceEqDiff, Nat.reduceMod, Nat.reduceLT, Nat.reduceLeDiff, Nat.reduceSub, Nat.reduceMul, Nat.reduceBEq, Int.reduceAdd, Int.reduceSub, Int.reduceMul, Int.reduceNeg, Int.reduceLT, Int.reduceLE, Int.reduceToNat, Int.reduceEq, Int.reduceBEq, c63, r63]
  refine (ans_slif h hn).mono ?_
  rintro _ M ⟨⟨v, rfl, hv⟩, hk⟩
  simp -implicitDefEqProofs (disch := (first | omega | (simp only [lenB, Tr.row_len, Rf.cells_len, Nd.cells_len] <;> omega) | fail)) only [admQ, lenB, Tr.row_len, Rf.cells_len, Nd.cells_len, aFill, AK.cls, implies_true, ↓reduceIte, reduceCtorEq, if_true, if_false, Nat.reduceAdd, Nat.reduceEqDiff, Nat.reduceMod, Nat.reduceLT, Nat.reduceLeDiff, Nat.reduceSub, Nat.reduceMul, Nat.reduceBEq, Int.reduceAdd, Int.reduceSub, Int.reduceMul, Int.reduceNeg, Int.reduceLT, Int.reduceLE, Int.reduceToNat, Int.reduceEq, Int.reduceBEq]
  exact ⟨⟨_, rfl, by simp only [decide_eq_true_eq, ge_iff_le]; exact hv⟩, hk⟩
/-- Has a leaf a ref? -/
def Tr.some (t : Tr) (i : Nat) : Prop := ∃ j, j < 8 ∧ t.b (8 * (i - 1) + j) ≠ Rf.zero
theorem ans_span {m : Mem} {p : Nat} {t : Tr} (_hp : own m p = .some t.row) {i : Nat} (hi : 1 ≤ i ∧ i ≤ 8) : Ans Try.prog 34 [.ptr p 0, .int .i64 i] m fun x m' => (∃ cap s, x = .sl p (8 * (i - 1) * 33) 8 cap s) ∧ m' = m := by
  refine ans_ret mixed ok34 ?_
  simp -implicitDefEqProofs (disch := (first | omega | (simp only [lenB, Tr.row_len, Rf.cells_len, Nd.cells_len] <;> omega) | fail)) only [admQ, lenB, Tr.row_len, Rf.cells_len, Nd.cells_len, aFill, AK.cls, implies_true, ↓reduceIte, reduceCtorEq, if_true, if_false, Nat.reduceAdd, Nat.reduceEqDiff, Nat.reduceMod, Nat.reduceLT, Nat.reduceLeDiff, Nat.reduceSub, Nat.reduceMul, Nat.reduceBEq, Int.reduceAdd, Int.reduceSub, Int.reduceMul, Int.reduceNeg, Int.reduceLT, Int.reduceLE, Int.reduceToNat, Int.reduceEq, Int.reduceBEq, c34, r34]
  exact ⟨64 - (i - 1) * 8, 0, by rw [show (i - 1) * 8 * 33 = 8 * (i - 1) * 33 by omega, show i * 8 - (i - 1) * 8 = 8 by omega]⟩
theorem span_sl {m : Mem} {p : Nat} {t : Tr} (hp : own m p = .some t.row) {i : Nat} (hi : 1 ≤ i ∧ i ≤ 8) : SlR m p (8 * (i - 1) * 33) 8 fun j => t.b (8 * (i - 1) + j) :=
  ⟨_, rowOf_own hp, by rw [t.row_len]; omega, fun j hj => by rw [← t.b_part (by omega), Nat.add_mul]⟩
theorem ans_empty {m : Mem} {p : Nat} {t : Tr} (hp : own m p = .some t.row) {i : Nat} (hi : 1 ≤ i ∧ i ≤ 8) : Ans Try.prog 52 [.ptr p 0, .int .i64 i] m fun x m' => (∃ b : Bool, x = .bool b ∧ (b = true ↔ ¬ t.some i)) ∧ Kept [] m m' := by
  refine ans_ret mixed ok52 ?_
  simp -implicitDefEqProofs (disch := (first | omega | (simp only [lenB, Tr.row_len, Rf.cells_len, Nd.cells_len] <;> omega) | fail)) only [admQ, lenB, Tr.row_len, Rf.cells_len, Nd.cells_len, aFill, AK.cls, implies_true, ↓reduceIte, reduceCtorEq, if_true, if_false, Nat.reduceAdd, Nat.reduceEqDiff, Nat.reduceMod, Nat.reduceLT, Nat.reduceLeDiff, Nat.reduceSub, Nat.reduceMul, Nat.reduceBEq, Int.reduceAdd, Int.reduceSub, Int.reduceMul, Int.reduceNeg, Int.reduceLT, Int.reduceLE, Int.reduceToNat, Int.reduceEq, Int.reduceBEq, c52, r52]
  refine (ans_span hp hi).mono ?_
  rintro _ _ ⟨⟨cap, s, rfl⟩, rfl⟩
  simp -implicitDefEqProofs (disch := (first | omega | (simp only [lenB, Tr.row_len, Rf.cells_len, Nd.cells_len] <;> omega) | fail)) only [admQ, lenB, Tr.row_len, Rf.cells_len, Nd.cells_len, aFill, AK.cls, implies_true, ↓reduceIte, reduceCtorEq, if_true, if_false, Nat.reduceAdd, Nat.reduceEqDiff, Nat.reduceMod, Nat.reduceLT, Nat.reduceLeDiff, Nat.reduceSub, Nat.reduceMul, Nat.reduceBEq, Int.reduceAdd, Int.reduceSub, Int.reduceMul, Int.reduceNeg, Int.reduceLT, Int.reduceLE, Int.reduceToNat, Int.reduceEq, Int.reduceBEq]
  refine (ans_slcf (span_sl hp hi) (by omega)).mono ?_
  rintro _ M ⟨⟨b, rfl, hb⟩, hk⟩
  simp -implicitDefEqProofs (disch := (first | omega | (simp only [lenB, Tr.row_len, Rf.cells_len, Nd.cells_len] <;> omega) | fail)) only [admQ, lenB, Tr.row_len, Rf.cells_len, Nd.cells_len, aFill, AK.cls, implies_true, ↓reduceIte, reduceCtorEq, if_true, if_false, Nat.reduceAdd, Nat.reduceEqDiff, Nat.reduceMod, Nat.reduceLT, Nat.reduceLeDiff, Nat.reduceSub, Nat.reduceMul, Nat.reduceBEq, Int.reduceAdd, Int.reduceSub, Int.reduceMul, Int.reduceNeg, Int.reduceLT, Int.reduceLE, Int.reduceToNat, Int.reduceEq, Int.reduceBEq]
  exact ⟨⟨_, rfl, by cases b <;> simp [Tr.some] at hb ⊢ <;> exact hb⟩, hk⟩
def Tr.node (t : Tr) (k : Int) : Nd := if 0 ≤ k ∧ k ≤ 8 then t.n k.toNat else Nd.none
theorem Tr.node_nat (t : Tr) {k : Nat} (h : k ≤ 8) : t.node (k : Int) = t.n k := by rw [Tr.node, if_pos (by omega), Int.toNat_natCast]
theorem Tr.node_out (t : Tr) {k : Int} (h : ¬ (0 ≤ k ∧ k ≤ 8)) : t.node k = Nd.none := by rw [Tr.node, if_neg h]
def Tr.nodeR (t : Tr) (k : Int) : Rf := if (t.node k).st = 1 then (t.node k).ref else Rf.zero
def Tr.nodeB (t : Tr) (k : Int) : Bool := decide ((t.node k).st = 1)
theorem Tr.node_lt {t : Tr} {k : Int} (h : (t.node k).st = 1) : 0 ≤ k ∧ k ≤ 8 := Classical.byContradiction fun h' => by rw [t.node_out h'] at h; cases h
theorem ans_node {m : Mem} {p : Nat} {t : Tr} (hp : own m p = .some t.row) (k : Int) : Ans Try.prog 17 [.ptr p 0, .int .i64 k] m fun x m' => x = .tup [.agg (t.nodeR k).cells, .bool (t.nodeB k)] ∧ Kept [] m m' := by
  refine ans_ret mixed ok17 ?_
  simp -implicitDefEqProofs (disch := (first | omega | (simp only [lenB, Tr.row_len, Rf.cells_len, Nd.cells_len] <;> omega) | fail)) only [admQ, lenB, Tr.row_len, Rf.cells_len, Nd.cells_len, aFill, AK.cls, implies_true, ↓reduceIte, reduceCtorEq, if_true, if_false, Nat.reduceAdd, Nat.reduceEqDiff, Nat.reduceMod, Nat.reduceLT, Nat.reduceLeDiff, Nat.reduceSub, Nat.reduceMul, Nat.reduceBEq, Int.reduceAdd, Int.reduceSub, Int.reduceMul, Int.reduceNeg, Int.reduceLT, Int.reduceLE, Int.reduceToNat, Int.reduceEq, Int.reduceBEq, c17, r17, rf_zero]
  refine (ans_within k 0 8 _).mono ?_
  rintro _ M ⟨rfl, rfl⟩
  have hp' := own_app hp [.row Rf.zero.cells false]
  by_cases h : 0 ≤ k ∧ k ≤ 8
  · obtain ⟨k, rfl⟩ := Int.eq_ofNat_of_zero_le h.1
    have hk : k < 9 := by omega
    have e := t.n_st hk
    have e2 := t.n_ref hk
    rw [Tr.nodeR, Tr.nodeB, t.node_nat (by omega)]
    by_cases hs : (t.n k).st = 1
    · rw [if_pos hs, decide_eq_true hs]
      simp -implicitDefEqProofs (disch := (first | omega | (simp only [lenB, Tr.row_len, Rf.cells_len, Nd.cells_len] <;> omega) | fail)) only [admQ, lenB, Tr.row_len, Rf.cells_len, Nd.cells_len, aFill, AK.cls, implies_true, ↓reduceIte, reduceCtorEq, if_true, if_false, Nat.reduceAdd, Nat.reduceEqDiff, Nat.reduceMod, Nat.reduceLT, Nat.reduceLeDiff, Nat.reduceSub, Nat.reduceMul, Nat.reduceBEq, Int.reduceAdd, Int.reduceSub, Int.reduceMul, Int.reduceNeg, Int.reduceLT, Int.reduceLE, Int.reduceToNat, Int.reduceEq, Int.reduceBEq, dec_t h, rowOf_own hp', e, e2, hs, beq_self_eq_true, rf_zero, splice_rf, take_rf]
      exact .app _ _ _
    · rw [if_neg hs, decide_eq_false hs]
      simp -implicitDefEqProofs (disch := (first | omega | (simp only [lenB, Tr.row_len, Rf.cells_len, Nd.cells_len] <;> omega) | fail)) only [admQ, lenB, Tr.row_len, Rf.cells_len, Nd.cells_len, aFill, AK.cls, implies_true, ↓reduceIte, reduceCtorEq, if_true, if_false, Nat.reduceAdd, Nat.reduceEqDiff, Nat.reduceMod, Nat.reduceLT, Nat.reduceLeDiff, Nat.reduceSub, Nat.reduceMul, Nat.reduceBEq, Int.reduceAdd, Int.reduceSub, Int.reduceMul, Int.reduceNeg, Int.reduceLT, Int.reduceLE, Int.reduceToNat, Int.reduceEq, Int.reduceBEq, dec_t h, rowOf_own hp', e, beq_eq_false_iff_ne.mpr hs, rf_zero, splice_rf, take_rf]
      exact .app _ _ _
  · rw [Tr.nodeR, Tr.nodeB, t.node_out h]
    simp -implicitDefEqProofs (disch := (first | omega | (simp only [lenB, Tr.row_len, Rf.cells_len, Nd.cells_len] <;> omega) | fail)) only [admQ, lenB, Tr.row_len, Rf.cells_len, Nd.cells_len, aFill, AK.cls, implies_true, ↓reduceIte, reduceCtorEq, if_true, if_false, Nat.reduceAdd, Nat.reduceEqDiff, Nat.reduceMod, Nat.reduceLT, Nat.reduceLeDiff, Nat.reduceSub, Nat.reduceMul, Nat.reduceBEq, Int.reduceAdd, Int.reduceSub, Int.reduceMul, Int.reduceNeg, Int.reduceLT, Int.reduceLE, Int.reduceToNat, Int.reduceEq, Int.reduceBEq, dec_f h, rf_zero, splice_rf, take_rf]
    exact ⟨rfl, .app _ _ _⟩
end Go.Proofs.Ytmklcealhjmlgaa
end
section
/- The tree of blocks: Touch, Del. -/
namespace Go.Proofs.Ytmklcealhjmlgaa
open Go Go.Adm
set_option linter.unusedSimpArgs false
set_option maxRecDepth 100000
set_option maxHeartbeats 1000000
def Tr.touchL (k : Int) : List Nat := if k = 0 then [0] else [k.toNat, 0]
def Tr.touchOk (t : Tr) (k : Int) : Prop := (t.node k).st = 1 ∧ 1 ≤ (t.node k).ref.at_
instance (t : Tr) (k : Int) : Decidable (t.touchOk k) := inferInstanceAs (Decidable (_ ∧ _))
def Tr.touchT (t : Tr) (k : Int) : Tr := if t.touchOk k then t.spoilT (Tr.touchL k) else t
def Tr.touchR (t : Tr) (k : Int) : List Rf := if t.touchOk k then t.spoilR (Tr.touchL k) else []
theorem ans_touch {m : Mem} {p : Nat} {t : Tr} (hp : own m p = some t.row) (k : Int) :
    Ans Try.prog 31 [.ptr p 0, .int .i64 k] m fun x m' => RfL m.length m' x (t.touchR k) ∧ Kept [p] m m' ∧ own m' p = some (t.touchT k).row := by
  refine ans_ret mixed ok31 ?_
  simp -implicitDefEqProofs (disch := (first | omega | (simp only [lenB, Tr.row_len, Rf.cells_len, Nd.cells_len] <;> omega) | fail)) only [admQ, lenB, Tr.row_len, Rf.cells_len, Nd.cells_len, aFill, AK.cls, implies_true, ↓reduceIte, reduceCtorEq, if_true, if_false, Nat.reduceAdd, Nat.reduceEqDiff, Nat.reduceMod, Nat.reduceLT, Nat.reduceLeDiff, Nat.reduceSub, Nat.reduceMul, Nat.reduceBEq, Int.reduceAdd, Int.reduceSub, Int.reduceMul, Int.reduceNeg, Int.reduceLT, Int.reduceLE, Int.reduceToNat, Int.reduceEq, Int.reduceBEq, c31, r31]
  refine (ans_node hp k).mono ?_
  rintro _ M ⟨rfl, hk⟩
  simp -implicitDefEqProofs (disch := (first | omega | (simp only [lenB, Tr.row_len, Rf.cells_len, Nd.cells_len] <;> omega) | fail)) only [admQ, lenB, Tr.row_len, Rf.cells_len, Nd.cells_len, aFill, AK.cls, implies_true, ↓reduceIte, reduceCtorEq, if_true, if_false, Nat.reduceAdd, Nat.reduceEqDiff, Nat.reduceMod, Nat.reduceLT, Nat.reduceLeDiff, Nat.reduceSub, Nat.reduceMul, Nat.reduceBEq, Int.reduceAdd, Int.reduceSub, Int.reduceMul, Int.reduceNeg, Int.reduceLT, Int.reduceLE, Int.reduceToNat, Int.reduceEq, Int.reduceBEq, rf_zero, splice_rf]
  have hp1 := hk.own0 hp
  have hl := hk.len
  by_cases h1 : (t.node k).st = 1
  · have hk9 := Tr.node_lt h1
    rw [Tr.nodeB, Tr.nodeR, decide_eq_true h1, if_pos h1]
    by_cases h2 : (t.node k).ref.at_ < 1
    · rw [Tr.touchR, Tr.touchT, if_neg (fun h => by have := h.2; omega), if_neg (fun h => by have := h.2; omega)]
      simp -implicitDefEqProofs (disch := (first | omega | (simp only [lenB, Tr.row_len, Rf.cells_len, Nd.cells_len] <;> omega) | fail)) only [admQ, lenB, Tr.row_len, Rf.cells_len, Nd.cells_len, aFill, AK.cls, implies_true, ↓reduceIte, reduceCtorEq, if_true, if_false, Nat.reduceAdd, Nat.reduceEqDiff, Nat.reduceMod, Nat.reduceLT, Nat.reduceLeDiff, Nat.reduceSub, Nat.reduceMul, Nat.reduceBEq, Int.reduceAdd, Int.reduceSub, Int.reduceMul, Int.reduceNeg, Int.reduceLT, Int.reduceLE, Int.reduceToNat, Int.reduceEq, Int.reduceBEq, rf_at, dec_t, dec_f]
      exact ⟨.nils .., (hk.trans (.app _ _ _)).any, own_app hp1 _⟩
    · rw [Tr.touchR, Tr.touchT, if_pos ⟨h1, by omega⟩, if_pos ⟨h1, by omega⟩, Tr.touchL]
      by_cases h3 : k = 0
      · subst h3
        rw [if_pos rfl]
        simp -implicitDefEqProofs (disch := (first | omega | (simp only [lenB, Tr.row_len, Rf.cells_len, Nd.cells_len] <;> omega) | fail)) only [admQ, lenB, Tr.row_len, Rf.cells_len, Nd.cells_len, aFill, AK.cls, implies_true, ↓reduceIte, reduceCtorEq, if_true, if_false, Nat.reduceAdd, Nat.reduceEqDiff, Nat.reduceMod, Nat.reduceLT, Nat.reduceLeDiff, Nat.reduceSub, Nat.reduceMul, Nat.reduceBEq, Int.reduceAdd, Int.reduceSub, Int.reduceMul, Int.reduceNeg, Int.reduceLT, Int.reduceLE, Int.reduceToNat, Int.reduceEq, Int.reduceBEq, rf_at, dec_t, dec_f]
        refine (ans_spoil (own_app hp1 _) [0] (by simp) (q := M.length + 1) (by rw [own_app_at, own_c, own_c0]; rfl) (by simp)).mono ?_
        rintro y M2 ⟨hy, hk2, hp2⟩
        simp -implicitDefEqProofs (disch := (first | omega | (simp only [lenB, Tr.row_len, Rf.cells_len, Nd.cells_len] <;> omega) | fail)) only [admQ, lenB, Tr.row_len, Rf.cells_len, Nd.cells_len, aFill, AK.cls, implies_true, ↓reduceIte, reduceCtorEq, if_true, if_false, Nat.reduceAdd, Nat.reduceEqDiff, Nat.reduceMod, Nat.reduceLT, Nat.reduceLeDiff, Nat.reduceSub, Nat.reduceMul, Nat.reduceBEq, Int.reduceAdd, Int.reduceSub, Int.reduceMul, Int.reduceNeg, Int.reduceLT, Int.reduceLE, Int.reduceToNat, Int.reduceEq, Int.reduceBEq]
        exact ⟨hy.low (by simp; omega), (hk.any.trans (.app _ _ _)).trans hk2, hp2⟩
      · rw [if_neg h3]
        obtain ⟨k, rfl⟩ := Int.eq_ofNat_of_zero_le hk9.1
        simp -implicitDefEqProofs (disch := (first | omega | (simp only [lenB, Tr.row_len, Rf.cells_len, Nd.cells_len] <;> omega) | fail)) only [admQ, lenB, Tr.row_len, Rf.cells_len, Nd.cells_len, aFill, AK.cls, implies_true, ↓reduceIte, reduceCtorEq, if_true, if_false, Nat.reduceAdd, Nat.reduceEqDiff, Nat.reduceMod, Nat.reduceLT, Nat.reduceLeDiff, Nat.reduceSub, Nat.reduceMul, Nat.reduceBEq, Int.reduceAdd, Int.reduceSub, Int.reduceMul, Int.reduceNeg, Int.reduceLT, Int.reduceLE, Int.reduceToNat, Int.reduceEq, Int.reduceBEq, rf_at, dec_t, dec_f, beq_eq_false_iff_ne.mpr h3]
        refine (ans_spoil (own_app hp1 _) [k, 0] (by simp; omega) (q := M.length + 1) (by rw [own_app_at, own_c, own_c0]; rfl) (by simp)).mono ?_
        rintro y M2 ⟨hy, hk2, hp2⟩
        simp -implicitDefEqProofs (disch := (first | omega | (simp only [lenB, Tr.row_len, Rf.cells_len, Nd.cells_len] <;> omega) | fail)) only [admQ, lenB, Tr.row_len, Rf.cells_len, Nd.cells_len, aFill, AK.cls, implies_true, ↓reduceIte, reduceCtorEq, if_true, if_false, Nat.reduceAdd, Nat.reduceEqDiff, Nat.reduceMod, Nat.reduceLT, Nat.reduceLeDiff, Nat.reduceSub, Nat.reduceMul, Nat.reduceBEq, Int.reduceAdd, Int.reduceSub, Int.reduceMul, Int.reduceNeg, Int.reduceLT, Int.reduceLE, Int.reduceToNat, Int.reduceEq, Int.reduceBEq]
        exact ⟨hy.low (by simp; omega), (hk.any.trans (.app _ _ _)).trans hk2, hp2⟩
  · rw [Tr.nodeB, decide_eq_false h1]
    rw [Tr.touchR, Tr.touchT, if_neg (fun h => h1 h.1), if_neg (fun h => h1 h.1)]
    simp -implicitDefEqProofs (disch := (first | omega | (simp only [lenB, Tr.row_len, Rf.cells_len, Nd.cells_len] <;> omega) | fail)) only [admQ, lenB, Tr.row_len, Rf.cells_len, Nd.cells_len, aFill, AK.cls, implies_true, ↓reduceIte, reduceCtorEq, if_true, if_false, Nat.reduceAdd, Nat.reduceEqDiff, Nat.reduceMod, Nat.reduceLT, Nat.reduceLeDiff, Nat.reduceSub, Nat.reduceMul, Nat.reduceBEq, Int.reduceAdd, Int.reduceSub, Int.reduceMul, Int.reduceNeg, Int.reduceLT, Int.reduceLE, Int.reduceToNat, Int.reduceEq, Int.reduceBEq]
    exact ⟨.nils .., (hk.trans (.app _ _ _)).any, own_app hp1 _⟩
instance (t : Tr) (i : Nat) : Decidable (t.some i) := inferInstanceAs (Decidable (∃ j, j < 8 ∧ _))
def Tr.delT1 (t : Tr) (k : Nat) : Tr := (t.setB k Rf.zero).spoilT [k / 8 + 1, 0]
def Tr.delT (t : Tr) (k : Int) : Tr := if t.at k = Rf.zero then t else if (t.delT1 k.toNat).some (k.toNat / 8 + 1) then t.delT1 k.toNat else (t.delT1 k.toNat).setN (k.toNat / 8 + 1) Nd.none
def Tr.delR (t : Tr) (k : Int) : List Rf := if t.at k = Rf.zero then [] else t.at k :: (t.setB k.toNat Rf.zero).spoilR [k.toNat / 8 + 1, 0]
theorem ans_del {m : Mem} {p : Nat} {t : Tr} (hp : own m p = some t.row) (k : Int) :
    Ans Try.prog 30 [.ptr p 0, .int .i64 k] m fun x m' => RfL m.length m' x (t.delR k) ∧ Kept [p] m m' ∧ own m' p = some (t.delT k).row := by
  refine ans_ret mixed ok30 ?_
  have hpl := own_lt hp
  simp -implicitDefEqProofs (disch := (first | omega | (simp only [lenB, Tr.row_len, Rf.cells_len, Nd.cells_len] <;> omega) | fail)) only [admQ, lenB, Tr.row_len, Rf.cells_len, Nd.cells_len, aFill, AK.cls, implies_true, ↓reduceIte, reduceCtorEq, if_true, if_false, Nat.reduceAdd, Nat.reduceEqDiff, Nat.reduceMod, Nat.reduceLT, Nat.reduceLeDiff, Nat.reduceSub, Nat.reduceMul, Nat.reduceBEq, Int.reduceAdd, Int.reduceSub, Int.reduceMul, Int.reduceNeg, Int.reduceLT, Int.reduceLE, Int.reduceToNat, Int.reduceEq, Int.reduceBEq, c30, r30]
  refine (ans_has hp k).mono ?_
  rintro _ m' ⟨rfl, rfl⟩
  rw [Tr.delR, Tr.delT]
  by_cases hz : t.at k = Rf.zero
  · rw [if_pos hz, if_pos hz]
    simp -implicitDefEqProofs (disch := (first | omega | (simp only [lenB, Tr.row_len, Rf.cells_len, Nd.cells_len] <;> omega) | fail)) only [admQ, lenB, Tr.row_len, Rf.cells_len, Nd.cells_len, aFill, AK.cls, implies_true, ↓reduceIte, reduceCtorEq, if_true, if_false, Nat.reduceAdd, Nat.reduceEqDiff, Nat.reduceMod, Nat.reduceLT, Nat.reduceLeDiff, Nat.reduceSub, Nat.reduceMul, Nat.reduceBEq, Int.reduceAdd, Int.reduceSub, Int.reduceMul, Int.reduceNeg, Int.reduceLT, Int.reduceLE, Int.reduceToNat, Int.reduceEq, Int.reduceBEq, hz, beq_self_eq_true]
    exact ⟨.nils .., .refl _ _, hp⟩
  · rw [if_neg hz, if_neg hz]
    have h : 0 ≤ k ∧ k < 64 := Classical.byContradiction fun h => hz (t.at_out h)
    obtain ⟨k, rfl⟩ := Int.eq_ofNat_of_zero_le h.1
    have hk : k < 64 := by omega
    rw [t.at_nat hk] at *
    have e := t.b_part hk
    have hs := t.setB_row hk Rf.zero
    rw [Int.toNat_natCast]
    simp -implicitDefEqProofs (disch := (first | omega | (simp only [lenB, Tr.row_len, Rf.cells_len, Nd.cells_len] <;> omega) | fail)) only [admQ, lenB, Tr.row_len, Rf.cells_len, Nd.cells_len, aFill, AK.cls, implies_true, ↓reduceIte, reduceCtorEq, if_true, if_false, Nat.reduceAdd, Nat.reduceEqDiff, Nat.reduceMod, Nat.reduceLT, Nat.reduceLeDiff, Nat.reduceSub, Nat.reduceMul, Nat.reduceBEq, Int.reduceAdd, Int.reduceSub, Int.reduceMul, Int.reduceNeg, Int.reduceLT, Int.reduceLE, Int.reduceToNat, Int.reduceEq, Int.reduceBEq, beq_eq_false_iff_ne.mpr hz, rowOf_own hp, own_app hp, e, rf_zero, splice_rf, hs]
    have hx0 : RfL m'.length (m' ++ [.row (t.b k).cells false]) (.sl m'.length 0 1 1 0) [t.b k] := .mk (l := [t.b k]) (by simp) (.inl rfl) (by rw [own_app_at0, flatOf_one]; rfl) (Nat.le_refl _)
    have hx1 := hx0.kept (.set1 _ p (.row (t.setB k Rf.zero).row false)) (fun b hb => by simp [blkOf] at hb; simp; omega)
    have hp1 : own (List.set (m' ++ [.row (t.b k).cells false]) p (.row (t.setB k Rf.zero).row false)) p = some (t.setB k Rf.zero).row := own_set (own_lt (own_app hp _)) _
    have hk1 : Kept [p] m' (List.set (m' ++ [.row (t.b k).cells false]) p (.row (t.setB k Rf.zero).row false)) := (Kept.app [p] m' _).trans (.set1 _ _ _)
    generalize List.set (m' ++ [Blk.row (t.b k).cells false]) p (Blk.row (t.setB k Rf.zero).row false) = M1 at *
    have hl1 := hk1.len
    refine (ans_leaf k hk M1).mono ?_
    rintro _ _ ⟨rfl, rfl⟩
    simp -implicitDefEqProofs (disch := (first | omega | (simp only [lenB, Tr.row_len, Rf.cells_len, Nd.cells_len] <;> omega) | fail)) only [admQ, lenB, Tr.row_len, Rf.cells_len, Nd.cells_len, aFill, AK.cls, implies_true, ↓reduceIte, reduceCtorEq, if_true, if_false, Nat.reduceAdd, Nat.reduceEqDiff, Nat.reduceMod, Nat.reduceLT, Nat.reduceLeDiff, Nat.reduceSub, Nat.reduceMul, Nat.reduceBEq, Int.reduceAdd, Int.reduceSub, Int.reduceMul, Int.reduceNeg, Int.reduceLT, Int.reduceLE, Int.reduceToNat, Int.reduceEq, Int.reduceBEq]
    rename_i M1
    refine (ans_spoil (own_app hp1 _) [k / 8 + 1, 0] (by simp; omega) (q := M1.length) (by rw [own_app_at0]; rfl) (by simp)).mono ?_
    rintro y M2 ⟨hy, hk2, hp2⟩
    have hk2' : Kept [p] M1 M2 := (Kept.app [p] M1 _).trans hk2
    have hx2 := hx1.kept hk2' (fun b hb => by have := hx1.blk b hb; simp; omega)
    have hsl := (t.setB k Rf.zero).spoilR_len [k / 8 + 1, 0]
    have hl2 := hk2'.len
    obtain ⟨z, M3, ha, hg3, hk3, hf3, -, -⟩ := hx2.pushs (bytes := 40) Rf.cells_len (by omega) hy (by simp at hsl; simp; omega) (by omega)
    have hp3 := hk3.own hp2 (fun h => by have := hx2.blk _ h; omega)
    have hkk := hf3 _ _ (hk1.trans hk2') (Nat.le_refl _)
    have hdl : (t.setB k Rf.zero).spoilT [k / 8 + 1, 0] = t.delT1 k := rfl
    rw [hdl] at hp3
    simp -implicitDefEqProofs (disch := (first | omega | (simp only [lenB, Tr.row_len, Rf.cells_len, Nd.cells_len] <;> omega) | fail)) only [admQ, lenB, Tr.row_len, Rf.cells_len, Nd.cells_len, aFill, AK.cls, implies_true, ↓reduceIte, reduceCtorEq, if_true, if_false, Nat.reduceAdd, Nat.reduceEqDiff, Nat.reduceMod, Nat.reduceLT, Nat.reduceLeDiff, Nat.reduceSub, Nat.reduceMul, Nat.reduceBEq, Int.reduceAdd, Int.reduceSub, Int.reduceMul, Int.reduceNeg, Int.reduceLT, Int.reduceLE, Int.reduceToNat, Int.reduceEq, Int.reduceBEq, ha]
    refine (ans_empty hp3 (i := k / 8 + 1) (by omega)).mono ?_
    rintro _ M4 ⟨⟨b, rfl, hb⟩, hk4⟩
    have hp4 := hk4.own0 hp3
    have hg4 := hg3.kept0 hk4
    by_cases hsm : (t.delT1 k).some (k / 8 + 1)
    · rw [if_pos hsm]
      obtain rfl : b = false := by cases b with | false => rfl | true => exact absurd hsm (hb.mp rfl)
      simp -implicitDefEqProofs (disch := (first | omega | (simp only [lenB, Tr.row_len, Rf.cells_len, Nd.cells_len] <;> omega) | fail)) only [admQ, lenB, Tr.row_len, Rf.cells_len, Nd.cells_len, aFill, AK.cls, implies_true, ↓reduceIte, reduceCtorEq, if_true, if_false, Nat.reduceAdd, Nat.reduceEqDiff, Nat.reduceMod, Nat.reduceLT, Nat.reduceLeDiff, Nat.reduceSub, Nat.reduceMul, Nat.reduceBEq, Int.reduceAdd, Int.reduceSub, Int.reduceMul, Int.reduceNeg, Int.reduceLT, Int.reduceLE, Int.reduceToNat, Int.reduceEq, Int.reduceBEq]
      exact ⟨hg4, hkk.trans hk4.any, hp4⟩
    · rw [if_neg hsm]
      obtain rfl : b = true := hb.mpr hsm
      have hs2 := (t.delT1 k).setN_row (i := k / 8 + 1) (by omega) Nd.none
      simp -implicitDefEqProofs (disch := (first | omega | (simp only [lenB, Tr.row_len, Rf.cells_len, Nd.cells_len] <;> omega) | fail)) only [admQ, lenB, Tr.row_len, Rf.cells_len, Nd.cells_len, aFill, AK.cls, implies_true, ↓reduceIte, reduceCtorEq, if_true, if_false, Nat.reduceAdd, Nat.reduceEqDiff, Nat.reduceMod, Nat.reduceLT, Nat.reduceLeDiff, Nat.reduceSub, Nat.reduceMul, Nat.reduceBEq, Int.reduceAdd, Int.reduceSub, Int.reduceMul, Int.reduceNeg, Int.reduceLT, Int.reduceLE, Int.reduceToNat, Int.reduceEq, Int.reduceBEq, rf_zero, nd_zero2, own_app hp4, hp4, hs2]
      exact ⟨hg4.kept (.set1 _ _ _) (fun b hb => by have := hg4.blk b hb; simp; omega), (hkk.trans hk4.any).trans (.set1 _ _ _), own_set (own_lt hp4) _⟩
end Go.Proofs.Ytmklcealhjmlgaa
end
section
/- The tree of blocks: what is alive. -/
namespace Go.Proofs.Ytmklcealhjmlgaa
open Go Go.Adm
set_option linter.unusedSimpArgs false
set_option maxRecDepth 100000
set_option maxHeartbeats 1000000
def liveB (l : List Rf) : List Rf := l.filter fun r => !(r == Rf.zero)
def goneN (n : Nd) : List Rf := if n.st = 1 ∧ 0 < n.ref.at_ then [n.ref] else []
def liveN (l : List Nd) : List Rf := l.flatMap goneN
def Tr.refs (t : Tr) : List Rf := liveB t.bl ++ liveN t.nd
def Tr.mapped (t : Tr) : Nat := (liveB t.bl).length
theorem Tr.bl_row (t : Tr) : t.row.take 2112 = flatOf Rf.cells t.bl := by rw [Tr.row, ← t.bl_len, List.take_left]
theorem Tr.nd_row (t : Tr) : (t.row.drop 2112).take 306 = flatOf Nd.cells t.nd := by rw [Tr.row, ← t.bl_len, List.drop_left, ← t.nd_len, List.take_length]
theorem Tr.bl_at (t : Tr) {i : Nat} (h : i < 64) : ((flatOf Rf.cells t.bl).drop (i * 33)).take 33 = (t.b i).cells := by
  have hi : i < t.bl.length := by rw [t.hb]; exact h
  rw [flatOf_get Rf.cells_len t.bl i hi]
  have := t.b_get h
  rw [List.getElem?_eq_getElem hi, Option.some.injEq] at this
  rw [this]
theorem Tr.nd_at (t : Tr) {i : Nat} (h : i < 9) : ((flatOf Nd.cells t.nd).drop (i * 34)).take 34 = (t.n i).cells := by
  have hi : i < t.nd.length := by rw [t.hn]; exact h
  rw [flatOf_get Nd.cells_len t.nd i hi]
  have := t.n_get h
  rw [List.getElem?_eq_getElem hi, Option.some.injEq] at this
  rw [this]
theorem Tr.bl_take (t : Tr) {i : Nat} (h : i < 64) : t.bl.take (i + 1) = t.bl.take i ++ [t.b i] := by
  rw [List.take_add_one, t.b_get h]; rfl
theorem Tr.nd_take (t : Tr) {i : Nat} (h : i < 9) : t.nd.take (i + 1) = t.nd.take i ++ [t.n i] := by
  rw [List.take_add_one, t.n_get h]; rfl
theorem liveB_one (l : List Rf) (r : Rf) : liveB (l ++ [r]) = liveB l ++ if r = Rf.zero then [] else [r] := by
  rw [liveB, List.filter_append]
  by_cases h : r = Rf.zero
  · simp [liveB, h]
  · simp [liveB, h]
theorem liveN_one (l : List Nd) (n : Nd) : liveN (l ++ [n]) = liveN l ++ goneN n := by simp [liveN]
theorem liveB_len (l : List Rf) : (liveB l).length ≤ l.length := List.length_filter_le _ _
theorem ans_mapped {m : Mem} {p : Nat} {t : Tr} (hp : own m p = .some t.row) : Ans Try.prog 15 [.ptr p 0] m fun x m' => x = .int .i64 t.mapped ∧ Kept [] m m' := by
  refine ans_ret mixed ok15 ?_
  have e := t.bl_row
  simp -implicitDefEqProofs (disch := (first | omega | (simp only [lenB, Tr.row_len, Rf.cells_len, Nd.cells_len, Tr.bl_len, Tr.nd_len] <;> omega) | fail)) only [admQ, lenB, Tr.row_len, Rf.cells_len, Nd.cells_len, Tr.bl_len, Tr.nd_len, aFill, AK.cls, implies_true, ↓reduceIte, reduceCtorEq, if_true, if_false, Nat.reduceAdd, Nat.reduceEqDiff, Nat.reduceMod, Nat.reduceLT, Nat.reduceLeDiff, Nat.reduceSub, Nat.reduceMul, Nat.reduceBEq, Int.reduceAdd, Int.reduceSub, Int.reduceMul, Int.reduceNeg, Int.reduceLT, Int.reduceLE, Int.reduceToNat, Int.reduceEq, Int.reduceBEq, c15, r15, rowOf_own hp, e]
  refine LoopW.on (fun s : Nat × Nat => [(3, .int .i64 s.2), (9, .agg (flatOf Rf.cells t.bl)), (10, .int .i64 s.1)]) (fun s => 64 - s.1)
    (fun s m' => s.1 ≤ 64 ∧ Kept [] m m' ∧ s.2 = (liveB (t.bl.take s.1)).length) ?_ (0, 0) _ _ rfl ⟨by omega, .refl _ _, rfl⟩
  rintro ⟨j, c⟩ m' X ⟨hj, hk, hc⟩ hX
  dsimp only at hj hk hc hX ⊢
  by_cases hlt : j < 64
  · have e1 := t.bl_at hlt
    have hll := liveB_len (t.bl.take j)
    have hl2 : (t.bl.take j).length ≤ 64 := by simp; omega
    by_cases hz : t.b j = Rf.zero
    · have ez := aEq_rf' Rf.zero Rf.zero
      simp -implicitDefEqProofs (disch := (first | omega | (simp only [lenB, Tr.row_len, Rf.cells_len, Nd.cells_len, Tr.bl_len, Tr.nd_len] <;> omega) | fail)) only [admQ, lenB, Tr.row_len, Rf.cells_len, Nd.cells_len, Tr.bl_len, Tr.nd_len, aFill, AK.cls, implies_true, ↓reduceIte, reduceCtorEq, if_true, if_false, Nat.reduceAdd, Nat.reduceEqDiff, Nat.reduceMod, Nat.reduceLT, Nat.reduceLeDiff, Nat.reduceSub, Nat.reduceMul, Nat.reduceBEq, Int.reduceAdd, Int.reduceSub, Int.reduceMul, Int.reduceNeg, Int.reduceLT, Int.reduceLE, Int.reduceToNat, Int.reduceEq, Int.reduceBEq, e1, rf_zero, splice_rf, take_rf, hz, ez, beq_self_eq_true]
      exact hX (j + 1, c) _ _ rfl (by simp; omega) ⟨by simp; omega, hk.trans (.app _ _ _), by rw [t.bl_take hlt, liveB_one, if_pos hz, List.append_nil]; exact hc⟩
    · have ez := aEq_rf' (t.b j) Rf.zero
      have hb : (t.b j == Rf.zero) = false := beq_eq_false_iff_ne.mpr hz
      simp -implicitDefEqProofs (disch := (first | omega | (simp only [lenB, Tr.row_len, Rf.cells_len, Nd.cells_len, Tr.bl_len, Tr.nd_len] <;> omega) | fail)) only [admQ, lenB, Tr.row_len, Rf.cells_len, Nd.cells_len, Tr.bl_len, Tr.nd_len, aFill, AK.cls, implies_true, ↓reduceIte, reduceCtorEq, if_true, if_false, Nat.reduceAdd, Nat.reduceEqDiff, Nat.reduceMod, Nat.reduceLT, Nat.reduceLeDiff, Nat.reduceSub, Nat.reduceMul, Nat.reduceBEq, Int.reduceAdd, Int.reduceSub, Int.reduceMul, Int.reduceNeg, Int.reduceLT, Int.reduceLE, Int.reduceToNat, Int.reduceEq, Int.reduceBEq, e1, rf_zero, splice_rf, take_rf, ez, hb]
      exact hX (j + 1, c + 1) _ _ rfl (by simp; omega) ⟨by simp; omega, hk.trans (.app _ _ _), by rw [t.bl_take hlt, liveB_one, if_neg hz, List.length_append, List.length_singleton]; exact congrArg (· + 1) hc⟩
  · obtain rfl : j = 64 := by omega
    rw [List.take_of_length_le (by rw [t.hb]; omega)] at hc
    simp -implicitDefEqProofs (disch := (first | omega | (simp only [lenB, Tr.row_len, Rf.cells_len, Nd.cells_len, Tr.bl_len, Tr.nd_len] <;> omega) | fail)) only [admQ, lenB, Tr.row_len, Rf.cells_len, Nd.cells_len, Tr.bl_len, Tr.nd_len, aFill, AK.cls, implies_true, ↓reduceIte, reduceCtorEq, if_true, if_false, Nat.reduceAdd, Nat.reduceEqDiff, Nat.reduceMod, Nat.reduceLT, Nat.reduceLeDiff, Nat.reduceSub, Nat.reduceMul, Nat.reduceBEq, Int.reduceAdd, Int.reduceSub, Int.reduceMul, Int.reduceNeg, Int.reduceLT, Int.reduceLE, Int.reduceToNat, Int.reduceEq, Int.reduceBEq]
    exact ⟨by rw [hc]; rfl, hk⟩
theorem ans_bare {m : Mem} {p : Nat} {t : Tr} (hp : own m p = .some t.row) : Ans Try.prog 36 [.ptr p 0] m fun x m' => x = .bool (decide (t.mapped = 0)) ∧ Kept [] m m' := by
  refine ans_ret mixed ok36 ?_
  simp -implicitDefEqProofs (disch := (first | omega | (simp only [lenB, Tr.row_len, Rf.cells_len, Nd.cells_len, Tr.bl_len, Tr.nd_len] <;> omega) | fail)) only [admQ, lenB, Tr.row_len, Rf.cells_len, Nd.cells_len, Tr.bl_len, Tr.nd_len, aFill, AK.cls, implies_true, ↓reduceIte, reduceCtorEq, if_true, if_false, Nat.reduceAdd, Nat.reduceEqDiff, Nat.reduceMod, Nat.reduceLT, Nat.reduceLeDiff, Nat.reduceSub, Nat.reduceMul, Nat.reduceBEq, Int.reduceAdd, Int.reduceSub, Int.reduceMul, Int.reduceNeg, Int.reduceLT, Int.reduceLE, Int.reduceToNat, Int.reduceEq, Int.reduceBEq, c36, r36]
  refine (ans_mapped hp).mono ?_
  rintro _ M ⟨rfl, hk⟩
  simp -implicitDefEqProofs (disch := (first | omega | (simp only [lenB, Tr.row_len, Rf.cells_len, Nd.cells_len, Tr.bl_len, Tr.nd_len] <;> omega) | fail)) only [admQ, lenB, Tr.row_len, Rf.cells_len, Nd.cells_len, Tr.bl_len, Tr.nd_len, aFill, AK.cls, implies_true, ↓reduceIte, reduceCtorEq, if_true, if_false, Nat.reduceAdd, Nat.reduceEqDiff, Nat.reduceMod, Nat.reduceLT, Nat.reduceLeDiff, Nat.reduceSub, Nat.reduceMul, Nat.reduceBEq, Int.reduceAdd, Int.reduceSub, Int.reduceMul, Int.reduceNeg, Int.reduceLT, Int.reduceLE, Int.reduceToNat, Int.reduceEq, Int.reduceBEq]
  refine ⟨?_, hk⟩
  by_cases h : t.mapped = 0
  · rw [h]; rfl
  · rw [decide_eq_false h, beq_eq_false_iff_ne.mpr (by omega)]
theorem liveN_len (l : List Nd) : (liveN l).length ≤ l.length := by
  induction l with
  | nil => simp [liveN]
  | cons n l ih =>
    have : (goneN n).length ≤ 1 := by unfold goneN; split <;> simp
    simp only [liveN, List.flatMap_cons, List.length_append, List.length_cons] at *
    omega
theorem ans_refs {m : Mem} {p : Nat} {t : Tr} (hp : own m p = .some t.row) : Ans Try.prog 11 [.ptr p 0] m fun x m' => RfL m.length m' x t.refs ∧ Kept [] m m' := by
  refine ans_ret mixed ok11 ?_
  have e := t.bl_row
  have e' := t.nd_row
  simp -implicitDefEqProofs (disch := (first | omega | (simp only [lenB, Tr.row_len, Rf.cells_len, Nd.cells_len, Tr.bl_len, Tr.nd_len] <;> omega) | fail)) only [admQ, lenB, Tr.row_len, Rf.cells_len, Nd.cells_len, Tr.bl_len, Tr.nd_len, aFill, AK.cls, implies_true, ↓reduceIte, reduceCtorEq, if_true, if_false, Nat.reduceAdd, Nat.reduceEqDiff, Nat.reduceMod, Nat.reduceLT, Nat.reduceLeDiff, Nat.reduceSub, Nat.reduceMul, Nat.reduceBEq, Int.reduceAdd, Int.reduceSub, Int.reduceMul, Int.reduceNeg, Int.reduceLT, Int.reduceLE, Int.reduceToNat, Int.reduceEq, Int.reduceBEq, c11, r11, rowOf_own hp, e]
  refine LoopW.on (fun s : Nat × AV => [(0, .ptr p 0), (3, s.2), (11, .agg (flatOf Rf.cells t.bl)), (12, .int .i64 s.1)]) (fun s => 64 - s.1)
    (fun s m' => s.1 ≤ 64 ∧ Kept [] m m' ∧ RfL m.length m' s.2 (liveB (t.bl.take s.1))) ?_ (0, .nils) _ _ rfl ⟨by omega, .refl _ _, .nils ..⟩
  rintro ⟨j, x⟩ m' X ⟨hj, hk, hx⟩ hX
  dsimp only at hj hk hx hX ⊢
  have hl0 := hk.len
  by_cases hlt : j < 64
  · have e1 := t.bl_at hlt
    have hll := liveB_len (t.bl.take j)
    have hl2 : (t.bl.take j).length ≤ 64 := by simp; omega
    by_cases hz : t.b j = Rf.zero
    · have ez := aEq_rf' Rf.zero Rf.zero
      simp -implicitDefEqProofs (disch := (first | omega | (simp only [lenB, Tr.row_len, Rf.cells_len, Nd.cells_len, Tr.bl_len, Tr.nd_len] <;> omega) | fail)) only [admQ, lenB, Tr.row_len, Rf.cells_len, Nd.cells_len, Tr.bl_len, Tr.nd_len, aFill, AK.cls, implies_true, ↓reduceIte, reduceCtorEq, if_true, if_false, Nat.reduceAdd, Nat.reduceEqDiff, Nat.reduceMod, Nat.reduceLT, Nat.reduceLeDiff, Nat.reduceSub, Nat.reduceMul, Nat.reduceBEq, Int.reduceAdd, Int.reduceSub, Int.reduceMul, Int.reduceNeg, Int.reduceLT, Int.reduceLE, Int.reduceToNat, Int.reduceEq, Int.reduceBEq, e1, rf_zero, splice_rf, take_rf, hz, ez, beq_self_eq_true]
      exact hX (j + 1, x) _ _ rfl (by simp; omega) ⟨by simp; omega, hk.trans (.app _ _ _), by rw [t.bl_take hlt, liveB_one, if_pos hz, List.append_nil]; exact hx.kept0 (.app _ _ _)⟩
    · have ez := aEq_rf' (t.b j) Rf.zero
      have hb : (t.b j == Rf.zero) = false := beq_eq_false_iff_ne.mpr hz
      obtain ⟨x', m2, ha, hg2, hk2, hf2, hb2⟩ := (hx.kept0 (.app [] m' [.row (t.b j).cells false])).push (bytes := 40) Rf.cells_len (by omega) (t.b j) (by omega) (by simp; omega)
      rw [List.length_append, List.append_assoc] at ha
      simp only [List.length_singleton, List.singleton_append] at ha
      simp -implicitDefEqProofs (disch := (first | omega | (simp only [lenB, Tr.row_len, Rf.cells_len, Nd.cells_len, Tr.bl_len, Tr.nd_len] <;> omega) | fail)) only [admQ, lenB, Tr.row_len, Rf.cells_len, Nd.cells_len, Tr.bl_len, Tr.nd_len, aFill, AK.cls, implies_true, ↓reduceIte, reduceCtorEq, if_true, if_false, Nat.reduceAdd, Nat.reduceEqDiff, Nat.reduceMod, Nat.reduceLT, Nat.reduceLeDiff, Nat.reduceSub, Nat.reduceMul, Nat.reduceBEq, Int.reduceAdd, Int.reduceSub, Int.reduceMul, Int.reduceNeg, Int.reduceLT, Int.reduceLE, Int.reduceToNat, Int.reduceEq, Int.reduceBEq, e1, rf_zero, splice_rf, take_rf, ez, hb, ha]
      exact hX (j + 1, x') _ _ rfl (by simp; omega) ⟨by simp; omega, hf2 _ _ (hk.trans (.app _ _ _)) (Nat.le_refl _), by rw [t.bl_take hlt, liveB_one, if_neg hz]; exact hg2⟩
  · obtain rfl : j = 64 := by omega
    rw [List.take_of_length_le (by rw [t.hb]; omega)] at hx
    have hp' := hk.own0 hp
    have hll := liveB_len t.bl
    rw [t.hb] at hll
    clear hX
    simp -implicitDefEqProofs (disch := (first | omega | (simp only [lenB, Tr.row_len, Rf.cells_len, Nd.cells_len, Tr.bl_len, Tr.nd_len] <;> omega) | fail)) only [admQ, lenB, Tr.row_len, Rf.cells_len, Nd.cells_len, Tr.bl_len, Tr.nd_len, aFill, AK.cls, implies_true, ↓reduceIte, reduceCtorEq, if_true, if_false, Nat.reduceAdd, Nat.reduceEqDiff, Nat.reduceMod, Nat.reduceLT, Nat.reduceLeDiff, Nat.reduceSub, Nat.reduceMul, Nat.reduceBEq, Int.reduceAdd, Int.reduceSub, Int.reduceMul, Int.reduceNeg, Int.reduceLT, Int.reduceLE, Int.reduceToNat, Int.reduceEq, Int.reduceBEq, rowOf_own hp', e']
    refine LoopW.on (fun s : Nat × AV => [(3, s.2), (26, .agg (flatOf Nd.cells t.nd)), (27, .int .i64 s.1)]) (fun s => 9 - s.1)
      (fun s m' => s.1 ≤ 9 ∧ Kept [] m m' ∧ RfL m.length m' s.2 (liveB t.bl ++ liveN (t.nd.take s.1))) ?_ (0, x) _ _ rfl ⟨by omega, hk, by simpa [liveN] using hx⟩
    clear hk hx hl0 hp' x
    rintro ⟨j, x⟩ m1 X ⟨hj, hk, hx⟩ hX
    dsimp only at hj hk hx hX ⊢
    have hl0 := hk.len
    by_cases hlt : j < 9
    · have e1 := t.nd_at hlt
      have hln := liveN_len (t.nd.take j)
      have hl2 : (t.nd.take j).length ≤ 9 := by simp; omega
      by_cases hc : (t.n j).st = 1 ∧ 0 < (t.n j).ref.at_
      · have hg : goneN (t.n j) = [(t.n j).ref] := if_pos hc
        obtain ⟨x', m2, ha, hg2, hk2, hf2, hb2⟩ := (hx.kept0 (.app [] m1 [.row (t.n j).cells false])).push (bytes := 40) Rf.cells_len (by omega) (t.n j).ref (by simp only [List.length_append]; omega) (by simp; omega)
        rw [List.length_append, List.append_assoc] at ha
        simp only [List.length_singleton, List.singleton_append] at ha
        simp -implicitDefEqProofs (disch := (first | omega | (simp only [lenB, Tr.row_len, Rf.cells_len, Nd.cells_len, Tr.bl_len, Tr.nd_len] <;> omega) | fail)) only [admQ, lenB, Tr.row_len, Rf.cells_len, Nd.cells_len, Tr.bl_len, Tr.nd_len, aFill, AK.cls, implies_true, ↓reduceIte, reduceCtorEq, if_true, if_false, Nat.reduceAdd, Nat.reduceEqDiff, Nat.reduceMod, Nat.reduceLT, Nat.reduceLeDiff, Nat.reduceSub, Nat.reduceMul, Nat.reduceBEq, Int.reduceAdd, Int.reduceSub, Int.reduceMul, Int.reduceNeg, Int.reduceLT, Int.reduceLE, Int.reduceToNat, Int.reduceEq, Int.reduceBEq, e1, rf_zero, nd_zero, nd_zero2, splice_nd, splice_rf, take_nd, take_rf, drop_nd, nd_st, nd_at, hc.1, beq_self_eq_true, dec_t, dec_f, ha]
        exact hX (j + 1, x') _ _ rfl (by simp; omega) ⟨by simp; omega, hf2 _ _ (hk.trans (.app _ _ _)) (Nat.le_refl _), by rw [t.nd_take hlt, liveN_one, ← List.append_assoc, hg]; exact hg2⟩
      · have hg : goneN (t.n j) = [] := if_neg hc
        have hfin : RfL m.length (m1 ++ [.row (t.n j).cells false]) x (liveB t.bl ++ liveN (t.nd.take (j + 1))) := by
          rw [t.nd_take hlt, liveN_one, hg, List.append_nil]; exact hx.kept0 (.app _ _ _)
        by_cases hc1 : (t.n j).st = 1
        · have hc2 : ¬ 0 < (t.n j).ref.at_ := fun h => hc ⟨hc1, h⟩
          simp -implicitDefEqProofs (disch := (first | omega | (simp only [lenB, Tr.row_len, Rf.cells_len, Nd.cells_len, Tr.bl_len, Tr.nd_len] <;> omega) | fail)) only [admQ, lenB, Tr.row_len, Rf.cells_len, Nd.cells_len, Tr.bl_len, Tr.nd_len, aFill, AK.cls, implies_true, ↓reduceIte, reduceCtorEq, if_true, if_false, Nat.reduceAdd, Nat.reduceEqDiff, Nat.reduceMod, Nat.reduceLT, Nat.reduceLeDiff, Nat.reduceSub, Nat.reduceMul, Nat.reduceBEq, Int.reduceAdd, Int.reduceSub, Int.reduceMul, Int.reduceNeg, Int.reduceLT, Int.reduceLE, Int.reduceToNat, Int.reduceEq, Int.reduceBEq, e1, rf_zero, nd_zero, nd_zero2, splice_nd, take_nd, nd_st, nd_at, hc1, beq_self_eq_true, dec_t, dec_f]
          exact hX (j + 1, x) _ _ rfl (by simp; omega) ⟨by simp; omega, hk.trans (.app _ _ _), hfin⟩
        · simp -implicitDefEqProofs (disch := (first | omega | (simp only [lenB, Tr.row_len, Rf.cells_len, Nd.cells_len, Tr.bl_len, Tr.nd_len] <;> omega) | fail)) only [admQ, lenB, Tr.row_len, Rf.cells_len, Nd.cells_len, Tr.bl_len, Tr.nd_len, aFill, AK.cls, implies_true, ↓reduceIte, reduceCtorEq, if_true, if_false, Nat.reduceAdd, Nat.reduceEqDiff, Nat.reduceMod, Nat.reduceLT, Nat.reduceLeDiff, Nat.reduceSub, Nat.reduceMul, Nat.reduceBEq, Int.reduceAdd, Int.reduceSub, Int.reduceMul, Int.reduceNeg, Int.reduceLT, Int.reduceLE, Int.reduceToNat, Int.reduceEq, Int.reduceBEq, e1, rf_zero, nd_zero, nd_zero2, splice_nd, take_nd, nd_st, nd_at, beq_eq_false_iff_ne.mpr hc1]
          exact hX (j + 1, x) _ _ rfl (by simp; omega) ⟨by simp; omega, hk.trans (.app _ _ _), hfin⟩
    · obtain rfl : j = 9 := by omega
      rw [List.take_of_length_le (by rw [t.hn]; omega)] at hx
      simp -implicitDefEqProofs (disch := (first | omega | (simp only [lenB, Tr.row_len, Rf.cells_len, Nd.cells_len, Tr.bl_len, Tr.nd_len] <;> omega) | fail)) only [admQ, lenB, Tr.row_len, Rf.cells_len, Nd.cells_len, Tr.bl_len, Tr.nd_len, aFill, AK.cls, implies_true, ↓reduceIte, reduceCtorEq, if_true, if_false, Nat.reduceAdd, Nat.reduceEqDiff, Nat.reduceMod, Nat.reduceLT, Nat.reduceLeDiff, Nat.reduceSub, Nat.reduceMul, Nat.reduceBEq, Int.reduceAdd, Int.reduceSub, Int.reduceMul, Int.reduceNeg, Int.reduceLT, Int.reduceLE, Int.reduceToNat, Int.reduceEq, Int.reduceBEq]
      exact ⟨hx, hk⟩
end Go.Proofs.Ytmklcealhjmlgaa
end
section
/- The tree of blocks: what is dirty; what is saved. -/
namespace Go.Proofs.Ytmklcealhjmlgaa
open Go Go.Adm
set_option linter.unusedSimpArgs false
set_option maxRecDepth 100000
set_option maxHeartbeats 1000000
def natC (n : Nat) : List AV := [.int .i64 (n : Int)]
theorem natC_len (n : Nat) : (natC n).length = 1 := rfl
abbrev NatL := GrL natC 1
theorem flat_nats (l : List Nat) : flatOf natC l = nats l := by rw [flatOf, nats, List.map_eq_flatMap]; rfl
def dOrd : List Nat := [1, 2, 3, 4, 5, 6, 7, 8, 0]
theorem dOrd_take {j : Nat} (h1 : 1 ≤ j) (h2 : j ≤ 9) : dOrd.take j = dOrd.take (j - 1) ++ [j % 9] := by
  have : j = 1 ∨ j = 2 ∨ j = 3 ∨ j = 4 ∨ j = 5 ∨ j = 6 ∨ j = 7 ∨ j = 8 ∨ j = 9 := by omega
  rcases this with h | h | h | h | h | h | h | h | h <;> subst h <;> rfl
def Tr.dirtyIn (t : Tr) (l : List Nat) : List Nat := l.filter fun k => decide ((t.n k).st = 2)
def Tr.dirtyL (t : Tr) : List Nat := t.dirtyIn dOrd
theorem Tr.dirtyIn_one (t : Tr) (l : List Nat) (k : Nat) : t.dirtyIn (l ++ [k]) = t.dirtyIn l ++ if (t.n k).st = 2 then [k] else [] := by
  rw [Tr.dirtyIn, List.filter_append]
  by_cases h : (t.n k).st = 2 <;> simp [Tr.dirtyIn, h]
theorem Tr.dirtyIn_len (t : Tr) (l : List Nat) : (t.dirtyIn l).length ≤ l.length := List.length_filter_le _ _
theorem Tr.dirty_lt {t : Tr} {k : Nat} (h : k ∈ t.dirtyL) : k < 9 := by
  have := (List.mem_filter.mp h).1
  simp [dOrd] at this; omega
theorem ans_dirty {m : Mem} {p : Nat} {t : Tr} (hp : own m p = some t.row) : Ans Try.prog 21 [.ptr p 0] m fun x m' => NatL m.length m' x t.dirtyL ∧ Kept [] m m' := by
  refine ans_ret mixed ok21 ?_
  simp -implicitDefEqProofs (disch := (first | omega | (simp only [lenB, Tr.row_len, Rf.cells_len, Nd.cells_len, Tr.bl_len, Tr.nd_len] <;> omega) | fail)) only [admQ, lenB, Tr.row_len, Rf.cells_len, Nd.cells_len, Tr.bl_len, Tr.nd_len, aFill, AK.cls, implies_true, ↓reduceIte, reduceCtorEq, if_true, if_false, Nat.reduceAdd, Nat.reduceEqDiff, Nat.reduceMod, Nat.reduceLT, Nat.reduceLeDiff, Nat.reduceSub, Nat.reduceMul, Nat.reduceBEq, Int.reduceAdd, Int.reduceSub, Int.reduceMul, Int.reduceNeg, Int.reduceLT, Int.reduceLE, Int.reduceToNat, Int.reduceEq, Int.reduceBEq, c21, r21]
  refine LoopW.on (fun s : Nat × AV => [(0, .ptr p 0), (3, s.2), (4, .int .i64 s.1)]) (fun s => 10 - s.1)
    (fun s m' => (1 ≤ s.1 ∧ s.1 ≤ 10) ∧ Kept [] m m' ∧ NatL m.length m' s.2 (t.dirtyIn (dOrd.take (s.1 - 1)))) ?_ (1, .nils) _ _ rfl ⟨by omega, .refl _ _, .nils ..⟩
  rintro ⟨j, x⟩ m' X ⟨hj, hk, hx⟩ hX
  dsimp only at hj hk hx hX ⊢
  have hl0 := hk.len
  have hp' := hk.own0 hp
  by_cases hlt : j ≤ 9
  · have h9 : j % 9 < 9 := by omega
    have e1 := t.n_st h9
    have hll := t.dirtyIn_len (dOrd.take (j - 1))
    have hl2 : (dOrd.take (j - 1)).length ≤ 9 := by simp [dOrd]; omega
    by_cases hs : (t.n (j % 9)).st = 2
    · obtain ⟨x', m2, ha, hg2, hk2, hf2, hb2⟩ := hx.push (bytes := 8) natC_len (by omega) (j % 9) (by omega) (by omega)
      simp only [natC] at ha
      simp -implicitDefEqProofs (disch := (first | omega | (simp only [lenB, Tr.row_len, Rf.cells_len, Nd.cells_len, Tr.bl_len, Tr.nd_len] <;> omega) | fail)) only [admQ, lenB, Tr.row_len, Rf.cells_len, Nd.cells_len, Tr.bl_len, Tr.nd_len, aFill, AK.cls, implies_true, ↓reduceIte, reduceCtorEq, if_true, if_false, Nat.reduceAdd, Nat.reduceEqDiff, Nat.reduceMod, Nat.reduceLT, Nat.reduceLeDiff, Nat.reduceSub, Nat.reduceMul, Nat.reduceBEq, Int.reduceAdd, Int.reduceSub, Int.reduceMul, Int.reduceNeg, Int.reduceLT, Int.reduceLE, Int.reduceToNat, Int.reduceEq, Int.reduceBEq, rowOf_own hp', e1, hs, beq_self_eq_true, ha]
      exact hX (j + 1, x') _ _ rfl (by simp; omega) ⟨by simp; omega, hf2 _ _ hk (Nat.le_refl _), by rw [show j + 1 - 1 = j from rfl, dOrd_take hj.1 hlt, t.dirtyIn_one, if_pos hs]; exact hg2⟩
    · simp -implicitDefEqProofs (disch := (first | omega | (simp only [lenB, Tr.row_len, Rf.cells_len, Nd.cells_len, Tr.bl_len, Tr.nd_len] <;> omega) | fail)) only [admQ, lenB, Tr.row_len, Rf.cells_len, Nd.cells_len, Tr.bl_len, Tr.nd_len, aFill, AK.cls, implies_true, ↓reduceIte, reduceCtorEq, if_true, if_false, Nat.reduceAdd, Nat.reduceEqDiff, Nat.reduceMod, Nat.reduceLT, Nat.reduceLeDiff, Nat.reduceSub, Nat.reduceMul, Nat.reduceBEq, Int.reduceAdd, Int.reduceSub, Int.reduceMul, Int.reduceNeg, Int.reduceLT, Int.reduceLE, Int.reduceToNat, Int.reduceEq, Int.reduceBEq, rowOf_own hp', e1, beq_eq_false_iff_ne.mpr hs]
      exact hX (j + 1, x) _ _ rfl (by simp; omega) ⟨by simp; omega, hk, by rw [show j + 1 - 1 = j from rfl, dOrd_take hj.1 hlt, t.dirtyIn_one, if_neg hs, List.append_nil]; exact hx⟩
  · obtain rfl : j = 10 := by omega
    simp -implicitDefEqProofs (disch := (first | omega | (simp only [lenB, Tr.row_len, Rf.cells_len, Nd.cells_len, Tr.bl_len, Tr.nd_len] <;> omega) | fail)) only [admQ, lenB, Tr.row_len, Rf.cells_len, Nd.cells_len, Tr.bl_len, Tr.nd_len, aFill, AK.cls, implies_true, ↓reduceIte, reduceCtorEq, if_true, if_false, Nat.reduceAdd, Nat.reduceEqDiff, Nat.reduceMod, Nat.reduceLT, Nat.reduceLeDiff, Nat.reduceSub, Nat.reduceMul, Nat.reduceBEq, Int.reduceAdd, Int.reduceSub, Int.reduceMul, Int.reduceNeg, Int.reduceLT, Int.reduceLE, Int.reduceToNat, Int.reduceEq, Int.reduceBEq]
    exact ⟨hx, hk⟩
theorem ans_slind {m : Mem} {x : AV} {l : List Nat} {m0 : Nat} (h : NatL m0 m x l) (hn : l.length < 1000) (v : Int) :
    Ans Try.prog 53 [x, .int .i64 v] m fun y m' => (∃ w : Int, y = .int .i64 w ∧ (0 ≤ w ↔ ∃ i, i ∈ l ∧ (i : Int) = v)) ∧ m' = m := by
  refine ans_ret mixed ok53 ?_
  have hln := h.len
  simp -implicitDefEqProofs (disch := (first | omega | (simp only [lenB, Tr.row_len, Rf.cells_len, Nd.cells_len, Tr.bl_len, Tr.nd_len] <;> omega) | fail)) only [admQ, lenB, Tr.row_len, Rf.cells_len, Nd.cells_len, Tr.bl_len, Tr.nd_len, aFill, AK.cls, implies_true, ↓reduceIte, reduceCtorEq, if_true, if_false, Nat.reduceAdd, Nat.reduceEqDiff, Nat.reduceMod, Nat.reduceLT, Nat.reduceLeDiff, Nat.reduceSub, Nat.reduceMul, Nat.reduceBEq, Int.reduceAdd, Int.reduceSub, Int.reduceMul, Int.reduceNeg, Int.reduceLT, Int.reduceLE, Int.reduceToNat, Int.reduceEq, Int.reduceBEq, c53, r53, hln]
  refine LoopW.on (fun j : Nat => [(0, x), (1, .int .i64 v), (7, .int .i64 l.length), (8, .int .i64 j)]) (fun j => l.length - j)
    (fun j m' => j ≤ l.length ∧ m' = m ∧ ∀ i, i ∈ l.take j → ¬ (i : Int) = v) ?_ 0 _ _ rfl ⟨by omega, rfl, fun i hi => by simp at hi⟩
  rintro j m' X ⟨hj, rfl, hz⟩ hX
  by_cases hlt : j < l.length
  · obtain ⟨b, s, rfl, -, ho, -⟩ := h.sl_at hlt
    rw [flat_nats] at ho
    have e := nats_get (List.getElem?_eq_getElem hlt)
    by_cases hr : v = ((l[j] : Nat) : Int)
    · simp -implicitDefEqProofs (disch := (first | omega | (simp only [lenB, Tr.row_len, Rf.cells_len, Nd.cells_len, Tr.bl_len, Tr.nd_len] <;> omega) | fail)) only [admQ, lenB, Tr.row_len, Rf.cells_len, Nd.cells_len, Tr.bl_len, Tr.nd_len, aFill, AK.cls, implies_true, ↓reduceIte, reduceCtorEq, if_true, if_false, Nat.reduceAdd, Nat.reduceEqDiff, Nat.reduceMod, Nat.reduceLT, Nat.reduceLeDiff, Nat.reduceSub, Nat.reduceMul, Nat.reduceBEq, Int.reduceAdd, Int.reduceSub, Int.reduceMul, Int.reduceNeg, Int.reduceLT, Int.reduceLE, Int.reduceToNat, Int.reduceEq, Int.reduceBEq, rowOf_own ho, e, hr, beq_self_eq_true]
      exact ⟨_, rfl, ⟨fun _ => ⟨_, List.getElem_mem hlt, rfl⟩, fun _ => by omega⟩⟩
    · simp -implicitDefEqProofs (disch := (first | omega | (simp only [lenB, Tr.row_len, Rf.cells_len, Nd.cells_len, Tr.bl_len, Tr.nd_len] <;> omega) | fail)) only [admQ, lenB, Tr.row_len, Rf.cells_len, Nd.cells_len, Tr.bl_len, Tr.nd_len, aFill, AK.cls, implies_true, ↓reduceIte, reduceCtorEq, if_true, if_false, Nat.reduceAdd, Nat.reduceEqDiff, Nat.reduceMod, Nat.reduceLT, Nat.reduceLeDiff, Nat.reduceSub, Nat.reduceMul, Nat.reduceBEq, Int.reduceAdd, Int.reduceSub, Int.reduceMul, Int.reduceNeg, Int.reduceLT, Int.reduceLE, Int.reduceToNat, Int.reduceEq, Int.reduceBEq, rowOf_own ho, e, beq_eq_false_iff_ne.mpr hr]
      exact hX (j + 1) _ _ rfl (by omega) ⟨by omega, rfl, fun i hi => by
        rw [List.take_add_one, List.getElem?_eq_getElem hlt] at hi
        rcases List.mem_append.mp hi with hi | hi
        · exact hz i hi
        · simp at hi; rw [hi]; exact fun h => hr h.symm⟩
  · obtain rfl : j = l.length := by omega
    rw [List.take_length] at hz
    simp -implicitDefEqProofs (disch := (first | omega | (simp only [lenB, Tr.row_len, Rf.cells_len, Nd.cells_len, Tr.bl_len, Tr.nd_len] <;> omega) | fail)) only [admQ, lenB, Tr.row_len, Rf.cells_len, Nd.cells_len, Tr.bl_len, Tr.nd_len, aFill, AK.cls, implies_true, ↓reduceIte, reduceCtorEq, if_true, if_false, Nat.reduceAdd, Nat.reduceEqDiff, Nat.reduceMod, Nat.reduceLT, Nat.reduceLeDiff, Nat.reduceSub, Nat.reduceMul, Nat.reduceBEq, Int.reduceAdd, Int.reduceSub, Int.reduceMul, Int.reduceNeg, Int.reduceLT, Int.reduceLE, Int.reduceToNat, Int.reduceEq, Int.reduceBEq]
    exact ⟨_, rfl, by simp; exact hz⟩
theorem ans_slcon {m : Mem} {x : AV} {l : List Nat} {m0 : Nat} (h : NatL m0 m x l) (hn : l.length < 1000) (v : Int) :
    Ans Try.prog 35 [x, .int .i64 v] m fun y m' => (∃ b : Bool, y = .bool b ∧ (b = true ↔ ∃ i, i ∈ l ∧ (i : Int) = v)) ∧ m' = m := by
  refine ans_ret mixed ok35 ?_
  simp -implicitDefEqProofs (disch := (first | omega | (simp only [lenB, Tr.row_len, Rf.cells_len, Nd.cells_len, Tr.bl_len, Tr.nd_len] <;> omega) | fail)) only [admQ, lenB, Tr.row_len, Rf.cells_len, Nd.cells_len, Tr.bl_len, Tr.nd_len, aFill, AK.cls, implies_true, ↓reduceIte, reduceCtorEq, if_true, if_false, Nat.reduceAdd, Nat.reduceEqDiff, Nat.reduceMod, Nat.reduceLT, Nat.reduceLeDiff, Nat.reduceSub, Nat.reduceMul, Nat.reduceBEq, Int.reduceAdd, Int.reduceSub, Int.reduceMul, Int.reduceNeg, Int.reduceLT, Int.reduceLE, Int.reduceToNat, Int.reduceEq, Int.reduceBEq, c35, r35]
  refine (ans_slind h hn v).mono ?_
  rintro _ _ ⟨⟨w, rfl, hv⟩, rfl⟩
  simp -implicitDefEqProofs (disch := (first | omega | (simp only [lenB, Tr.row_len, Rf.cells_len, Nd.cells_len, Tr.bl_len, Tr.nd_len] <;> omega) | fail)) only [admQ, lenB, Tr.row_len, Rf.cells_len, Nd.cells_len, Tr.bl_len, Tr.nd_len, aFill, AK.cls, implies_true, ↓reduceIte, reduceCtorEq, if_true, if_false, Nat.reduceAdd, Nat.reduceEqDiff, Nat.reduceMod, Nat.reduceLT, Nat.reduceLeDiff, Nat.reduceSub, Nat.reduceMul, Nat.reduceBEq, Int.reduceAdd, Int.reduceSub, Int.reduceMul, Int.reduceNeg, Int.reduceLT, Int.reduceLE, Int.reduceToNat, Int.reduceEq, Int.reduceBEq]
  exact ⟨_, rfl, by simp only [decide_eq_true_eq, ge_iff_le]; exact hv⟩
def Tr.isDirty (t : Tr) (k : Int) : Prop := 0 ≤ k ∧ k ≤ 8 ∧ (t.n k.toNat).st = 2
instance (t : Tr) (k : Int) : Decidable (t.isDirty k) := inferInstanceAs (Decidable (_ ∧ _))
theorem Tr.isDirty_mem (t : Tr) (k : Int) : (∃ i, i ∈ t.dirtyL ∧ (i : Int) = k) ↔ t.isDirty k := by
  constructor
  · rintro ⟨i, hi, rfl⟩
    have := Tr.dirty_lt hi
    refine ⟨by omega, by omega, ?_⟩
    have := (List.mem_filter.mp hi).2
    simpa using this
  · rintro ⟨h1, h2, h3⟩
    refine ⟨k.toNat, List.mem_filter.mpr ⟨?_, by simpa using h3⟩, by omega⟩
    have : k.toNat = 0 ∨ k.toNat = 1 ∨ k.toNat = 2 ∨ k.toNat = 3 ∨ k.toNat = 4 ∨ k.toNat = 5 ∨ k.toNat = 6 ∨ k.toNat = 7 ∨ k.toNat = 8 := by omega
    simp only [dOrd, List.mem_cons, List.not_mem_nil, or_false]; omega
def Tr.savedE (t : Tr) (k : Int) (r : Rf) : Int :=
  if ¬ t.isDirty k ∨ k = 0 ∧ 1 < t.dirtyL.length then 16
  else if k = 0 ∧ t.mapped = 0 then (if r = Rf.zero then 0 else 7)
  else if r.at_ < 1 then 7 else 0
def Tr.savedT (t : Tr) (k : Int) (r : Rf) : Tr := if t.savedE k r = 0 then t.setN k.toNat ⟨1, r⟩ else t
def savTail : ACode := tlC (tlC (tlC c24))
theorem savCode : c24 = .seq (hdC c24) (.seq (hdC (tlC c24)) (.seq (hdC (tlC (tlC c24))) savTail)) := rfl
theorem nd_saved (r : Rf) : AV.int .i64 1 :: r.cells = (Nd.mk 1 r).cells := rfl
theorem nd_one : splice Nd.none.cells 0 [.int .i64 1] = (Nd.mk 1 Rf.zero).cells := rfl
theorem nd_built (r : Rf) : splice (Nd.mk 1 Rf.zero).cells 1 r.cells = (Nd.mk 1 r).cells := by
  simp only [splice, Nd.cells, List.take_succ_cons, List.take_zero, List.singleton_append, List.cons.injEq, true_and, List.cons_append]
  simp [Rf.cells_len, List.drop_of_length_le]
theorem sav_tail {m M : Mem} {p q : Nat} {t : Tr} {k : Nat} {r : Rf} (hkM : Kept [p] m M) (hp : own M p = some t.row) (hq : own M q = some r.cells) (hk : k < 9) {e : AFr} (he : e = [(34, .bool false)] ∨ e = [(33, .bool false)]) :
    wpA Try.prog savTail ((0, .ptr p 0) :: (1, .int .i64 k) :: (5, .ptr q 0) :: e) M (retQ [.tmp 6] fun x' m' => x' = .int .i64 0 ∧ Kept [p] m m' ∧ own m' p = some (t.setN k ⟨1, r⟩).row) := by
  rcases he with rfl | rfl
  all_goals
    simp only [savTail, tlC, c24]
    have hs := t.setN_row hk ⟨1, r⟩
    simp -implicitDefEqProofs (disch := (first | omega | (simp only [lenB, Tr.row_len, Rf.cells_len, Nd.cells_len, Tr.bl_len, Tr.nd_len] <;> omega) | fail)) only [admQ, lenB, Tr.row_len, Rf.cells_len, Nd.cells_len, Tr.bl_len, Tr.nd_len, aFill, AK.cls, implies_true, ↓reduceIte, reduceCtorEq, if_true, if_false, Nat.reduceAdd, Nat.reduceEqDiff, Nat.reduceMod, Nat.reduceLT, Nat.reduceLeDiff, Nat.reduceSub, Nat.reduceMul, Nat.reduceBEq, Int.reduceAdd, Int.reduceSub, Int.reduceMul, Int.reduceNeg, Int.reduceLT, Int.reduceLE, Int.reduceToNat, Int.reduceEq, Int.reduceBEq, rowOf_own hq, hp, take_rf, hs, nd_zero, rf_zero, nd_zero2, nd_one, nd_built]
    exact ⟨hkM.trans (.set1 _ _ _), own_set (own_lt hp) _⟩
theorem ans_saved {m : Mem} {p : Nat} {t : Tr} (hp : own m p = some t.row) (k : Int) (r : Rf) :
    Ans Try.prog 24 [.ptr p 0, .int .i64 k, .agg r.cells] m fun x m' => x = .int .i64 (t.savedE k r) ∧ Kept [p] m m' ∧ own m' p = some (t.savedT k r).row := by
  refine ans_ret mixed ok24 ?_
  rw [savCode]
  simp -implicitDefEqProofs (disch := (first | omega | (simp only [lenB, Tr.row_len, Rf.cells_len, Nd.cells_len, Tr.bl_len, Tr.nd_len] <;> omega) | fail)) only [admQ, lenB, Tr.row_len, Rf.cells_len, Nd.cells_len, Tr.bl_len, Tr.nd_len, aFill, AK.cls, implies_true, ↓reduceIte, reduceCtorEq, if_true, if_false, Nat.reduceAdd, Nat.reduceEqDiff, Nat.reduceMod, Nat.reduceLT, Nat.reduceLeDiff, Nat.reduceSub, Nat.reduceMul, Nat.reduceBEq, Int.reduceAdd, Int.reduceSub, Int.reduceMul, Int.reduceNeg, Int.reduceLT, Int.reduceLE, Int.reduceToNat, Int.reduceEq, Int.reduceBEq, hdC, tlC, c24, r24]
  refine (ans_dirty (own_app hp _)).mono ?_
  rintro x M ⟨hx, hk⟩
  have hq : own M m.length = some r.cells := hk.own0 (by rw [own_app_at0]; rfl)
  have hpM := hk.own0 (own_app hp _)
  have hkM : Kept [p] m M := ((Kept.app [] m _).trans hk).any
  have hlM := hk.len
  rw [List.length_append, List.length_singleton] at hlM
  have hdl : t.dirtyL.length ≤ 9 := t.dirtyIn_len dOrd
  have hxl := hx.len
  simp -implicitDefEqProofs (disch := (first | omega | (simp only [lenB, Tr.row_len, Rf.cells_len, Nd.cells_len, Tr.bl_len, Tr.nd_len] <;> omega) | fail)) only [admQ, lenB, Tr.row_len, Rf.cells_len, Nd.cells_len, Tr.bl_len, Tr.nd_len, aFill, AK.cls, implies_true, ↓reduceIte, reduceCtorEq, if_true, if_false, Nat.reduceAdd, Nat.reduceEqDiff, Nat.reduceMod, Nat.reduceLT, Nat.reduceLeDiff, Nat.reduceSub, Nat.reduceMul, Nat.reduceBEq, Int.reduceAdd, Int.reduceSub, Int.reduceMul, Int.reduceNeg, Int.reduceLT, Int.reduceLE, Int.reduceToNat, Int.reduceEq, Int.reduceBEq]
  refine (ans_slcon hx (by omega) k).mono ?_
  rintro _ _ ⟨⟨b, rfl, hb⟩, rfl⟩
  rename_i M
  rw [t.isDirty_mem] at hb
  by_cases hd : t.isDirty k
  · obtain rfl : b = true := hb.mpr hd
    obtain ⟨k, rfl⟩ := Int.eq_ofNat_of_zero_le hd.1
    have hk9 : k < 9 := by have := hd.2.1; omega
    by_cases h0 : k = 0
    · subst h0
      by_cases h1 : 1 < t.dirtyL.length
      · have he : t.savedE ((0 : Nat) : Int) r = 16 := if_pos (.inr ⟨rfl, h1⟩)
        rw [Tr.savedT, he, if_neg (by decide)]
        simp -implicitDefEqProofs (disch := (first | omega | (simp only [lenB, Tr.row_len, Rf.cells_len, Nd.cells_len, Tr.bl_len, Tr.nd_len] <;> omega) | fail)) only [admQ, lenB, Tr.row_len, Rf.cells_len, Nd.cells_len, Tr.bl_len, Tr.nd_len, aFill, AK.cls, implies_true, ↓reduceIte, reduceCtorEq, if_true, if_false, Nat.reduceAdd, Nat.reduceEqDiff, Nat.reduceMod, Nat.reduceLT, Nat.reduceLeDiff, Nat.reduceSub, Nat.reduceMul, Nat.reduceBEq, Int.reduceAdd, Int.reduceSub, Int.reduceMul, Int.reduceNeg, Int.reduceLT, Int.reduceLE, Int.reduceToNat, Int.reduceEq, Int.reduceBEq, hxl, dec_t, dec_f]
        exact ⟨hkM, hpM⟩
      · have he : t.savedE ((0 : Nat) : Int) r = if t.mapped = 0 then (if r = Rf.zero then 0 else 7) else if r.at_ < 1 then 7 else 0 := by
          rw [Tr.savedE, if_neg (by rintro (h | h); exact h hd; exact h1 h.2)]
          simp
        simp -implicitDefEqProofs (disch := (first | omega | (simp only [lenB, Tr.row_len, Rf.cells_len, Nd.cells_len, Tr.bl_len, Tr.nd_len] <;> omega) | fail)) only [admQ, lenB, Tr.row_len, Rf.cells_len, Nd.cells_len, Tr.bl_len, Tr.nd_len, aFill, AK.cls, implies_true, ↓reduceIte, reduceCtorEq, if_true, if_false, Nat.reduceAdd, Nat.reduceEqDiff, Nat.reduceMod, Nat.reduceLT, Nat.reduceLeDiff, Nat.reduceSub, Nat.reduceMul, Nat.reduceBEq, Int.reduceAdd, Int.reduceSub, Int.reduceMul, Int.reduceNeg, Int.reduceLT, Int.reduceLE, Int.reduceToNat, Int.reduceEq, Int.reduceBEq, hxl, dec_t, dec_f]
        refine (ans_bare hpM).mono ?_
        rintro _ M1 ⟨rfl, hk1⟩
        have hq1 := hk1.own0 hq
        have hp1 := hk1.own0 hpM
        have hk1' := hkM.trans hk1.any
        by_cases hm : t.mapped = 0
        · rw [if_pos hm] at he
          have ez := aEq_rf' r Rf.zero
          have ez0 := aEq_rf' Rf.zero Rf.zero
          by_cases hr : r = Rf.zero
          · rw [if_pos hr] at he
            rw [Tr.savedT, show t.savedE 0 r = 0 from he, if_pos rfl]
            simp -implicitDefEqProofs (disch := (first | omega | (simp only [lenB, Tr.row_len, Rf.cells_len, Nd.cells_len, Tr.bl_len, Tr.nd_len] <;> omega) | fail)) only [admQ, lenB, Tr.row_len, Rf.cells_len, Nd.cells_len, Tr.bl_len, Tr.nd_len, aFill, AK.cls, implies_true, ↓reduceIte, reduceCtorEq, if_true, if_false, Nat.reduceAdd, Nat.reduceEqDiff, Nat.reduceMod, Nat.reduceLT, Nat.reduceLeDiff, Nat.reduceSub, Nat.reduceMul, Nat.reduceBEq, Int.reduceAdd, Int.reduceSub, Int.reduceMul, Int.reduceNeg, Int.reduceLT, Int.reduceLE, Int.reduceToNat, Int.reduceEq, Int.reduceBEq, dec_t hm, rowOf_own hq1, take_rf, rf_zero, ez0, hr, beq_self_eq_true]
            rw [hr] at hq1
            exact sav_tail hk1' hp1 hq1 hk9 (.inr rfl)
          · rw [if_neg hr] at he
            rw [Tr.savedT, show t.savedE 0 r = 7 from he, if_neg (by decide)]
            simp -implicitDefEqProofs (disch := (first | omega | (simp only [lenB, Tr.row_len, Rf.cells_len, Nd.cells_len, Tr.bl_len, Tr.nd_len] <;> omega) | fail)) only [admQ, lenB, Tr.row_len, Rf.cells_len, Nd.cells_len, Tr.bl_len, Tr.nd_len, aFill, AK.cls, implies_true, ↓reduceIte, reduceCtorEq, if_true, if_false, Nat.reduceAdd, Nat.reduceEqDiff, Nat.reduceMod, Nat.reduceLT, Nat.reduceLeDiff, Nat.reduceSub, Nat.reduceMul, Nat.reduceBEq, Int.reduceAdd, Int.reduceSub, Int.reduceMul, Int.reduceNeg, Int.reduceLT, Int.reduceLE, Int.reduceToNat, Int.reduceEq, Int.reduceBEq, dec_t hm, rowOf_own hq1, take_rf, rf_zero, ez, beq_eq_false_iff_ne.mpr hr]
            exact ⟨hk1', hp1⟩
        · rw [if_neg hm] at he
          by_cases h2 : r.at_ < 1
          · rw [if_pos h2] at he
            rw [Tr.savedT, show t.savedE 0 r = 7 from he, if_neg (by decide)]
            simp -implicitDefEqProofs (disch := (first | omega | (simp only [lenB, Tr.row_len, Rf.cells_len, Nd.cells_len, Tr.bl_len, Tr.nd_len] <;> omega) | fail)) only [admQ, lenB, Tr.row_len, Rf.cells_len, Nd.cells_len, Tr.bl_len, Tr.nd_len, aFill, AK.cls, implies_true, ↓reduceIte, reduceCtorEq, if_true, if_false, Nat.reduceAdd, Nat.reduceEqDiff, Nat.reduceMod, Nat.reduceLT, Nat.reduceLeDiff, Nat.reduceSub, Nat.reduceMul, Nat.reduceBEq, Int.reduceAdd, Int.reduceSub, Int.reduceMul, Int.reduceNeg, Int.reduceLT, Int.reduceLE, Int.reduceToNat, Int.reduceEq, Int.reduceBEq, dec_f hm, rowOf_own hq1, rf_at, dec_t, dec_f]
            exact ⟨hk1', hp1⟩
          · rw [if_neg h2] at he
            rw [Tr.savedT, show t.savedE 0 r = 0 from he, if_pos rfl]
            simp -implicitDefEqProofs (disch := (first | omega | (simp only [lenB, Tr.row_len, Rf.cells_len, Nd.cells_len, Tr.bl_len, Tr.nd_len] <;> omega) | fail)) only [admQ, lenB, Tr.row_len, Rf.cells_len, Nd.cells_len, Tr.bl_len, Tr.nd_len, aFill, AK.cls, implies_true, ↓reduceIte, reduceCtorEq, if_true, if_false, Nat.reduceAdd, Nat.reduceEqDiff, Nat.reduceMod, Nat.reduceLT, Nat.reduceLeDiff, Nat.reduceSub, Nat.reduceMul, Nat.reduceBEq, Int.reduceAdd, Int.reduceSub, Int.reduceMul, Int.reduceNeg, Int.reduceLT, Int.reduceLE, Int.reduceToNat, Int.reduceEq, Int.reduceBEq, dec_f hm, rowOf_own hq1, rf_at, dec_t, dec_f]
            exact sav_tail hk1' hp1 hq1 hk9 (.inl rfl)
    · simp -implicitDefEqProofs (disch := (first | omega | (simp only [lenB, Tr.row_len, Rf.cells_len, Nd.cells_len, Tr.bl_len, Tr.nd_len] <;> omega) | fail)) only [admQ, lenB, Tr.row_len, Rf.cells_len, Nd.cells_len, Tr.bl_len, Tr.nd_len, aFill, AK.cls, implies_true, ↓reduceIte, reduceCtorEq, if_true, if_false, Nat.reduceAdd, Nat.reduceEqDiff, Nat.reduceMod, Nat.reduceLT, Nat.reduceLeDiff, Nat.reduceSub, Nat.reduceMul, Nat.reduceBEq, Int.reduceAdd, Int.reduceSub, Int.reduceMul, Int.reduceNeg, Int.reduceLT, Int.reduceLE, Int.reduceToNat, Int.reduceEq, Int.reduceBEq, hxl, dec_t, dec_f, beq_eq_false_iff_ne.mpr (show ¬ ((k : Nat) : Int) = 0 by omega)]
      have he : t.savedE (k : Int) r = if r.at_ < 1 then 7 else 0 := by
        rw [Tr.savedE, if_neg (by rintro (h | h); exact h hd; omega), if_neg (by omega)]
      by_cases h2 : r.at_ < 1
      · rw [if_pos h2] at he
        rw [Tr.savedT, he, if_neg (by decide)]
        simp -implicitDefEqProofs (disch := (first | omega | (simp only [lenB, Tr.row_len, Rf.cells_len, Nd.cells_len, Tr.bl_len, Tr.nd_len] <;> omega) | fail)) only [admQ, lenB, Tr.row_len, Rf.cells_len, Nd.cells_len, Tr.bl_len, Tr.nd_len, aFill, AK.cls, implies_true, ↓reduceIte, reduceCtorEq, if_true, if_false, Nat.reduceAdd, Nat.reduceEqDiff, Nat.reduceMod, Nat.reduceLT, Nat.reduceLeDiff, Nat.reduceSub, Nat.reduceMul, Nat.reduceBEq, Int.reduceAdd, Int.reduceSub, Int.reduceMul, Int.reduceNeg, Int.reduceLT, Int.reduceLE, Int.reduceToNat, Int.reduceEq, Int.reduceBEq, rowOf_own hq, rf_at, dec_t, dec_f]
        exact ⟨hkM, hpM⟩
      · rw [if_neg h2] at he
        rw [Tr.savedT, he, if_pos rfl, Int.toNat_natCast]
        simp -implicitDefEqProofs (disch := (first | omega | (simp only [lenB, Tr.row_len, Rf.cells_len, Nd.cells_len, Tr.bl_len, Tr.nd_len] <;> omega) | fail)) only [admQ, lenB, Tr.row_len, Rf.cells_len, Nd.cells_len, Tr.bl_len, Tr.nd_len, aFill, AK.cls, implies_true, ↓reduceIte, reduceCtorEq, if_true, if_false, Nat.reduceAdd, Nat.reduceEqDiff, Nat.reduceMod, Nat.reduceLT, Nat.reduceLeDiff, Nat.reduceSub, Nat.reduceMul, Nat.reduceBEq, Int.reduceAdd, Int.reduceSub, Int.reduceMul, Int.reduceNeg, Int.reduceLT, Int.reduceLE, Int.reduceToNat, Int.reduceEq, Int.reduceBEq, rowOf_own hq, rf_at, dec_t, dec_f]
        exact sav_tail hkM hpM hq hk9 (.inl rfl)
  · obtain rfl : b = false := by cases b with | false => rfl | true => exact absurd (hb.mp rfl) hd
    have he : t.savedE k r = 16 := if_pos (.inl hd)
    rw [Tr.savedT, he, if_neg (by decide)]
    simp -implicitDefEqProofs (disch := (first | omega | (simp only [lenB, Tr.row_len, Rf.cells_len, Nd.cells_len, Tr.bl_len, Tr.nd_len] <;> omega) | fail)) only [admQ, lenB, Tr.row_len, Rf.cells_len, Nd.cells_len, Tr.bl_len, Tr.nd_len, aFill, AK.cls, implies_true, ↓reduceIte, reduceCtorEq, if_true, if_false, Nat.reduceAdd, Nat.reduceEqDiff, Nat.reduceMod, Nat.reduceLT, Nat.reduceLeDiff, Nat.reduceSub, Nat.reduceMul, Nat.reduceBEq, Int.reduceAdd, Int.reduceSub, Int.reduceMul, Int.reduceNeg, Int.reduceLT, Int.reduceLE, Int.reduceToNat, Int.reduceEq, Int.reduceBEq]
    exact ⟨hkM, hpM⟩
end Go.Proofs.Ytmklcealhjmlgaa
end
section
/- The tree of blocks: a page; a new tree. -/
namespace Go.Proofs.Ytmklcealhjmlgaa
open Go Go.Adm
set_option linter.unusedSimpArgs false
set_option maxRecDepth 100000
set_option maxHeartbeats 1000000
def Tr.pageF (t : Tr) (k : Int) (i : Nat) : Rf :=
  if k = 0 then (if (t.n (i + 1)).st = 1 then (t.n (i + 1)).ref else Rf.zero)
  else if 1 ≤ k ∧ k ≤ 8 then t.b (8 * (k.toNat - 1) + i) else Rf.zero
def Tr.page (t : Tr) (k : Int) : List Rf := tab 8 (t.pageF k)
theorem tab_one {α : Type} (n : Nat) (f : Nat → α) : tab (n + 1) f = tab n f ++ [f n] := by simp [tab, List.range_succ]
theorem parts_flat {cells : List AV} {o : Nat} {rs : Nat → Rf} : ∀ n, o + n * 33 ≤ cells.length → (∀ i, i < n → (cells.drop (o + i * 33)).take 33 = (rs i).cells) → (cells.drop o).take (n * 33) = flatOf Rf.cells (tab n rs) := by
  intro n
  induction n with
  | zero => intro _ _; simp [tab, flatOf]
  | succ n ih =>
    intro h hp
    rw [Nat.add_mul, Nat.one_mul, List.take_add, ih (by omega) (fun i hi => hp i (by omega)), tab_one, flatOf_app, flatOf_one, List.drop_drop, ← hp n (by omega)]
theorem flat8_len (f : Nat → Rf) : (flatOf Rf.cells (tab 8 f)).length = 264 := by rw [flatOf_length Rf.cells_len, tab_len]
theorem flat8_set (f : Nat → Rf) {i : Nat} (h : i < 8) (r : Rf) : splice (flatOf Rf.cells (tab 8 f)) (i * 33) r.cells = flatOf Rf.cells (tab 8 fun j => if j = i then r else f j) := by
  rw [flatOf_set Rf.cells_len _ _ _ (by rw [tab_len]; exact h), set_tab]
theorem flat8_zero : flatOf Rf.cells (tab 8 fun _ => Rf.zero) = rep 8 Rf.zero.cells := rfl
theorem flatU_len (f g : Nat → Rf) (i : Nat) : (flatOf Rf.cells (upTo 8 f g i)).length = 264 := flat8_len _
theorem copy_refs {m : Mem} {p q o cap cap' s s' : Nat} {rs : Nat → Rf} {c : List AV} (h : SlR m p o 8 rs) (hq : own m q = some c) (hc : c.length = 264) :
    aCopy 33 (.sl q 0 8 cap s) (.sl p o 8 cap' s') m = some (.int .i64 (8 : Nat), m.set q (.row (flatOf Rf.cells (tab 8 rs)) false)) := by
  obtain ⟨cells, h1, h2, h3⟩ := h
  have e := parts_flat 8 h2 h3
  have hs : splice c 0 (flatOf Rf.cells (tab 8 rs)) = flatOf Rf.cells (tab 8 rs) := by
    simp [splice, flat8_len, List.drop_of_length_le, hc]
  unfold aCopy
  simp only [lenA, Option.bind_some, show Nat.min 8 8 = 8 from rfl, if_neg (show ¬ (8 : Nat) = 0 by decide), elems, Nat.le_refl, if_true, h1, if_pos h2, e, hq, hs, if_pos (show 0 + 8 * 33 ≤ c.length by omega)]
theorem take_flat8 (f : Nat → Rf) : (flatOf Rf.cells (tab 8 f)).take 264 = flatOf Rf.cells (tab 8 f) := List.take_of_length_le (by rw [flat8_len]; exact Nat.le_refl _)
theorem splice_flat8 (f g : Nat → Rf) : splice (flatOf Rf.cells (tab 8 f)) 0 (flatOf Rf.cells (tab 8 g)) = flatOf Rf.cells (tab 8 g) := by
  simp [splice, flat8_len, List.drop_of_length_le]
theorem ans_page {m : Mem} {p : Nat} {t : Tr} (hp : own m p = some t.row) (k : Int) : Ans Try.prog 18 [.ptr p 0, .int .i64 k] m fun x m' => x = .agg (flatOf Rf.cells (t.page k)) ∧ Kept [] m m' := by
  refine ans_ret mixed ok18 ?_
  by_cases h0 : k = 0
  · subst h0
    simp -implicitDefEqProofs (disch := (first | omega | (simp only [lenB, Tr.row_len, Rf.cells_len, Nd.cells_len, Tr.bl_len, Tr.nd_len, flat8_len, flatU_len] <;> omega) | fail)) only [admQ, lenB, Tr.row_len, Rf.cells_len, Nd.cells_len, Tr.bl_len, Tr.nd_len, flat8_len, flatU_len, aFill, AK.cls, implies_true, ↓reduceIte, reduceCtorEq, if_true, if_false, Nat.reduceAdd, Nat.reduceEqDiff, Nat.reduceMod, Nat.reduceLT, Nat.reduceLeDiff, Nat.reduceSub, Nat.reduceMul, Nat.reduceBEq, Int.reduceAdd, Int.reduceSub, Int.reduceMul, Int.reduceNeg, Int.reduceLT, Int.reduceLE, Int.reduceToNat, Int.reduceEq, Int.reduceBEq, c18, r18, rf_zero]
    have o4 : own (m ++ [.row (rep 8 Rf.zero.cells) false, .row (rep 8 Rf.zero.cells) false]) m.length = some (flatOf Rf.cells (tab 8 fun _ => Rf.zero)) := by rw [own_app_at0, own_c0]; rfl
    have o5 : own (m ++ [.row (rep 8 Rf.zero.cells) false, .row (rep 8 Rf.zero.cells) false]) (m.length + 1) = some (flatOf Rf.cells (tab 8 fun _ => Rf.zero)) := by rw [own_app_at, own_c, own_c0]; rfl
    have hpM := own_app hp [.row (rep 8 Rf.zero.cells) false, .row (rep 8 Rf.zero.cells) false]
    have hkM : Kept [] m (m ++ [.row (rep 8 Rf.zero.cells) false, .row (rep 8 Rf.zero.cells) false]) := .app _ _ _
    generalize m ++ [Blk.row (rep 8 Rf.zero.cells) false, Blk.row (rep 8 Rf.zero.cells) false] = M at *
    have hl5 := own_lt o5
    refine LoopW.on (fun j : Nat => [(0, .ptr p 0), (4, .ptr m.length 0), (5, .ptr (m.length + 1) 0), (11, .int .i64 j)]) (fun j => 8 - j)
      (fun j M => j ≤ 8 ∧ Kept [] m M ∧ own M p = some t.row ∧ own M m.length = some (flatOf Rf.cells (tab 8 fun _ => Rf.zero)) ∧ own M (m.length + 1) = some (flatOf Rf.cells (upTo 8 (t.pageF 0) (fun _ => Rf.zero) j))) ?_ 0 _ _ rfl ⟨by omega, hkM, hpM, o4, by rw [upTo_zero]; exact o5⟩
    clear hkM hpM o4 o5 hl5
    rintro j M X ⟨hj, hkM, hpM, o4, o5⟩ hX
    have hpl := own_lt hp
    have hl5 := own_lt o5
    by_cases hlt : j < 8
    · have e1 := t.n_part (i := j + 1) (by omega)
      have hne : ∀ q, q < M.length → q ≠ M.length := fun q h => by omega
      by_cases hs : (t.n (j + 1)).st = 1
      · have hf : t.pageF 0 j = (t.n (j + 1)).ref := by rw [Tr.pageF, if_pos rfl, if_pos hs]
        have hset : splice (flatOf Rf.cells (upTo 8 (t.pageF 0) (fun _ => Rf.zero) j)) (j * 33) (t.n (j + 1)).ref.cells = flatOf Rf.cells (upTo 8 (t.pageF 0) (fun _ => Rf.zero) (j + 1)) := by
          rw [flatOf_set Rf.cells_len _ _ _ (by rw [upTo_len]; exact hlt), ← hf, upTo_set]
        simp -implicitDefEqProofs (disch := (first | omega | (simp only [lenB, Tr.row_len, Rf.cells_len, Nd.cells_len, Tr.bl_len, Tr.nd_len, flat8_len, flatU_len] <;> omega) | fail)) only [admQ, lenB, Tr.row_len, Rf.cells_len, Nd.cells_len, Tr.bl_len, Tr.nd_len, flat8_len, flatU_len, aFill, AK.cls, implies_true, ↓reduceIte, reduceCtorEq, if_true, if_false, Nat.reduceAdd, Nat.reduceEqDiff, Nat.reduceMod, Nat.reduceLT, Nat.reduceLeDiff, Nat.reduceSub, Nat.reduceMul, Nat.reduceBEq, Int.reduceAdd, Int.reduceSub, Int.reduceMul, Int.reduceNeg, Int.reduceLT, Int.reduceLE, Int.reduceToNat, Int.reduceEq, Int.reduceBEq, rowOf_own hpM, own_app o5, e1, rf_zero, nd_zero, nd_zero2, splice_nd, take_nd, drop_nd, nd_st, hs, beq_self_eq_true, hset]
        have hk2 := (hkM.trans (.app [] M [.row (t.n (j + 1)).cells false])).trans (.app _ _ [])
        rw [List.append_nil] at hk2
        exact hX (j + 1) _ _ rfl (by omega) ⟨by omega, hk2.write (.inr (by omega)) _, own_set_ne' (own_app hpM _) (by omega) _, own_set_ne' (own_app o4 _) (by omega) _, own_set (own_lt (own_app o5 _)) _⟩
      · have hf : t.pageF 0 j = Rf.zero := by rw [Tr.pageF, if_pos rfl, if_neg hs]
        simp -implicitDefEqProofs (disch := (first | omega | (simp only [lenB, Tr.row_len, Rf.cells_len, Nd.cells_len, Tr.bl_len, Tr.nd_len, flat8_len, flatU_len] <;> omega) | fail)) only [admQ, lenB, Tr.row_len, Rf.cells_len, Nd.cells_len, Tr.bl_len, Tr.nd_len, flat8_len, flatU_len, aFill, AK.cls, implies_true, ↓reduceIte, reduceCtorEq, if_true, if_false, Nat.reduceAdd, Nat.reduceEqDiff, Nat.reduceMod, Nat.reduceLT, Nat.reduceLeDiff, Nat.reduceSub, Nat.reduceMul, Nat.reduceBEq, Int.reduceAdd, Int.reduceSub, Int.reduceMul, Int.reduceNeg, Int.reduceLT, Int.reduceLE, Int.reduceToNat, Int.reduceEq, Int.reduceBEq, rowOf_own hpM, e1, rf_zero, nd_zero, nd_zero2, splice_nd, take_nd, drop_nd, nd_st, beq_eq_false_iff_ne.mpr hs]
        have hu : upTo 8 (t.pageF 0) (fun _ => Rf.zero) (j + 1) = upTo 8 (t.pageF 0) (fun _ => Rf.zero) j := tab_ext fun i _ => by
          by_cases hij : i = j
          · subst hij; simp [hf]
          · by_cases h : i < j
            · rw [if_pos h, if_pos (by omega)]
            · rw [if_neg h, if_neg (by omega)]
        exact hX (j + 1) _ _ rfl (by omega) ⟨by omega, hkM.trans (.app _ _ _), own_app hpM _, own_app o4 _, by rw [hu]; exact own_app o5 _⟩
    · obtain rfl : j = 8 := by omega
      rw [upTo_all] at o5
      simp -implicitDefEqProofs (disch := (first | omega | (simp only [lenB, Tr.row_len, Rf.cells_len, Nd.cells_len, Tr.bl_len, Tr.nd_len, flat8_len, flatU_len] <;> omega) | fail)) only [admQ, lenB, Tr.row_len, Rf.cells_len, Nd.cells_len, Tr.bl_len, Tr.nd_len, flat8_len, flatU_len, aFill, AK.cls, implies_true, ↓reduceIte, reduceCtorEq, if_true, if_false, Nat.reduceAdd, Nat.reduceEqDiff, Nat.reduceMod, Nat.reduceLT, Nat.reduceLeDiff, Nat.reduceSub, Nat.reduceMul, Nat.reduceBEq, Int.reduceAdd, Int.reduceSub, Int.reduceMul, Int.reduceNeg, Int.reduceLT, Int.reduceLE, Int.reduceToNat, Int.reduceEq, Int.reduceBEq, rowOf_own o5, o4, take_flat8, splice_flat8, rowOf_set (own_lt o4)]
      exact ⟨rfl, hkM.write (.inr (by omega)) _⟩
  · by_cases h1 : 1 ≤ k ∧ k ≤ 8
    · obtain ⟨k, rfl⟩ := Int.eq_ofNat_of_zero_le (show 0 ≤ k by omega)
      simp -implicitDefEqProofs (disch := (first | omega | (simp only [lenB, Tr.row_len, Rf.cells_len, Nd.cells_len, Tr.bl_len, Tr.nd_len, flat8_len, flatU_len] <;> omega) | fail)) only [admQ, lenB, Tr.row_len, Rf.cells_len, Nd.cells_len, Tr.bl_len, Tr.nd_len, flat8_len, flatU_len, aFill, AK.cls, implies_true, ↓reduceIte, reduceCtorEq, if_true, if_false, Nat.reduceAdd, Nat.reduceEqDiff, Nat.reduceMod, Nat.reduceLT, Nat.reduceLeDiff, Nat.reduceSub, Nat.reduceMul, Nat.reduceBEq, Int.reduceAdd, Int.reduceSub, Int.reduceMul, Int.reduceNeg, Int.reduceLT, Int.reduceLE, Int.reduceToNat, Int.reduceEq, Int.reduceBEq, c18, r18, rf_zero, beq_eq_false_iff_ne.mpr h0]
      have o4 : own (m ++ [.row (rep 8 Rf.zero.cells) false, .row (rep 8 Rf.zero.cells) false]) m.length = some (flatOf Rf.cells (tab 8 fun _ => Rf.zero)) := by rw [own_app_at0, own_c0]; rfl
      have o5 : own (m ++ [.row (rep 8 Rf.zero.cells) false, .row (rep 8 Rf.zero.cells) false]) (m.length + 1) = some (flatOf Rf.cells (tab 8 fun _ => Rf.zero)) := by rw [own_app_at, own_c, own_c0]; rfl
      have hpM := own_app hp [.row (rep 8 Rf.zero.cells) false, .row (rep 8 Rf.zero.cells) false]
      have hkM : Kept [] m (m ++ [.row (rep 8 Rf.zero.cells) false, .row (rep 8 Rf.zero.cells) false]) := .app _ _ _
      generalize m ++ [Blk.row (rep 8 Rf.zero.cells) false, Blk.row (rep 8 Rf.zero.cells) false] = M at *
      have hl5 := own_lt o5
      refine (ans_within _ 1 8 M).mono ?_
      rintro _ _ ⟨rfl, rfl⟩
      rename_i M
      simp -implicitDefEqProofs (disch := (first | omega | (simp only [lenB, Tr.row_len, Rf.cells_len, Nd.cells_len, Tr.bl_len, Tr.nd_len, flat8_len, flatU_len] <;> omega) | fail)) only [admQ, lenB, Tr.row_len, Rf.cells_len, Nd.cells_len, Tr.bl_len, Tr.nd_len, flat8_len, flatU_len, aFill, AK.cls, implies_true, ↓reduceIte, reduceCtorEq, if_true, if_false, Nat.reduceAdd, Nat.reduceEqDiff, Nat.reduceMod, Nat.reduceLT, Nat.reduceLeDiff, Nat.reduceSub, Nat.reduceMul, Nat.reduceBEq, Int.reduceAdd, Int.reduceSub, Int.reduceMul, Int.reduceNeg, Int.reduceLT, Int.reduceLE, Int.reduceToNat, Int.reduceEq, Int.reduceBEq, dec_t h1, o4, o5, take_flat8, splice_flat8]
      have hk8 : 1 ≤ k ∧ k ≤ 8 := by omega
      refine (ans_span hpM hk8).mono ?_
      rintro _ _ ⟨⟨cap, s, rfl⟩, rfl⟩
      rename_i M
      have ha := copy_refs (cap := 8) (s := 0) (cap' := cap) (s' := s) (span_sl hpM hk8) o5 (flat8_len _)
      simp -implicitDefEqProofs (disch := (first | omega | (simp only [lenB, Tr.row_len, Rf.cells_len, Nd.cells_len, Tr.bl_len, Tr.nd_len, flat8_len, flatU_len] <;> omega) | fail)) only [admQ, lenB, Tr.row_len, Rf.cells_len, Nd.cells_len, Tr.bl_len, Tr.nd_len, flat8_len, flatU_len, aFill, AK.cls, implies_true, ↓reduceIte, reduceCtorEq, if_true, if_false, Nat.reduceAdd, Nat.reduceEqDiff, Nat.reduceMod, Nat.reduceLT, Nat.reduceLeDiff, Nat.reduceSub, Nat.reduceMul, Nat.reduceBEq, Int.reduceAdd, Int.reduceSub, Int.reduceMul, Int.reduceNeg, Int.reduceLT, Int.reduceLE, Int.reduceToNat, Int.reduceEq, Int.reduceBEq, ha]
      have hlm4 := own_lt o4
      have hq5 : own (List.set M (m.length + 1) (.row (flatOf Rf.cells (tab 8 fun j => t.b (8 * (k - 1) + j))) false)) (m.length + 1) = some (flatOf Rf.cells (tab 8 fun j => t.b (8 * (k - 1) + j))) := own_set (own_lt o5) _
      have hq4 : own (List.set M (m.length + 1) (.row (flatOf Rf.cells (tab 8 fun j => t.b (8 * (k - 1) + j))) false)) m.length = some (flatOf Rf.cells (tab 8 fun _ => Rf.zero)) := own_set_ne' o4 (by omega) _
      have hkq := hkM.write (q := m.length + 1) (.inr (by omega)) (.row (flatOf Rf.cells (tab 8 fun j => t.b (8 * (k - 1) + j))) false)
      generalize List.set M (m.length + 1) (Blk.row (flatOf Rf.cells (tab 8 fun j => t.b (8 * (k - 1) + j))) false) = M2 at *
      have hf : t.page (k : Int) = tab 8 fun j => t.b (8 * (k - 1) + j) := tab_ext fun i _ => by rw [Tr.pageF, if_neg h0, if_pos h1, Int.toNat_natCast]
      simp -implicitDefEqProofs (disch := (first | omega | (simp only [lenB, Tr.row_len, Rf.cells_len, Nd.cells_len, Tr.bl_len, Tr.nd_len, flat8_len, flatU_len] <;> omega) | fail)) only [admQ, lenB, Tr.row_len, Rf.cells_len, Nd.cells_len, Tr.bl_len, Tr.nd_len, flat8_len, flatU_len, aFill, AK.cls, implies_true, ↓reduceIte, reduceCtorEq, if_true, if_false, Nat.reduceAdd, Nat.reduceEqDiff, Nat.reduceMod, Nat.reduceLT, Nat.reduceLeDiff, Nat.reduceSub, Nat.reduceMul, Nat.reduceBEq, Int.reduceAdd, Int.reduceSub, Int.reduceMul, Int.reduceNeg, Int.reduceLT, Int.reduceLE, Int.reduceToNat, Int.reduceEq, Int.reduceBEq, rowOf_own hq5, hq4, take_flat8, splice_flat8, rowOf_set (own_lt hq4)]
      exact ⟨by rw [hf], hkq.write (.inr (by omega)) _⟩
    · simp -implicitDefEqProofs (disch := (first | omega | (simp only [lenB, Tr.row_len, Rf.cells_len, Nd.cells_len, Tr.bl_len, Tr.nd_len, flat8_len, flatU_len] <;> omega) | fail)) only [admQ, lenB, Tr.row_len, Rf.cells_len, Nd.cells_len, Tr.bl_len, Tr.nd_len, flat8_len, flatU_len, aFill, AK.cls, implies_true, ↓reduceIte, reduceCtorEq, if_true, if_false, Nat.reduceAdd, Nat.reduceEqDiff, Nat.reduceMod, Nat.reduceLT, Nat.reduceLeDiff, Nat.reduceSub, Nat.reduceMul, Nat.reduceBEq, Int.reduceAdd, Int.reduceSub, Int.reduceMul, Int.reduceNeg, Int.reduceLT, Int.reduceLE, Int.reduceToNat, Int.reduceEq, Int.reduceBEq, c18, r18, rf_zero, beq_eq_false_iff_ne.mpr h0]
      have o4 : own (m ++ [.row (rep 8 Rf.zero.cells) false, .row (rep 8 Rf.zero.cells) false]) m.length = some (flatOf Rf.cells (tab 8 fun _ => Rf.zero)) := by rw [own_app_at0, own_c0]; rfl
      have o5 : own (m ++ [.row (rep 8 Rf.zero.cells) false, .row (rep 8 Rf.zero.cells) false]) (m.length + 1) = some (flatOf Rf.cells (tab 8 fun _ => Rf.zero)) := by rw [own_app_at, own_c, own_c0]; rfl
      have hpM := own_app hp [.row (rep 8 Rf.zero.cells) false, .row (rep 8 Rf.zero.cells) false]
      have hkM : Kept [] m (m ++ [.row (rep 8 Rf.zero.cells) false, .row (rep 8 Rf.zero.cells) false]) := .app _ _ _
      generalize m ++ [Blk.row (rep 8 Rf.zero.cells) false, Blk.row (rep 8 Rf.zero.cells) false] = M at *
      have hl5 := own_lt o5
      refine (ans_within _ 1 8 M).mono ?_
      rintro _ _ ⟨rfl, rfl⟩
      rename_i M
      simp -implicitDefEqProofs (disch := (first | omega | (simp only [lenB, Tr.row_len, Rf.cells_len, Nd.cells_len, Tr.bl_len, Tr.nd_len, flat8_len, flatU_len] <;> omega) | fail)) only [admQ, lenB, Tr.row_len, Rf.cells_len, Nd.cells_len, Tr.bl_len, Tr.nd_len, flat8_len, flatU_len, aFill, AK.cls, implies_true, ↓reduceIte, reduceCtorEq, if_true, if_false, Nat.reduceAdd, Nat.reduceEqDiff, Nat.reduceMod, Nat.reduceLT, Nat.reduceLeDiff, Nat.reduceSub, Nat.reduceMul, Nat.reduceBEq, Int.reduceAdd, Int.reduceSub, Int.reduceMul, Int.reduceNeg, Int.reduceLT, Int.reduceLE, Int.reduceToNat, Int.reduceEq, Int.reduceBEq, dec_f h1, o4, rowOf_own o5, take_flat8, splice_flat8, rowOf_set (own_lt o4)]
      have hf : t.page k = tab 8 fun _ => Rf.zero := tab_ext fun i _ => by rw [Tr.pageF, if_neg h0, if_neg h1]
      exact ⟨by rw [hf], hkM.write (.inr (by omega)) _⟩
def Tr.new : Tr := ⟨List.replicate 64 Rf.zero, (List.replicate 9 Nd.none).set 0 ⟨1, Rf.zero⟩, by simp, by simp⟩
def Tr.zero : Tr := ⟨List.replicate 64 Rf.zero, List.replicate 9 Nd.none, by simp, by simp⟩
theorem tr_zero : rep 64 Rf.zero.cells ++ rep 9 Nd.none.cells = Tr.zero.row := by rfl
theorem tr_new : splice Tr.zero.row 2112 [.int .i64 1] = Tr.new.row := by rfl
theorem ans_trnew (m : Mem) : Ans Try.prog 10 [] m fun x m' => x = .ptr m.length 0 ∧ Kept [] m m' ∧ own m' m.length = some Tr.new.row := by
  refine ans_ret mixed ok10 ?_
  simp -implicitDefEqProofs (disch := (first | omega | (simp only [lenB, Tr.row_len, Rf.cells_len, Nd.cells_len, Tr.bl_len, Tr.nd_len, flat8_len, flatU_len] <;> omega) | fail)) only [admQ, lenB, Tr.row_len, Rf.cells_len, Nd.cells_len, Tr.bl_len, Tr.nd_len, flat8_len, flatU_len, aFill, AK.cls, implies_true, ↓reduceIte, reduceCtorEq, if_true, if_false, Nat.reduceAdd, Nat.reduceEqDiff, Nat.reduceMod, Nat.reduceLT, Nat.reduceLeDiff, Nat.reduceSub, Nat.reduceMul, Nat.reduceBEq, Int.reduceAdd, Int.reduceSub, Int.reduceMul, Int.reduceNeg, Int.reduceLT, Int.reduceLE, Int.reduceToNat, Int.reduceEq, Int.reduceBEq, c10, r10, rf_zero, nd_zero, nd_zero2, tr_zero, tr_new]
  exact .app _ _ _
end Go.Proofs.Ytmklcealhjmlgaa
end
section
/- The tree of blocks: Load. -/
namespace Go.Proofs.Ytmklcealhjmlgaa
open Go Go.Adm
set_option linter.unusedSimpArgs false
set_option maxRecDepth 100000
set_option maxHeartbeats 1000000
theorem flatOf_take {α : Type} {f : α → List AV} {k : Nat} (h : ∀ x, (f x).length = k) (l : List α) {o : Nat} (ho : o ≤ l.length) : (flatOf f l).take (o * k) = flatOf f (l.take o) := by
  have e : flatOf f l = flatOf f (l.take o) ++ flatOf f (l.drop o) := by rw [← flatOf_app, List.take_append_drop]
  have hl : (flatOf f (l.take o)).length = o * k := by rw [flatOf_length h, List.length_take, Nat.min_eq_left ho]
  rw [e, ← hl, List.take_left]
theorem flatOf_drop {α : Type} {f : α → List AV} {k : Nat} (h : ∀ x, (f x).length = k) (l : List α) {o : Nat} (ho : o ≤ l.length) : (flatOf f l).drop (o * k) = flatOf f (l.drop o) := by
  have e : flatOf f l = flatOf f (l.take o) ++ flatOf f (l.drop o) := by rw [← flatOf_app, List.take_append_drop]
  have hl : (flatOf f (l.take o)).length = o * k := by rw [flatOf_length h, List.length_take, Nat.min_eq_left ho]
  rw [e, ← hl, List.drop_left]
theorem flatOf_splice {α : Type} {f : α → List AV} {k : Nat} (h : ∀ x, (f x).length = k) (l l2 : List α) {o : Nat} (ho : o + l2.length ≤ l.length) : splice (flatOf f l) (o * k) (flatOf f l2) = flatOf f (l.take o ++ l2 ++ l.drop (o + l2.length)) := by
  rw [splice, flatOf_take h l (by omega), flatOf_length h, ← Nat.add_mul, flatOf_drop h l ho, flatOf_app, flatOf_app]
def Tr.setSpan (t : Tr) (i : Nat) (g : Nat → Rf) : Tr := if h : 8 * i + 8 ≤ 64 then ⟨t.bl.take (8 * i) ++ tab 8 g ++ t.bl.drop (8 * i + 8), t.nd, by simp [tab_len, t.hb]; omega, t.hn⟩ else t
theorem Tr.setSpan_row (t : Tr) {i : Nat} (h : i < 8) (g : Nat → Rf) : splice t.row (8 * i * 33) (flatOf Rf.cells (tab 8 g)) = (t.setSpan i g).row := by
  have e := flatOf_splice Rf.cells_len t.bl (tab 8 g) (o := 8 * i) (by rw [tab_len, t.hb]; omega)
  rw [tab_len] at e
  rw [Tr.row, splice_app_l (by rw [t.bl_len, flat8_len]; omega), e, Tr.setSpan, dif_pos (by omega)]
  rfl
theorem span_get {l : List Rf} {o : Nat} (g : Nat → Rf) (h : o + 8 ≤ l.length) (j : Nat) : (l.take o ++ tab 8 g ++ l.drop (o + 8))[j]? = if o ≤ j ∧ j < o + 8 then some (g (j - o)) else l[j]? := by
  by_cases h1 : j < o
  · rw [if_neg (by omega), List.getElem?_append_left (by simp [tab_len]; omega), List.getElem?_append_left (by simp; omega), List.getElem?_take_of_lt h1]
  · by_cases h2 : j < o + 8
    · rw [if_pos (by omega), List.getElem?_append_left (by simp [tab_len]; omega), List.getElem?_append_right (by simp; omega)]
      rw [List.length_take, Nat.min_eq_left (by omega), tab_get _ (by omega)]
    · rw [if_neg (by omega), List.getElem?_append_right (by simp [tab_len]; omega), List.getElem?_drop]
      congr 1
      simp [tab_len]; omega
theorem Tr.setSpan_b (t : Tr) {i j : Nat} (h : i < 8) (g : Nat → Rf) : (t.setSpan i g).b j = if 8 * i ≤ j ∧ j < 8 * i + 8 then g (j - 8 * i) else t.b j := by
  rw [Tr.setSpan, dif_pos (by omega)]
  simp only [Tr.b, List.getD_eq_getElem?_getD]
  rw [span_get g (by rw [t.hb]; omega)]
  split <;> rfl
theorem Tr.setSpan_n (t : Tr) (i j : Nat) (g : Nat → Rf) : (t.setSpan i g).n j = t.n j := by
  unfold Tr.setSpan; split <;> rfl
def Rf.low (r : Rf) : Rf := if r.at_ < 1 then Rf.zero else r
def pgSome (f : Nat → Rf) : Prop := ∃ i, i < 8 ∧ 0 < (f i).at_
instance (f : Nat → Rf) : Decidable (pgSome f) := inferInstanceAs (Decidable (∃ i, i < 8 ∧ _))
def Tr.loadE (t : Tr) (k : Int) (f : Nat → Rf) (r : Rf) : Int :=
  if ¬ (0 ≤ k ∧ k ≤ 8) ∨ r.at_ < 1 then 7
  else if ¬ (t.n k.toNat = Nd.none ∨ t.n k.toNat = ⟨1, Rf.zero⟩) then 16
  else if 0 < k ∧ ¬ pgSome f then 7 else 0
def Tr.loadS (t : Tr) (k : Int) (f : Nat → Rf) : Tr := if k = 0 then t else t.setSpan (k.toNat - 1) fun i => (f i).low
def Tr.loadT (t : Tr) (k : Int) (f : Nat → Rf) (r : Rf) : Tr := if t.loadE k f r = 0 then (t.loadS k f).setN k.toNat ⟨1, r⟩ else t
theorem aEq_nd' (r s : Nd) : aEqCells (List.replicate 34 .i) r.cells s.cells = some (r == s) := aEq_nd r s
def ldTail : ACode := tlC (tlC (tlC c25))
theorem ldCode : c25 = .seq (hdC c25) (.seq (hdC (tlC c25)) (.seq (hdC (tlC (tlC c25))) ldTail)) := rfl
theorem ld_tail {m M : Mem} {p q q6 : Nat} {t : Tr} {k : Nat} {r : Rf} (hkM : Kept [p] m M) (hp : own M p = some t.row) (hq : own M q = some r.cells) (hk : k < 9) {e : AFr}
    (he : e = [(0, .ptr p 0), (1, .int .i64 k), (7, .ptr q 0)] ∨ e = [(0, .ptr p 0), (1, .int .i64 k), (6, .ptr q6 0), (7, .ptr q 0), (41, .bool false)]) :
    wpA Try.prog ldTail e M (retQ [.tmp 8] fun x' m' => x' = .int .i64 0 ∧ Kept [p] m m' ∧ own m' p = some (t.setN k ⟨1, r⟩).row) := by
  rcases he with rfl | rfl
  all_goals
    simp only [ldTail, tlC, c25]
    have hs := t.setN_row hk ⟨1, r⟩
    simp -implicitDefEqProofs (disch := (first | omega | (simp only [lenB, Tr.row_len, Rf.cells_len, Nd.cells_len, Tr.bl_len, Tr.nd_len, flat8_len, flatU_len] <;> omega) | fail)) only [admQ, lenB, Tr.row_len, Rf.cells_len, Nd.cells_len, Tr.bl_len, Tr.nd_len, flat8_len, flatU_len, aFill, AK.cls, implies_true, ↓reduceIte, reduceCtorEq, if_true, if_false, Nat.reduceAdd, Nat.reduceEqDiff, Nat.reduceMod, Nat.reduceLT, Nat.reduceLeDiff, Nat.reduceSub, Nat.reduceMul, Nat.reduceBEq, Int.reduceAdd, Int.reduceSub, Int.reduceMul, Int.reduceNeg, Int.reduceLT, Int.reduceLE, Int.reduceToNat, Int.reduceEq, Int.reduceBEq, rowOf_own hq, hp, take_rf, hs, nd_zero, rf_zero, nd_zero2, nd_one, nd_built]
    exact ⟨hkM.trans (.set1 _ _ _), own_set (own_lt hp) _⟩
theorem copy_refs2 {m : Mem} {p q o d cap cap' s s' : Nat} {rs : Nat → Rf} {c : List AV} (h : SlR m p o 8 rs) (hq : own m q = some c) (hc : d + 264 ≤ c.length) :
    aCopy 33 (.sl q d 8 cap s) (.sl p o 8 cap' s') m = some (.int .i64 (8 : Nat), m.set q (.row (splice c d (flatOf Rf.cells (tab 8 rs))) false)) := by
  obtain ⟨cells, h1, h2, h3⟩ := h
  have e := parts_flat 8 h2 h3
  unfold aCopy
  simp only [lenA, Option.bind_some, show Nat.min 8 8 = 8 from rfl, if_neg (show ¬ (8 : Nat) = 0 by decide), elems, Nat.le_refl, if_true, h1, if_pos h2, e, hq, if_pos (show d + 8 * 33 ≤ c.length by omega)]
theorem flat8_part (f : Nat → Rf) {i : Nat} (h : i < 8) : ((flatOf Rf.cells (tab 8 f)).drop (i * 33)).take 33 = (f i).cells := by
  have hi : i < (tab 8 f).length := by rw [tab_len]; exact h
  rw [flatOf_get Rf.cells_len _ i hi]
  have := tab_get f h
  rw [List.getElem?_eq_getElem hi, Option.some.injEq] at this
  rw [this]
theorem flat8_sl {m : Mem} {q : Nat} {f : Nat → Rf} (h : own m q = some (flatOf Rf.cells (tab 8 f))) : SlR m q 0 8 f :=
  ⟨_, rowOf_own h, by rw [flat8_len]; omega, fun i hi => by rw [Nat.zero_add]; exact flat8_part f hi⟩
def ldMid : ACode := tlC (tlC c25)
theorem ldCode2 : c25 = .seq (hdC c25) (.seq (hdC (tlC c25)) ldMid) := rfl
theorem ldMidCode : ldMid = .seq (hdC ldMid) ldTail := rfl
theorem ld_mid {m M : Mem} {p q6 q7 : Nat} {t : Tr} {k : Nat} {f : Nat → Rf} {r : Rf} (hkM : Kept [p] m M) (hp : own M p = some t.row) (h6 : own M q6 = some (flatOf Rf.cells (tab 8 f))) (h7 : own M q7 = some r.cells) (hk : k < 9)
    (hpm : p < m.length) (hm6 : m.length ≤ q6) (h67 : q6 ≠ q7) (hm7 : m.length ≤ q7) :
    wpA Try.prog ldMid [(0, .ptr p 0), (1, .int .i64 k), (6, .ptr q6 0), (7, .ptr q7 0), (21, .bool false)] M (retQ [.tmp 8] fun x' m' => x' = .int .i64 (if 0 < k ∧ ¬ pgSome f then 7 else 0) ∧ Kept [p] m m' ∧ own m' p = some (if 0 < k ∧ ¬ pgSome f then t else (t.loadS (k : Int) f).setN k ⟨1, r⟩).row) := by
  rw [ldMidCode]
  by_cases h0 : k = 0
  · subst h0
    simp -implicitDefEqProofs (disch := (first | omega | (simp only [lenB, Tr.row_len, Rf.cells_len, Nd.cells_len, Tr.bl_len, Tr.nd_len, flat8_len, flatU_len] <;> omega) | fail)) only [admQ, lenB, Tr.row_len, Rf.cells_len, Nd.cells_len, Tr.bl_len, Tr.nd_len, flat8_len, flatU_len, aFill, AK.cls, implies_true, ↓reduceIte, reduceCtorEq, if_true, if_false, Nat.reduceAdd, Nat.reduceEqDiff, Nat.reduceMod, Nat.reduceLT, Nat.reduceLeDiff, Nat.reduceSub, Nat.reduceMul, Nat.reduceBEq, Int.reduceAdd, Int.reduceSub, Int.reduceMul, Int.reduceNeg, Int.reduceLT, Int.reduceLE, Int.reduceToNat, Int.reduceEq, Int.reduceBEq, hdC, tlC, ldMid, c25, dec_t, dec_f]
    rw [Tr.loadS, if_pos rfl]
    exact ld_tail hkM hp h7 hk (.inr rfl)
  · simp -implicitDefEqProofs (disch := (first | omega | (simp only [lenB, Tr.row_len, Rf.cells_len, Nd.cells_len, Tr.bl_len, Tr.nd_len, flat8_len, flatU_len] <;> omega) | fail)) only [admQ, lenB, Tr.row_len, Rf.cells_len, Nd.cells_len, Tr.bl_len, Tr.nd_len, flat8_len, flatU_len, aFill, AK.cls, implies_true, ↓reduceIte, reduceCtorEq, if_true, if_false, Nat.reduceAdd, Nat.reduceEqDiff, Nat.reduceMod, Nat.reduceLT, Nat.reduceLeDiff, Nat.reduceSub, Nat.reduceMul, Nat.reduceBEq, Int.reduceAdd, Int.reduceSub, Int.reduceMul, Int.reduceNeg, Int.reduceLT, Int.reduceLE, Int.reduceToNat, Int.reduceEq, Int.reduceBEq, hdC, tlC, ldMid, c25, rowOf_own h6, take_flat8, dec_t, dec_f]
    have hl6 := own_lt h6
    have hl7 := own_lt h7
    have hlp := own_lt hp
    refine LoopW.on (fun s : Nat × Bool => [(0, .ptr p 0), (1, .int .i64 k), (6, .ptr q6 0), (7, .ptr q7 0), (9, .bool s.2), (43, .agg (flatOf Rf.cells (tab 8 f))), (44, .int .i64 s.1)]) (fun s => 8 - s.1)
      (fun s M' => s.1 ≤ 8 ∧ Kept [q6] M M' ∧ own M' q6 = some (flatOf Rf.cells (upTo 8 (fun i => (f i).low) f s.1)) ∧ (s.2 = true ↔ ∃ i, i < s.1 ∧ 0 < (f i).at_)) ?_ (0, false) _ _ rfl ⟨by omega, .refl _ _, by rw [upTo_zero]; exact h6, by simp⟩
    rintro ⟨j, sm⟩ M' X ⟨hj, hk', h6', hsm⟩ hX
    dsimp only at hj hk' h6' hsm hX ⊢
    by_cases hlt : j < 8
    · have e1 := flat8_part f hlt
      have hset : splice (flatOf Rf.cells (upTo 8 (fun i => (f i).low) f j)) (j * 33) (f j).low.cells = flatOf Rf.cells (upTo 8 (fun i => (f i).low) f (j + 1)) := by
        rw [flatOf_set Rf.cells_len _ _ _ (by rw [upTo_len]; exact hlt), upTo_set (f := fun i => (f i).low)]
      by_cases ha : (f j).at_ < 1
      · have hlow : (f j).low = Rf.zero := if_pos ha
        rw [hlow] at hset
        have hz : ¬ 0 < Rf.zero.at_ := by decide
        have hfin : (∃ i, i < j + 1 ∧ 0 < (f i).at_) ↔ ∃ i, i < j ∧ 0 < (f i).at_ := by
          constructor
          · rintro ⟨i, h, h'⟩
            have : i ≠ j := fun e => by subst e; omega
            exact ⟨i, by omega, h'⟩
          · rintro ⟨i, h, h'⟩
            exact ⟨i, by omega, h'⟩
        have hown := own_set (own_lt (own_app h6' [.row Rf.zero.cells false])) (flatOf Rf.cells (upTo 8 (fun i => (f i).low) f (j + 1)))
        have hkk := (hk'.more_app [.row Rf.zero.cells false]).write (.inl (List.mem_singleton.mpr rfl)) (.row (flatOf Rf.cells (upTo 8 (fun i => (f i).low) f (j + 1))) false)
        cases sm
        · simp -implicitDefEqProofs (disch := (first | omega | (simp only [lenB, Tr.row_len, Rf.cells_len, Nd.cells_len, Tr.bl_len, Tr.nd_len, flat8_len, flatU_len] <;> omega) | fail)) only [admQ, lenB, Tr.row_len, Rf.cells_len, Nd.cells_len, Tr.bl_len, Tr.nd_len, flat8_len, flatU_len, aFill, AK.cls, implies_true, ↓reduceIte, reduceCtorEq, if_true, if_false, Nat.reduceAdd, Nat.reduceEqDiff, Nat.reduceMod, Nat.reduceLT, Nat.reduceLeDiff, Nat.reduceSub, Nat.reduceMul, Nat.reduceBEq, Int.reduceAdd, Int.reduceSub, Int.reduceMul, Int.reduceNeg, Int.reduceLT, Int.reduceLE, Int.reduceToNat, Int.reduceEq, Int.reduceBEq, e1, rf_zero, splice_rf, take_rf, rf_at, dec_t, dec_f, dec_f hz, own_app h6', hset]
          exact hX (j + 1, false) _ _ rfl (by simp; omega) ⟨by simp; omega, hkk, hown, by rw [hfin]; exact hsm⟩
        · simp -implicitDefEqProofs (disch := (first | omega | (simp only [lenB, Tr.row_len, Rf.cells_len, Nd.cells_len, Tr.bl_len, Tr.nd_len, flat8_len, flatU_len] <;> omega) | fail)) only [admQ, lenB, Tr.row_len, Rf.cells_len, Nd.cells_len, Tr.bl_len, Tr.nd_len, flat8_len, flatU_len, aFill, AK.cls, implies_true, ↓reduceIte, reduceCtorEq, if_true, if_false, Nat.reduceAdd, Nat.reduceEqDiff, Nat.reduceMod, Nat.reduceLT, Nat.reduceLeDiff, Nat.reduceSub, Nat.reduceMul, Nat.reduceBEq, Int.reduceAdd, Int.reduceSub, Int.reduceMul, Int.reduceNeg, Int.reduceLT, Int.reduceLE, Int.reduceToNat, Int.reduceEq, Int.reduceBEq, e1, rf_zero, splice_rf, take_rf, rf_at, dec_t, dec_f, own_app h6', hset]
          exact hX (j + 1, true) _ _ rfl (by simp; omega) ⟨by simp; omega, hkk, hown, by rw [hfin]; exact hsm⟩
      · have hlow : (f j).low = f j := if_neg ha
        rw [hlow] at hset
        have hown := own_set (own_lt (own_app h6' [.row (f j).cells false])) (flatOf Rf.cells (upTo 8 (fun i => (f i).low) f (j + 1)))
        have hkk := (hk'.more_app [.row (f j).cells false]).write (.inl (List.mem_singleton.mpr rfl)) (.row (flatOf Rf.cells (upTo 8 (fun i => (f i).low) f (j + 1))) false)
        have hfin : true = true ↔ ∃ i, i < j + 1 ∧ 0 < (f i).at_ := ⟨fun _ => ⟨j, by omega, by omega⟩, fun _ => rfl⟩
        cases sm
        · simp -implicitDefEqProofs (disch := (first | omega | (simp only [lenB, Tr.row_len, Rf.cells_len, Nd.cells_len, Tr.bl_len, Tr.nd_len, flat8_len, flatU_len] <;> omega) | fail)) only [admQ, lenB, Tr.row_len, Rf.cells_len, Nd.cells_len, Tr.bl_len, Tr.nd_len, flat8_len, flatU_len, aFill, AK.cls, implies_true, ↓reduceIte, reduceCtorEq, if_true, if_false, Nat.reduceAdd, Nat.reduceEqDiff, Nat.reduceMod, Nat.reduceLT, Nat.reduceLeDiff, Nat.reduceSub, Nat.reduceMul, Nat.reduceBEq, Int.reduceAdd, Int.reduceSub, Int.reduceMul, Int.reduceNeg, Int.reduceLT, Int.reduceLE, Int.reduceToNat, Int.reduceEq, Int.reduceBEq, e1, rf_zero, splice_rf, take_rf, rf_at, dec_t, dec_f, own_app h6', hset]
          exact hX (j + 1, true) _ _ rfl (by simp; omega) ⟨by simp; omega, hkk, hown, hfin⟩
        · simp -implicitDefEqProofs (disch := (first | omega | (simp only [lenB, Tr.row_len, Rf.cells_len, Nd.cells_len, Tr.bl_len, Tr.nd_len, flat8_len, flatU_len] <;> omega) | fail)) only [admQ, lenB, Tr.row_len, Rf.cells_len, Nd.cells_len, Tr.bl_len, Tr.nd_len, flat8_len, flatU_len, aFill, AK.cls, implies_true, ↓reduceIte, reduceCtorEq, if_true, if_false, Nat.reduceAdd, Nat.reduceEqDiff, Nat.reduceMod, Nat.reduceLT, Nat.reduceLeDiff, Nat.reduceSub, Nat.reduceMul, Nat.reduceBEq, Int.reduceAdd, Int.reduceSub, Int.reduceMul, Int.reduceNeg, Int.reduceLT, Int.reduceLE, Int.reduceToNat, Int.reduceEq, Int.reduceBEq, e1, rf_zero, splice_rf, take_rf, rf_at, dec_t, dec_f, own_app h6', hset]
          exact hX (j + 1, true) _ _ rfl (by simp; omega) ⟨by simp; omega, hkk, hown, hfin⟩
    · obtain rfl : j = 8 := by omega
      rw [upTo_all] at h6'
      have hkM' : Kept [p] m M' := hkM.fresh hk' (fun q hq => by simp at hq; omega)
      have hp' := hk'.own hp (by simp; omega)
      have h7' := hk'.own h7 (by simp; omega)
      have hk8 : 1 ≤ k ∧ k ≤ 8 := by omega
      cases sm
      · have hn : 0 < k ∧ ¬ pgSome f := ⟨by omega, fun h => by cases hsm.mpr h⟩
        rw [if_pos hn, if_pos hn]
        simp -implicitDefEqProofs (disch := (first | omega | (simp only [lenB, Tr.row_len, Rf.cells_len, Nd.cells_len, Tr.bl_len, Tr.nd_len, flat8_len, flatU_len] <;> omega) | fail)) only [admQ, lenB, Tr.row_len, Rf.cells_len, Nd.cells_len, Tr.bl_len, Tr.nd_len, flat8_len, flatU_len, aFill, AK.cls, implies_true, ↓reduceIte, reduceCtorEq, if_true, if_false, Nat.reduceAdd, Nat.reduceEqDiff, Nat.reduceMod, Nat.reduceLT, Nat.reduceLeDiff, Nat.reduceSub, Nat.reduceMul, Nat.reduceBEq, Int.reduceAdd, Int.reduceSub, Int.reduceMul, Int.reduceNeg, Int.reduceLT, Int.reduceLE, Int.reduceToNat, Int.reduceEq, Int.reduceBEq]
        exact ⟨hkM', hp'⟩
      · have hn : ¬ (0 < k ∧ ¬ pgSome f) := fun h => h.2 (hsm.mp rfl)
        rw [if_neg hn, if_neg hn]
        simp -implicitDefEqProofs (disch := (first | omega | (simp only [lenB, Tr.row_len, Rf.cells_len, Nd.cells_len, Tr.bl_len, Tr.nd_len, flat8_len, flatU_len] <;> omega) | fail)) only [admQ, lenB, Tr.row_len, Rf.cells_len, Nd.cells_len, Tr.bl_len, Tr.nd_len, flat8_len, flatU_len, aFill, AK.cls, implies_true, ↓reduceIte, reduceCtorEq, if_true, if_false, Nat.reduceAdd, Nat.reduceEqDiff, Nat.reduceMod, Nat.reduceLT, Nat.reduceLeDiff, Nat.reduceSub, Nat.reduceMul, Nat.reduceBEq, Int.reduceAdd, Int.reduceSub, Int.reduceMul, Int.reduceNeg, Int.reduceLT, Int.reduceLE, Int.reduceToNat, Int.reduceEq, Int.reduceBEq]
        refine (ans_span hp' hk8).mono ?_
        rintro _ _ ⟨⟨cap, s, rfl⟩, rfl⟩
        rename_i M'
        have ha := copy_refs2 (d := 8 * (k - 1) * 33) (cap := cap) (s := s) (cap' := 8) (s' := 0) (flat8_sl h6') hp' (by rw [t.row_len]; omega)
        rw [t.setSpan_row (by omega)] at ha
        have hp2 : own (List.set M' p (.row (t.setSpan (k - 1) fun i => (f i).low).row false)) p = some (t.setSpan (k - 1) fun i => (f i).low).row := own_set (own_lt hp') _
        have h72 : own (List.set M' p (.row (t.setSpan (k - 1) fun i => (f i).low).row false)) q7 = some r.cells := own_set_ne' h7' (by omega) _
        have hk2 := hkM'.trans (.set1 M' p (.row (t.setSpan (k - 1) fun i => (f i).low).row false))
        simp -implicitDefEqProofs (disch := (first | omega | (simp only [lenB, Tr.row_len, Rf.cells_len, Nd.cells_len, Tr.bl_len, Tr.nd_len, flat8_len, flatU_len] <;> omega) | fail)) only [admQ, lenB, Tr.row_len, Rf.cells_len, Nd.cells_len, Tr.bl_len, Tr.nd_len, flat8_len, flatU_len, aFill, AK.cls, implies_true, ↓reduceIte, reduceCtorEq, if_true, if_false, Nat.reduceAdd, Nat.reduceEqDiff, Nat.reduceMod, Nat.reduceLT, Nat.reduceLeDiff, Nat.reduceSub, Nat.reduceMul, Nat.reduceBEq, Int.reduceAdd, Int.reduceSub, Int.reduceMul, Int.reduceNeg, Int.reduceLT, Int.reduceLE, Int.reduceToNat, Int.reduceEq, Int.reduceBEq, ha]
        rw [Tr.loadS, if_neg (by omega), Int.toNat_natCast]
        exact ld_tail (q6 := q6) hk2 hp2 h72 hk (.inl rfl)
theorem Tr.load_ok {t : Tr} {k : Nat} {f : Nat → Rf} {r : Rf} (hk : k < 9) (h2 : ¬ r.at_ < 1) (h : t.n k = Nd.none ∨ t.n k = ⟨1, Rf.zero⟩) :
    t.loadE (k : Int) f r = (if 0 < k ∧ ¬ pgSome f then 7 else 0) ∧ t.loadT (k : Int) f r = if 0 < k ∧ ¬ pgSome f then t else (t.loadS (k : Int) f).setN k ⟨1, r⟩ := by
  have e : t.loadE (k : Int) f r = (if 0 < k ∧ ¬ pgSome f then 7 else 0) := by
    rw [Tr.loadE, if_neg (by rintro (h | h); exact h (by omega); exact h2 h), Int.toNat_natCast, if_neg (fun h' => h' h)]
    by_cases hc : 0 < k ∧ ¬ pgSome f
    · rw [if_pos hc, if_pos ⟨by omega, hc.2⟩]
    · rw [if_neg hc, if_neg (fun h => hc ⟨by omega, h.2⟩)]
  refine ⟨e, ?_⟩
  rw [Tr.loadT, e, Int.toNat_natCast]
  by_cases hc : 0 < k ∧ ¬ pgSome f
  · rw [if_pos hc, if_pos hc, if_neg (by decide)]
  · rw [if_neg hc, if_neg hc, if_pos rfl]
theorem ans_load {m : Mem} {p : Nat} {t : Tr} (hp : own m p = some t.row) (k : Int) (f : Nat → Rf) (r : Rf) :
    Ans Try.prog 25 [.ptr p 0, .int .i64 k, .agg (flatOf Rf.cells (tab 8 f)), .agg r.cells] m fun x m' => x = .int .i64 (t.loadE k f r) ∧ Kept [p] m m' ∧ own m' p = some (t.loadT k f r).row := by
  refine ans_ret mixed ok25 ?_
  rw [ldCode2]
  simp -implicitDefEqProofs (disch := (first | omega | (simp only [lenB, Tr.row_len, Rf.cells_len, Nd.cells_len, Tr.bl_len, Tr.nd_len, flat8_len, flatU_len] <;> omega) | fail)) only [admQ, lenB, Tr.row_len, Rf.cells_len, Nd.cells_len, Tr.bl_len, Tr.nd_len, flat8_len, flatU_len, aFill, AK.cls, implies_true, ↓reduceIte, reduceCtorEq, if_true, if_false, Nat.reduceAdd, Nat.reduceEqDiff, Nat.reduceMod, Nat.reduceLT, Nat.reduceLeDiff, Nat.reduceSub, Nat.reduceMul, Nat.reduceBEq, Int.reduceAdd, Int.reduceSub, Int.reduceMul, Int.reduceNeg, Int.reduceLT, Int.reduceLE, Int.reduceToNat, Int.reduceEq, Int.reduceBEq, hdC, tlC, c25, r25]
  refine (ans_within k 0 8 _).mono ?_
  rintro _ _ ⟨rfl, rfl⟩
  have hq6 : own (m ++ [.row (flatOf Rf.cells (tab 8 f)) false, .row r.cells false]) m.length = some (flatOf Rf.cells (tab 8 f)) := by rw [own_app_at0, own_c0]
  have hq7 : own (m ++ [.row (flatOf Rf.cells (tab 8 f)) false, .row r.cells false]) (m.length + 1) = some r.cells := by rw [own_app_at, own_c, own_c0]
  have hpM := own_app hp [.row (flatOf Rf.cells (tab 8 f)) false, .row r.cells false]
  have hkM : Kept [p] m (m ++ [.row (flatOf Rf.cells (tab 8 f)) false, .row r.cells false]) := .app _ _ _
  generalize m ++ [Blk.row (flatOf Rf.cells (tab 8 f)) false, Blk.row r.cells false] = M at *
  have hpl := own_lt hp
  by_cases hk : 0 ≤ k ∧ k ≤ 8
  · obtain ⟨k, rfl⟩ := Int.eq_ofNat_of_zero_le hk.1
    have hk9 : k < 9 := by omega
    by_cases h2 : r.at_ < 1
    · have he : t.loadE (k : Int) f r = 7 := if_pos (.inr h2)
      rw [Tr.loadT, he, if_neg (by decide)]
      simp -implicitDefEqProofs (disch := (first | omega | (simp only [lenB, Tr.row_len, Rf.cells_len, Nd.cells_len, Tr.bl_len, Tr.nd_len, flat8_len, flatU_len] <;> omega) | fail)) only [admQ, lenB, Tr.row_len, Rf.cells_len, Nd.cells_len, Tr.bl_len, Tr.nd_len, flat8_len, flatU_len, aFill, AK.cls, implies_true, ↓reduceIte, reduceCtorEq, if_true, if_false, Nat.reduceAdd, Nat.reduceEqDiff, Nat.reduceMod, Nat.reduceLT, Nat.reduceLeDiff, Nat.reduceSub, Nat.reduceMul, Nat.reduceBEq, Int.reduceAdd, Int.reduceSub, Int.reduceMul, Int.reduceNeg, Int.reduceLT, Int.reduceLE, Int.reduceToNat, Int.reduceEq, Int.reduceBEq, dec_t hk, rowOf_own hq7, rf_at, dec_t, dec_f]
      exact ⟨hkM, hpM⟩
    · have e := t.n_part hk9
      have e1 := aEq_nd' (t.n k) Nd.none
      have e2 := aEq_nd' (t.n k) ⟨1, Rf.zero⟩
      by_cases h3 : t.n k = Nd.none
      · simp -implicitDefEqProofs (disch := (first | omega | (simp only [lenB, Tr.row_len, Rf.cells_len, Nd.cells_len, Tr.bl_len, Tr.nd_len, flat8_len, flatU_len] <;> omega) | fail)) only [admQ, lenB, Tr.row_len, Rf.cells_len, Nd.cells_len, Tr.bl_len, Tr.nd_len, flat8_len, flatU_len, aFill, AK.cls, implies_true, ↓reduceIte, reduceCtorEq, if_true, if_false, Nat.reduceAdd, Nat.reduceEqDiff, Nat.reduceMod, Nat.reduceLT, Nat.reduceLeDiff, Nat.reduceSub, Nat.reduceMul, Nat.reduceBEq, Int.reduceAdd, Int.reduceSub, Int.reduceMul, Int.reduceNeg, Int.reduceLT, Int.reduceLE, Int.reduceToNat, Int.reduceEq, Int.reduceBEq, dec_t hk, rowOf_own hq7, rowOf_own hpM, rf_at, dec_t, dec_f, e, h3, rf_zero, nd_zero, nd_zero2, nd_one, aEq_nd', beq_self_eq_true]
        obtain ⟨l1, l2⟩ := Tr.load_ok (f := f) hk9 h2 (.inl h3)
        rw [l1, l2]
        exact ld_mid hkM hpM hq6 hq7 hk9 hpl (by omega) (by omega) (by omega)
      · by_cases h4 : t.n k = ⟨1, Rf.zero⟩
        · have hb : (t.n k == Nd.mk 1 Rf.zero) = true := beq_iff_eq.mpr h4
          simp -implicitDefEqProofs (disch := (first | omega | (simp only [lenB, Tr.row_len, Rf.cells_len, Nd.cells_len, Tr.bl_len, Tr.nd_len, flat8_len, flatU_len] <;> omega) | fail)) only [admQ, lenB, Tr.row_len, Rf.cells_len, Nd.cells_len, Tr.bl_len, Tr.nd_len, flat8_len, flatU_len, aFill, AK.cls, implies_true, ↓reduceIte, reduceCtorEq, if_true, if_false, Nat.reduceAdd, Nat.reduceEqDiff, Nat.reduceMod, Nat.reduceLT, Nat.reduceLeDiff, Nat.reduceSub, Nat.reduceMul, Nat.reduceBEq, Int.reduceAdd, Int.reduceSub, Int.reduceMul, Int.reduceNeg, Int.reduceLT, Int.reduceLE, Int.reduceToNat, Int.reduceEq, Int.reduceBEq, dec_t hk, rowOf_own hq7, rowOf_own hpM, rf_at, dec_t, dec_f, e, rf_zero, nd_zero, nd_zero2, nd_one, e1, e2, beq_eq_false_iff_ne.mpr h3, hb]
          obtain ⟨l1, l2⟩ := Tr.load_ok (f := f) hk9 h2 (.inr h4)
          rw [l1, l2]
          exact ld_mid hkM hpM hq6 hq7 hk9 hpl (by omega) (by omega) (by omega)
        · have he : t.loadE (k : Int) f r = 16 := by
            rw [Tr.loadE, if_neg (by rintro (h | h); exact h hk; exact h2 h), Int.toNat_natCast, if_pos (by rintro (h | h); exact h3 h; exact h4 h)]
          rw [Tr.loadT, he, if_neg (by decide)]
          simp -implicitDefEqProofs (disch := (first | omega | (simp only [lenB, Tr.row_len, Rf.cells_len, Nd.cells_len, Tr.bl_len, Tr.nd_len, flat8_len, flatU_len] <;> omega) | fail)) only [admQ, lenB, Tr.row_len, Rf.cells_len, Nd.cells_len, Tr.bl_len, Tr.nd_len, flat8_len, flatU_len, aFill, AK.cls, implies_true, ↓reduceIte, reduceCtorEq, if_true, if_false, Nat.reduceAdd, Nat.reduceEqDiff, Nat.reduceMod, Nat.reduceLT, Nat.reduceLeDiff, Nat.reduceSub, Nat.reduceMul, Nat.reduceBEq, Int.reduceAdd, Int.reduceSub, Int.reduceMul, Int.reduceNeg, Int.reduceLT, Int.reduceLE, Int.reduceToNat, Int.reduceEq, Int.reduceBEq, dec_t hk, rowOf_own hq7, rowOf_own hpM, rf_at, dec_t, dec_f, e, rf_zero, nd_zero, nd_zero2, nd_one, e1, e2, beq_eq_false_iff_ne.mpr h3, beq_eq_false_iff_ne.mpr h4]
          exact ⟨hkM, hpM⟩
  · have he : t.loadE k f r = 7 := if_pos (.inl hk)
    rw [Tr.loadT, he, if_neg (by decide)]
    simp -implicitDefEqProofs (disch := (first | omega | (simp only [lenB, Tr.row_len, Rf.cells_len, Nd.cells_len, Tr.bl_len, Tr.nd_len, flat8_len, flatU_len] <;> omega) | fail)) only [admQ, lenB, Tr.row_len, Rf.cells_len, Nd.cells_len, Tr.bl_len, Tr.nd_len, flat8_len, flatU_len, aFill, AK.cls, implies_true, ↓reduceIte, reduceCtorEq, if_true, if_false, Nat.reduceAdd, Nat.reduceEqDiff, Nat.reduceMod, Nat.reduceLT, Nat.reduceLeDiff, Nat.reduceSub, Nat.reduceMul, Nat.reduceBEq, Int.reduceAdd, Int.reduceSub, Int.reduceMul, Int.reduceNeg, Int.reduceLT, Int.reduceLE, Int.reduceToNat, Int.reduceEq, Int.reduceBEq, dec_f hk, rowOf_own hq7, rf_at, dec_t, dec_f]
    exact ⟨hkM, hpM⟩
end Go.Proofs.Ytmklcealhjmlgaa
end
section
/- Lists of refs held against one another. -/
namespace Go.Proofs.Ytmklcealhjmlgaa
open Go Go.Adm
set_option linter.unusedSimpArgs false
set_option maxRecDepth 100000
set_option maxHeartbeats 1000000
theorem rf_part {l : List Rf} {i : Nat} (h : i < l.length) : ((flatOf Rf.cells l).drop (i * 33)).take 33 = (l[i]).cells := flatOf_get Rf.cells_len l i h
theorem rf_le {l : List Rf} {i : Nat} (h : i < l.length) : i * 33 + 33 ≤ (flatOf Rf.cells l).length := by rw [flatOf_length Rf.cells_len]; omega
theorem take_snoc {α : Type} {l : List α} {i : Nat} (h : i < l.length) : l.take (i + 1) = l.take i ++ [l[i]] := by
  rw [List.take_add_one, List.getElem?_eq_getElem h]; rfl
theorem ans_samerefs {m : Mem} {x y : AV} {l l2 : List Rf} {m0 m1 : Nat} (hx : RfL m0 m x l) (hy : RfL m1 m y l2) (hl : l.length < 100000) :
    Ans Try.prog 19 [x, y] m fun z m' => z = .bool (decide (l = l2)) ∧ m' = m := by
  refine ans_ret mixed ok19 ?_
  have hlx := hx.len
  have hly := hy.len
  by_cases hn : l.length = l2.length
  · have hb : ((l.length : Int) == (l2.length : Int)) = true := by rw [hn]; exact beq_self_eq_true _
    simp -implicitDefEqProofs (disch := (first | omega | (simp only [lenB, Tr.row_len, Rf.cells_len, Nd.cells_len] <;> omega) | fail)) only [admQ, lenB, Tr.row_len, Rf.cells_len, Nd.cells_len, aFill, AK.cls, implies_true, ↓reduceIte, reduceCtorEq, if_true, if_false, Nat.reduceAdd, Nat.reduceEqDiff, Nat.reduceMod, Nat.reduceLT, Nat.reduceLeDiff, Nat.reduceSub, Nat.reduceMul, Nat.reduceBEq, Int.reduceAdd, Int.reduceSub, Int.reduceMul, Int.reduceNeg, Int.reduceLT, Int.reduceLE, Int.reduceToNat, Int.reduceEq, Int.reduceBEq, c19, r19, hlx, hly, hb]
    refine LoopW.on (fun j : Nat => [(0, x), (1, y), (5, .int .i64 j)]) (fun j => l.length - j)
      (fun j m' => j ≤ l.length ∧ m' = m ∧ l.take j = l2.take j) ?_ 0 _ _ rfl ⟨by omega, rfl, rfl⟩
    rintro j m' X ⟨hj, rfl, ht⟩ hX
    by_cases hlt : j < l.length
    · obtain ⟨b, s, rfl, -, ho, -⟩ := hx.sl_at hlt
      obtain ⟨b2, s2, rfl, -, ho2, -⟩ := hy.sl_at (show j < l2.length by omega)
      have e1 := rf_part hlt
      have e2 := rf_part (show j < l2.length by omega)
      have c1 := rf_le hlt
      have c2 := rf_le (show j < l2.length by omega)
      have ez := aEq_rf' (l[j]) (l2[j])
      by_cases he : l[j] = l2[j]
      · have hbe : (l[j] == l2[j]) = true := beq_iff_eq.mpr he
        simp -implicitDefEqProofs (disch := (first | omega | (simp only [lenB, Tr.row_len, Rf.cells_len, Nd.cells_len] <;> omega) | fail)) only [admQ, lenB, Tr.row_len, Rf.cells_len, Nd.cells_len, aFill, AK.cls, implies_true, ↓reduceIte, reduceCtorEq, if_true, if_false, Nat.reduceAdd, Nat.reduceEqDiff, Nat.reduceMod, Nat.reduceLT, Nat.reduceLeDiff, Nat.reduceSub, Nat.reduceMul, Nat.reduceBEq, Int.reduceAdd, Int.reduceSub, Int.reduceMul, Int.reduceNeg, Int.reduceLT, Int.reduceLE, Int.reduceToNat, Int.reduceEq, Int.reduceBEq, rowOf_own ho, rowOf_own ho2, hlx, e1, e2, ez, hbe]
        exact hX (j + 1) _ _ rfl (by omega) ⟨by omega, rfl, by rw [take_snoc hlt, take_snoc (by omega), ht, he]⟩
      · have hne : ¬ l = l2 := by rintro rfl; exact he rfl
        rw [decide_eq_false hne]
        simp -implicitDefEqProofs (disch := (first | omega | (simp only [lenB, Tr.row_len, Rf.cells_len, Nd.cells_len] <;> omega) | fail)) only [admQ, lenB, Tr.row_len, Rf.cells_len, Nd.cells_len, aFill, AK.cls, implies_true, ↓reduceIte, reduceCtorEq, if_true, if_false, Nat.reduceAdd, Nat.reduceEqDiff, Nat.reduceMod, Nat.reduceLT, Nat.reduceLeDiff, Nat.reduceSub, Nat.reduceMul, Nat.reduceBEq, Int.reduceAdd, Int.reduceSub, Int.reduceMul, Int.reduceNeg, Int.reduceLT, Int.reduceLE, Int.reduceToNat, Int.reduceEq, Int.reduceBEq, rowOf_own ho, rowOf_own ho2, hlx, e1, e2, ez, beq_eq_false_iff_ne.mpr he]
    · obtain rfl : j = l.length := by omega
      rw [List.take_length, hn, List.take_length] at ht
      rw [decide_eq_true ht]
      simp -implicitDefEqProofs (disch := (first | omega | (simp only [lenB, Tr.row_len, Rf.cells_len, Nd.cells_len] <;> omega) | fail)) only [admQ, lenB, Tr.row_len, Rf.cells_len, Nd.cells_len, aFill, AK.cls, implies_true, ↓reduceIte, reduceCtorEq, if_true, if_false, Nat.reduceAdd, Nat.reduceEqDiff, Nat.reduceMod, Nat.reduceLT, Nat.reduceLeDiff, Nat.reduceSub, Nat.reduceMul, Nat.reduceBEq, Int.reduceAdd, Int.reduceSub, Int.reduceMul, Int.reduceNeg, Int.reduceLT, Int.reduceLE, Int.reduceToNat, Int.reduceEq, Int.reduceBEq, hlx]
  · have hb : ((l.length : Int) == (l2.length : Int)) = false := beq_eq_false_iff_ne.mpr (by omega)
    rw [decide_eq_false (by rintro rfl; exact hn rfl)]
    simp -implicitDefEqProofs (disch := (first | omega | (simp only [lenB, Tr.row_len, Rf.cells_len, Nd.cells_len] <;> omega) | fail)) only [admQ, lenB, Tr.row_len, Rf.cells_len, Nd.cells_len, aFill, AK.cls, implies_true, ↓reduceIte, reduceCtorEq, if_true, if_false, Nat.reduceAdd, Nat.reduceEqDiff, Nat.reduceMod, Nat.reduceLT, Nat.reduceLeDiff, Nat.reduceSub, Nat.reduceMul, Nat.reduceBEq, Int.reduceAdd, Int.reduceSub, Int.reduceMul, Int.reduceNeg, Int.reduceLT, Int.reduceLE, Int.reduceToNat, Int.reduceEq, Int.reduceBEq, c19, r19, hlx, hly, hb]
theorem ans_many {m : Mem} {x : AV} {l : List Rf} {m0 : Nat} (hx : RfL m0 m x l) (hl : l.length < 100000) (r : Rf) :
    Ans Try.prog 13 [x, .agg r.cells] m fun z m' => z = .int .i64 (l.count r) ∧ Kept [] m m' := by
  refine ans_ret mixed ok13 ?_
  have hlx := hx.len
  simp -implicitDefEqProofs (disch := (first | omega | (simp only [lenB, Tr.row_len, Rf.cells_len, Nd.cells_len] <;> omega) | fail)) only [admQ, lenB, Tr.row_len, Rf.cells_len, Nd.cells_len, aFill, AK.cls, implies_true, ↓reduceIte, reduceCtorEq, if_true, if_false, Nat.reduceAdd, Nat.reduceEqDiff, Nat.reduceMod, Nat.reduceLT, Nat.reduceLeDiff, Nat.reduceSub, Nat.reduceMul, Nat.reduceBEq, Int.reduceAdd, Int.reduceSub, Int.reduceMul, Int.reduceNeg, Int.reduceLT, Int.reduceLE, Int.reduceToNat, Int.reduceEq, Int.reduceBEq, c13, r13]
  have hxm := hx.kept0 (.app [] m [.row r.cells false])
  have hq : own (m ++ [.row r.cells false]) m.length = some r.cells := by rw [own_app_at0, own_c0]
  have hk : Kept [] m (m ++ [.row r.cells false]) := .app _ _ _
  generalize m ++ [Blk.row r.cells false] = M at *
  refine LoopW.on (fun s : Nat × Nat => [(0, x), (3, .ptr m.length 0), (5, .int .i64 s.2), (6, .int .i64 s.1)]) (fun s => l.length - s.1)
    (fun s m' => s.1 ≤ l.length ∧ m' = M ∧ s.2 = (l.take s.1).count r) ?_ (0, 0) _ _ rfl ⟨by omega, rfl, by simp⟩
  rintro ⟨j, c⟩ m' X ⟨hj, rfl, ht⟩ hX
  dsimp only at hj ht hX ⊢
  have hcl : (l.take j).count r ≤ (l.take j).length := List.count_le_length
  have hjl : (l.take j).length ≤ l.length := by simp; omega
  by_cases hlt : j < l.length
  · obtain ⟨b, s, rfl, -, ho, -⟩ := hxm.sl_at hlt
    have e1 := rf_part hlt
    have c1 := rf_le hlt
    have ez := aEq_rf' (l[j]) r
    by_cases he : l[j] = r
    · have hbe : (l[j] == r) = true := beq_iff_eq.mpr he
      simp -implicitDefEqProofs (disch := (first | omega | (simp only [lenB, Tr.row_len, Rf.cells_len, Nd.cells_len] <;> omega) | fail)) only [admQ, lenB, Tr.row_len, Rf.cells_len, Nd.cells_len, aFill, AK.cls, implies_true, ↓reduceIte, reduceCtorEq, if_true, if_false, Nat.reduceAdd, Nat.reduceEqDiff, Nat.reduceMod, Nat.reduceLT, Nat.reduceLeDiff, Nat.reduceSub, Nat.reduceMul, Nat.reduceBEq, Int.reduceAdd, Int.reduceSub, Int.reduceMul, Int.reduceNeg, Int.reduceLT, Int.reduceLE, Int.reduceToNat, Int.reduceEq, Int.reduceBEq, rowOf_own ho, rowOf_own hq, hlx, e1, take_rf, ez, hbe]
      exact hX (j + 1, c + 1) _ _ rfl (by simp; omega) ⟨by simp; omega, rfl, by simp only; rw [take_snoc hlt, List.count_append, ht, List.count_singleton, hbe]; rfl⟩
    · simp -implicitDefEqProofs (disch := (first | omega | (simp only [lenB, Tr.row_len, Rf.cells_len, Nd.cells_len] <;> omega) | fail)) only [admQ, lenB, Tr.row_len, Rf.cells_len, Nd.cells_len, aFill, AK.cls, implies_true, ↓reduceIte, reduceCtorEq, if_true, if_false, Nat.reduceAdd, Nat.reduceEqDiff, Nat.reduceMod, Nat.reduceLT, Nat.reduceLeDiff, Nat.reduceSub, Nat.reduceMul, Nat.reduceBEq, Int.reduceAdd, Int.reduceSub, Int.reduceMul, Int.reduceNeg, Int.reduceLT, Int.reduceLE, Int.reduceToNat, Int.reduceEq, Int.reduceBEq, rowOf_own ho, rowOf_own hq, hlx, e1, take_rf, ez, beq_eq_false_iff_ne.mpr he]
      exact hX (j + 1, c) _ _ rfl (by simp; omega) ⟨by simp; omega, rfl, by simp only; rw [take_snoc hlt, List.count_append, ht, List.count_singleton, beq_eq_false_iff_ne.mpr he]; rfl⟩
  · obtain rfl : j = l.length := by omega
    rw [List.take_length] at ht
    simp -implicitDefEqProofs (disch := (first | omega | (simp only [lenB, Tr.row_len, Rf.cells_len, Nd.cells_len] <;> omega) | fail)) only [admQ, lenB, Tr.row_len, Rf.cells_len, Nd.cells_len, aFill, AK.cls, implies_true, ↓reduceIte, reduceCtorEq, if_true, if_false, Nat.reduceAdd, Nat.reduceEqDiff, Nat.reduceMod, Nat.reduceLT, Nat.reduceLeDiff, Nat.reduceSub, Nat.reduceMul, Nat.reduceBEq, Int.reduceAdd, Int.reduceSub, Int.reduceMul, Int.reduceNeg, Int.reduceLT, Int.reduceLE, Int.reduceToNat, Int.reduceEq, Int.reduceBEq, hlx]
    exact ⟨by rw [ht], hk⟩
def refOf (at_ : Int) : Rf := ⟨at_, Sm.zero⟩
theorem ref_built (a : Int) : splice Rf.zero.cells 0 [.int .i64 a] = (refOf a).cells := rfl
theorem ans_lawref (a : Int) (m : Mem) : Ans Try.prog 23 [.int .i64 a] m fun z m' => z = .agg (refOf a).cells ∧ Kept [] m m' := by
  refine ans_ret mixed ok23 ?_
  simp -implicitDefEqProofs (disch := (first | omega | (simp only [lenB, Tr.row_len, Rf.cells_len, Nd.cells_len] <;> omega) | fail)) only [admQ, lenB, Tr.row_len, Rf.cells_len, Nd.cells_len, aFill, AK.cls, implies_true, ↓reduceIte, reduceCtorEq, if_true, if_false, Nat.reduceAdd, Nat.reduceEqDiff, Nat.reduceMod, Nat.reduceLT, Nat.reduceLeDiff, Nat.reduceSub, Nat.reduceMul, Nat.reduceBEq, Int.reduceAdd, Int.reduceSub, Int.reduceMul, Int.reduceNeg, Int.reduceLT, Int.reduceLE, Int.reduceToNat, Int.reduceEq, Int.reduceBEq, c23, r23, rf_zero, ref_built, splice_rf, take_rf]
  exact .app _ _ _
end Go.Proofs.Ytmklcealhjmlgaa
end
section
/- A call of the tree. -/
namespace Go.Proofs.Ytmklcealhjmlgaa
open Go Go.Adm
set_option linter.unusedSimpArgs false
set_option maxRecDepth 100000
set_option maxHeartbeats 1000000
structure TOp where
  kind : Int
  n : Int
  r : Rf
  p : Nat → Rf
def TOp.cells (o : TOp) : List AV := .int .i64 o.kind :: .int .i64 o.n :: (o.r.cells ++ flatOf Rf.cells (tab 8 o.p))
theorem TOp.cells_len (o : TOp) : o.cells.length = 299 := by simp [TOp.cells, Rf.cells_len, flat8_len]
theorem op_kind (o : TOp) : o.cells[0]? = some (.int .i64 o.kind) := rfl
theorem op_n (o : TOp) : o.cells[1]? = some (.int .i64 o.n) := rfl
theorem op_at (o : TOp) : o.cells[2]? = some (.int .i64 o.r.at_) := rfl
theorem op_r (o : TOp) : (o.cells.drop 2).take 33 = o.r.cells := by
  rw [TOp.cells, List.drop_succ_cons, List.drop_succ_cons, List.drop_zero, List.take_append_of_le_length (by rw [Rf.cells_len]; omega), take_rf]
theorem op_p (o : TOp) : (o.cells.drop 35).take 264 = flatOf Rf.cells (tab 8 o.p) := by
  have e : o.cells.drop 35 = flatOf Rf.cells (tab 8 o.p) := by
    rw [TOp.cells, List.drop_succ_cons, List.drop_succ_cons]
    have := List.drop_left (l₁ := o.r.cells) (l₂ := flatOf Rf.cells (tab 8 o.p))
    rwa [Rf.cells_len] at this
  rw [e, take_flat8]
/-- What a call does (a Load is passed over), what is dead then, what is new. -/
def TOp.runT (o : TOp) (t : Tr) : Tr := if o.kind = 0 then t.setT o.n o.r else if o.kind = 1 then t.delT o.n else if o.kind = 2 then t.touchT o.n else if o.kind = 3 then t.savedT o.n o.r else t
def TOp.runR (o : TOp) (t : Tr) : List Rf := if o.kind = 0 then t.setR o.n o.r else if o.kind = 1 then t.delR o.n else if o.kind = 2 then t.touchR o.n else []
def TOp.runN (o : TOp) (t : Tr) : List Rf := if o.kind = 0 then (if Tr.setOk o.n o.r then [o.r] else []) else if o.kind = 3 ∧ t.savedE o.n o.r = 0 ∧ 0 < o.r.at_ then [o.r] else []
theorem op_at' (o : TOp) : o.cells[2 + 0]? = some (.int .i64 o.r.at_) := rfl
theorem ans_lawrun {m : Mem} {p : Nat} {t : Tr} (hp : own m p = some t.row) (o : TOp) :
    Ans Try.prog 12 [.ptr p 0, .agg o.cells] m fun x m' => (∃ y z, x = .tup [y, z] ∧ RfL m.length m' y (o.runR t) ∧ RfL m.length m' z (o.runN t)) ∧ Kept [p] m m' ∧ own m' p = some (o.runT t).row := by
  refine ans_ret mixed ok12 ?_
  simp -implicitDefEqProofs (disch := (first | omega | (simp only [lenB, Tr.row_len, Rf.cells_len, Nd.cells_len, TOp.cells_len] <;> omega) | fail)) only [admQ, lenB, Tr.row_len, Rf.cells_len, Nd.cells_len, TOp.cells_len, aFill, AK.cls, implies_true, ↓reduceIte, reduceCtorEq, if_true, if_false, Nat.reduceAdd, Nat.reduceEqDiff, Nat.reduceMod, Nat.reduceLT, Nat.reduceLeDiff, Nat.reduceSub, Nat.reduceMul, Nat.reduceBEq, Int.reduceAdd, Int.reduceSub, Int.reduceMul, Int.reduceNeg, Int.reduceLT, Int.reduceLE, Int.reduceToNat, Int.reduceEq, Int.reduceBEq, c12, r12, op_kind]
  have hq : own (m ++ [.row o.cells false]) m.length = some o.cells := by rw [own_app_at0, own_c0]
  have hpM := own_app hp [.row o.cells false]
  have hkM : Kept [p] m (m ++ [.row o.cells false]) := .app _ _ _
  have hlM : (m ++ [Blk.row o.cells false]).length = m.length + 1 := by simp
  have hpl := own_lt hp
  generalize m ++ [Blk.row o.cells false] = M at *
  by_cases k1 : o.kind = 1
  · have b0 : (o.kind == 0) = false := beq_eq_false_iff_ne.mpr (by omega)
    simp -implicitDefEqProofs (disch := (first | omega | (simp only [lenB, Tr.row_len, Rf.cells_len, Nd.cells_len, TOp.cells_len] <;> omega) | fail)) only [admQ, lenB, Tr.row_len, Rf.cells_len, Nd.cells_len, TOp.cells_len, aFill, AK.cls, implies_true, ↓reduceIte, reduceCtorEq, if_true, if_false, Nat.reduceAdd, Nat.reduceEqDiff, Nat.reduceMod, Nat.reduceLT, Nat.reduceLeDiff, Nat.reduceSub, Nat.reduceMul, Nat.reduceBEq, Int.reduceAdd, Int.reduceSub, Int.reduceMul, Int.reduceNeg, Int.reduceLT, Int.reduceLE, Int.reduceToNat, Int.reduceEq, Int.reduceBEq, b0, k1, beq_self_eq_true, rowOf_own hq, op_n, op_r]
    refine (ans_del hpM o.n).mono ?_
    rintro y M2 ⟨hy, hk2, hp2⟩
    simp -implicitDefEqProofs (disch := (first | omega | (simp only [lenB, Tr.row_len, Rf.cells_len, Nd.cells_len, TOp.cells_len] <;> omega) | fail)) only [admQ, lenB, Tr.row_len, Rf.cells_len, Nd.cells_len, TOp.cells_len, aFill, AK.cls, implies_true, ↓reduceIte, reduceCtorEq, if_true, if_false, Nat.reduceAdd, Nat.reduceEqDiff, Nat.reduceMod, Nat.reduceLT, Nat.reduceLeDiff, Nat.reduceSub, Nat.reduceMul, Nat.reduceBEq, Int.reduceAdd, Int.reduceSub, Int.reduceMul, Int.reduceNeg, Int.reduceLT, Int.reduceLE, Int.reduceToNat, Int.reduceEq, Int.reduceBEq]
    simp only [TOp.runR, TOp.runN, TOp.runT, k1]
    exact ⟨⟨_, _, rfl, hy.low (by omega), .nils ..⟩, hkM.trans hk2, hp2⟩
  by_cases k2 : o.kind = 2
  · have b0 : (o.kind == 0) = false := beq_eq_false_iff_ne.mpr (by omega)
    have b1 : (o.kind == 1) = false := beq_eq_false_iff_ne.mpr (by omega)
    rw [k2] at b0 b1
    simp -implicitDefEqProofs (disch := (first | omega | (simp only [lenB, Tr.row_len, Rf.cells_len, Nd.cells_len, TOp.cells_len] <;> omega) | fail)) only [admQ, lenB, Tr.row_len, Rf.cells_len, Nd.cells_len, TOp.cells_len, aFill, AK.cls, implies_true, ↓reduceIte, reduceCtorEq, if_true, if_false, Nat.reduceAdd, Nat.reduceEqDiff, Nat.reduceMod, Nat.reduceLT, Nat.reduceLeDiff, Nat.reduceSub, Nat.reduceMul, Nat.reduceBEq, Int.reduceAdd, Int.reduceSub, Int.reduceMul, Int.reduceNeg, Int.reduceLT, Int.reduceLE, Int.reduceToNat, Int.reduceEq, Int.reduceBEq, b0, b1, k2, beq_self_eq_true, rowOf_own hq, op_n, op_r]
    refine (ans_touch hpM o.n).mono ?_
    rintro y M2 ⟨hy, hk2, hp2⟩
    simp -implicitDefEqProofs (disch := (first | omega | (simp only [lenB, Tr.row_len, Rf.cells_len, Nd.cells_len, TOp.cells_len] <;> omega) | fail)) only [admQ, lenB, Tr.row_len, Rf.cells_len, Nd.cells_len, TOp.cells_len, aFill, AK.cls, implies_true, ↓reduceIte, reduceCtorEq, if_true, if_false, Nat.reduceAdd, Nat.reduceEqDiff, Nat.reduceMod, Nat.reduceLT, Nat.reduceLeDiff, Nat.reduceSub, Nat.reduceMul, Nat.reduceBEq, Int.reduceAdd, Int.reduceSub, Int.reduceMul, Int.reduceNeg, Int.reduceLT, Int.reduceLE, Int.reduceToNat, Int.reduceEq, Int.reduceBEq]
    simp only [TOp.runR, TOp.runN, TOp.runT, k2]
    exact ⟨⟨_, _, rfl, hy.low (by omega), .nils ..⟩, hkM.trans hk2, hp2⟩
  by_cases k3 : o.kind = 3
  · have b0 : (o.kind == 0) = false := beq_eq_false_iff_ne.mpr (by omega)
    have b1 : (o.kind == 1) = false := beq_eq_false_iff_ne.mpr (by omega)
    have b2 : (o.kind == 2) = false := beq_eq_false_iff_ne.mpr (by omega)
    rw [k3] at b0 b1 b2
    simp -implicitDefEqProofs (disch := (first | omega | (simp only [lenB, Tr.row_len, Rf.cells_len, Nd.cells_len, TOp.cells_len] <;> omega) | fail)) only [admQ, lenB, Tr.row_len, Rf.cells_len, Nd.cells_len, TOp.cells_len, aFill, AK.cls, implies_true, ↓reduceIte, reduceCtorEq, if_true, if_false, Nat.reduceAdd, Nat.reduceEqDiff, Nat.reduceMod, Nat.reduceLT, Nat.reduceLeDiff, Nat.reduceSub, Nat.reduceMul, Nat.reduceBEq, Int.reduceAdd, Int.reduceSub, Int.reduceMul, Int.reduceNeg, Int.reduceLT, Int.reduceLE, Int.reduceToNat, Int.reduceEq, Int.reduceBEq, b0, b1, b2, k3, beq_self_eq_true, rowOf_own hq, op_n, op_r]
    refine (ans_saved hpM o.n o.r).mono ?_
    rintro y M2 ⟨rfl, hk2, hp2⟩
    have hq2 := hk2.own hq (by simp; omega)
    have hR : o.runR t = [] := by simp [TOp.runR, k3]
    have hT : o.runT t = t.savedT o.n o.r := by simp [TOp.runT, k3]
    have hN : o.runN t = if t.savedE o.n o.r = 0 ∧ 0 < o.r.at_ then [o.r] else [] := by simp [TOp.runN, k3]
    rw [hR, hT, hN]
    have hl2 := hk2.len
    by_cases he : t.savedE o.n o.r = 0
    · by_cases ha : 0 < o.r.at_
      · simp -implicitDefEqProofs (disch := (first | omega | (simp only [lenB, Tr.row_len, Rf.cells_len, Nd.cells_len, TOp.cells_len] <;> omega) | fail)) only [admQ, lenB, Tr.row_len, Rf.cells_len, Nd.cells_len, TOp.cells_len, aFill, AK.cls, implies_true, ↓reduceIte, reduceCtorEq, if_true, if_false, Nat.reduceAdd, Nat.reduceEqDiff, Nat.reduceMod, Nat.reduceLT, Nat.reduceLeDiff, Nat.reduceSub, Nat.reduceMul, Nat.reduceBEq, Int.reduceAdd, Int.reduceSub, Int.reduceMul, Int.reduceNeg, Int.reduceLT, Int.reduceLE, Int.reduceToNat, Int.reduceEq, Int.reduceBEq, he, beq_self_eq_true, rowOf_own hq2, op_at, op_r, dec_t, dec_f, rf_zero, splice_rf]
        rw [if_pos ha]
        exact ⟨⟨_, _, rfl, .nils .., .mk (l := [o.r]) (by simp) (.inl rfl) (by rw [own_app_at0, own_c0, flatOf_one]) (by omega)⟩, (hkM.trans hk2).more_app _, own_app hp2 _⟩
      · simp -implicitDefEqProofs (disch := (first | omega | (simp only [lenB, Tr.row_len, Rf.cells_len, Nd.cells_len, TOp.cells_len] <;> omega) | fail)) only [admQ, lenB, Tr.row_len, Rf.cells_len, Nd.cells_len, TOp.cells_len, aFill, AK.cls, implies_true, ↓reduceIte, reduceCtorEq, if_true, if_false, Nat.reduceAdd, Nat.reduceEqDiff, Nat.reduceMod, Nat.reduceLT, Nat.reduceLeDiff, Nat.reduceSub, Nat.reduceMul, Nat.reduceBEq, Int.reduceAdd, Int.reduceSub, Int.reduceMul, Int.reduceNeg, Int.reduceLT, Int.reduceLE, Int.reduceToNat, Int.reduceEq, Int.reduceBEq, he, beq_self_eq_true, rowOf_own hq2, op_at, op_r, dec_t, dec_f]
        rw [if_neg ha]
        exact ⟨⟨_, _, rfl, .nils .., .nils ..⟩, hkM.trans hk2, hp2⟩
    · simp -implicitDefEqProofs (disch := (first | omega | (simp only [lenB, Tr.row_len, Rf.cells_len, Nd.cells_len, TOp.cells_len] <;> omega) | fail)) only [admQ, lenB, Tr.row_len, Rf.cells_len, Nd.cells_len, TOp.cells_len, aFill, AK.cls, implies_true, ↓reduceIte, reduceCtorEq, if_true, if_false, Nat.reduceAdd, Nat.reduceEqDiff, Nat.reduceMod, Nat.reduceLT, Nat.reduceLeDiff, Nat.reduceSub, Nat.reduceMul, Nat.reduceBEq, Int.reduceAdd, Int.reduceSub, Int.reduceMul, Int.reduceNeg, Int.reduceLT, Int.reduceLE, Int.reduceToNat, Int.reduceEq, Int.reduceBEq, beq_eq_false_iff_ne.mpr he, rowOf_own hq2, op_at, op_r, dec_t, dec_f]
      rw [if_neg (fun h => he h.1)]
      exact ⟨⟨_, _, rfl, .nils .., .nils ..⟩, hkM.trans hk2, hp2⟩
  by_cases k0 : o.kind = 0
  · have hR : o.runR t = t.setR o.n o.r := by simp [TOp.runR, k0]
    have hT : o.runT t = t.setT o.n o.r := by simp [TOp.runT, k0]
    have hN : o.runN t = if Tr.setOk o.n o.r then [o.r] else [] := by simp [TOp.runN, k0]
    rw [hR, hT, hN]
    have hne : ∀ b ∈ ([p] : List Nat), m.length ≠ b := fun b hb => by simp at hb; omega
    by_cases hs : Tr.setOk o.n o.r
    · rw [if_pos hs]
      obtain ⟨⟨s1, s2⟩, s3⟩ := hs
      simp -implicitDefEqProofs (disch := (first | omega | (simp only [lenB, Tr.row_len, Rf.cells_len, Nd.cells_len, TOp.cells_len] <;> omega) | fail)) only [admQ, lenB, Tr.row_len, Rf.cells_len, Nd.cells_len, TOp.cells_len, aFill, AK.cls, implies_true, ↓reduceIte, reduceCtorEq, if_true, if_false, Nat.reduceAdd, Nat.reduceEqDiff, Nat.reduceMod, Nat.reduceLT, Nat.reduceLeDiff, Nat.reduceSub, Nat.reduceMul, Nat.reduceBEq, Int.reduceAdd, Int.reduceSub, Int.reduceMul, Int.reduceNeg, Int.reduceLT, Int.reduceLE, Int.reduceToNat, Int.reduceEq, Int.reduceBEq, k0, beq_self_eq_true, rowOf_own hq, op_n, op_r, op_at, dec_t s1, dec_t s2, dec_t, dec_f]
      refine (ans_set hpM o.n o.r).mono ?_
      rintro y M2 ⟨hy, hk2, hp2⟩
      have hq2 := hk2.own hq (by simp; omega)
      have hl2 := hk2.len
      simp -implicitDefEqProofs (disch := (first | omega | (simp only [lenB, Tr.row_len, Rf.cells_len, Nd.cells_len, TOp.cells_len] <;> omega) | fail)) only [admQ, lenB, Tr.row_len, Rf.cells_len, Nd.cells_len, TOp.cells_len, aFill, AK.cls, implies_true, ↓reduceIte, reduceCtorEq, if_true, if_false, Nat.reduceAdd, Nat.reduceEqDiff, Nat.reduceMod, Nat.reduceLT, Nat.reduceLeDiff, Nat.reduceSub, Nat.reduceMul, Nat.reduceBEq, Int.reduceAdd, Int.reduceSub, Int.reduceMul, Int.reduceNeg, Int.reduceLT, Int.reduceLE, Int.reduceToNat, Int.reduceEq, Int.reduceBEq, rowOf_own hq2, op_r, rf_zero, splice_rf]
      exact ⟨⟨_, _, rfl, (hy.low (by omega)).kept0 (.app _ _ _), .mk (l := [o.r]) (by simp) (.inl rfl) (by rw [own_app_at0, own_c0, flatOf_one]) (by omega)⟩, (hkM.trans hk2).more_app _, own_app hp2 _⟩
    · rw [if_neg hs]
      by_cases s1 : 0 ≤ o.n
      · by_cases s2 : o.n < 64
        · have s3 : ¬ 0 < o.r.at_ := fun h => hs ⟨⟨s1, s2⟩, by omega⟩
          simp -implicitDefEqProofs (disch := (first | omega | (simp only [lenB, Tr.row_len, Rf.cells_len, Nd.cells_len, TOp.cells_len] <;> omega) | fail)) only [admQ, lenB, Tr.row_len, Rf.cells_len, Nd.cells_len, TOp.cells_len, aFill, AK.cls, implies_true, ↓reduceIte, reduceCtorEq, if_true, if_false, Nat.reduceAdd, Nat.reduceEqDiff, Nat.reduceMod, Nat.reduceLT, Nat.reduceLeDiff, Nat.reduceSub, Nat.reduceMul, Nat.reduceBEq, Int.reduceAdd, Int.reduceSub, Int.reduceMul, Int.reduceNeg, Int.reduceLT, Int.reduceLE, Int.reduceToNat, Int.reduceEq, Int.reduceBEq, k0, beq_self_eq_true, rowOf_own hq, op_n, op_r, op_at, dec_t s1, dec_t s2, dec_t, dec_f]
          refine (ans_set hpM o.n o.r).mono ?_
          rintro y M2 ⟨hy, hk2, hp2⟩
          simp -implicitDefEqProofs (disch := (first | omega | (simp only [lenB, Tr.row_len, Rf.cells_len, Nd.cells_len, TOp.cells_len] <;> omega) | fail)) only [admQ, lenB, Tr.row_len, Rf.cells_len, Nd.cells_len, TOp.cells_len, aFill, AK.cls, implies_true, ↓reduceIte, reduceCtorEq, if_true, if_false, Nat.reduceAdd, Nat.reduceEqDiff, Nat.reduceMod, Nat.reduceLT, Nat.reduceLeDiff, Nat.reduceSub, Nat.reduceMul, Nat.reduceBEq, Int.reduceAdd, Int.reduceSub, Int.reduceMul, Int.reduceNeg, Int.reduceLT, Int.reduceLE, Int.reduceToNat, Int.reduceEq, Int.reduceBEq]
          exact ⟨⟨_, _, rfl, hy.low (by omega), .nils ..⟩, hkM.trans hk2, hp2⟩
        · simp -implicitDefEqProofs (disch := (first | omega | (simp only [lenB, Tr.row_len, Rf.cells_len, Nd.cells_len, TOp.cells_len] <;> omega) | fail)) only [admQ, lenB, Tr.row_len, Rf.cells_len, Nd.cells_len, TOp.cells_len, aFill, AK.cls, implies_true, ↓reduceIte, reduceCtorEq, if_true, if_false, Nat.reduceAdd, Nat.reduceEqDiff, Nat.reduceMod, Nat.reduceLT, Nat.reduceLeDiff, Nat.reduceSub, Nat.reduceMul, Nat.reduceBEq, Int.reduceAdd, Int.reduceSub, Int.reduceMul, Int.reduceNeg, Int.reduceLT, Int.reduceLE, Int.reduceToNat, Int.reduceEq, Int.reduceBEq, k0, beq_self_eq_true, rowOf_own hq, op_n, op_r, op_at, dec_t s1, dec_f s2, dec_t, dec_f]
          refine (ans_set hpM o.n o.r).mono ?_
          rintro y M2 ⟨hy, hk2, hp2⟩
          simp -implicitDefEqProofs (disch := (first | omega | (simp only [lenB, Tr.row_len, Rf.cells_len, Nd.cells_len, TOp.cells_len] <;> omega) | fail)) only [admQ, lenB, Tr.row_len, Rf.cells_len, Nd.cells_len, TOp.cells_len, aFill, AK.cls, implies_true, ↓reduceIte, reduceCtorEq, if_true, if_false, Nat.reduceAdd, Nat.reduceEqDiff, Nat.reduceMod, Nat.reduceLT, Nat.reduceLeDiff, Nat.reduceSub, Nat.reduceMul, Nat.reduceBEq, Int.reduceAdd, Int.reduceSub, Int.reduceMul, Int.reduceNeg, Int.reduceLT, Int.reduceLE, Int.reduceToNat, Int.reduceEq, Int.reduceBEq]
          exact ⟨⟨_, _, rfl, hy.low (by omega), .nils ..⟩, hkM.trans hk2, hp2⟩
      · simp -implicitDefEqProofs (disch := (first | omega | (simp only [lenB, Tr.row_len, Rf.cells_len, Nd.cells_len, TOp.cells_len] <;> omega) | fail)) only [admQ, lenB, Tr.row_len, Rf.cells_len, Nd.cells_len, TOp.cells_len, aFill, AK.cls, implies_true, ↓reduceIte, reduceCtorEq, if_true, if_false, Nat.reduceAdd, Nat.reduceEqDiff, Nat.reduceMod, Nat.reduceLT, Nat.reduceLeDiff, Nat.reduceSub, Nat.reduceMul, Nat.reduceBEq, Int.reduceAdd, Int.reduceSub, Int.reduceMul, Int.reduceNeg, Int.reduceLT, Int.reduceLE, Int.reduceToNat, Int.reduceEq, Int.reduceBEq, k0, beq_self_eq_true, rowOf_own hq, op_n, op_r, op_at, dec_f s1, dec_t, dec_f]
        refine (ans_set hpM o.n o.r).mono ?_
        rintro y M2 ⟨hy, hk2, hp2⟩
        simp -implicitDefEqProofs (disch := (first | omega | (simp only [lenB, Tr.row_len, Rf.cells_len, Nd.cells_len, TOp.cells_len] <;> omega) | fail)) only [admQ, lenB, Tr.row_len, Rf.cells_len, Nd.cells_len, TOp.cells_len, aFill, AK.cls, implies_true, ↓reduceIte, reduceCtorEq, if_true, if_false, Nat.reduceAdd, Nat.reduceEqDiff, Nat.reduceMod, Nat.reduceLT, Nat.reduceLeDiff, Nat.reduceSub, Nat.reduceMul, Nat.reduceBEq, Int.reduceAdd, Int.reduceSub, Int.reduceMul, Int.reduceNeg, Int.reduceLT, Int.reduceLE, Int.reduceToNat, Int.reduceEq, Int.reduceBEq]
        exact ⟨⟨_, _, rfl, hy.low (by omega), .nils ..⟩, hkM.trans hk2, hp2⟩
  · simp -implicitDefEqProofs (disch := (first | omega | (simp only [lenB, Tr.row_len, Rf.cells_len, Nd.cells_len, TOp.cells_len] <;> omega) | fail)) only [admQ, lenB, Tr.row_len, Rf.cells_len, Nd.cells_len, TOp.cells_len, aFill, AK.cls, implies_true, ↓reduceIte, reduceCtorEq, if_true, if_false, Nat.reduceAdd, Nat.reduceEqDiff, Nat.reduceMod, Nat.reduceLT, Nat.reduceLeDiff, Nat.reduceSub, Nat.reduceMul, Nat.reduceBEq, Int.reduceAdd, Int.reduceSub, Int.reduceMul, Int.reduceNeg, Int.reduceLT, Int.reduceLE, Int.reduceToNat, Int.reduceEq, Int.reduceBEq, beq_eq_false_iff_ne.mpr k0, beq_eq_false_iff_ne.mpr k1, beq_eq_false_iff_ne.mpr k2, beq_eq_false_iff_ne.mpr k3]
    simp only [TOp.runR, TOp.runN, TOp.runT, if_neg k0, if_neg k1, if_neg k2, if_neg k3, if_neg (show ¬ (o.kind = 3 ∧ t.savedE o.n o.r = 0 ∧ 0 < o.r.at_) from fun h => k3 h.1)]
    exact ⟨⟨_, _, rfl, .nils .., .nils ..⟩, hkM, hpM⟩
end Go.Proofs.Ytmklcealhjmlgaa
end
section
/- The tree of blocks: works, purely. -/
namespace Go.Proofs.Ytmklcealhjmlgaa
open Go Go.Adm
set_option linter.unusedSimpArgs false
set_option maxRecDepth 100000
set_option maxHeartbeats 1000000
def wk1 : Tr := Tr.new.setT 9 (refOf 7)
def wk2 : Tr := wk1.savedT 2 (refOf 8)
def wk3 : Tr := wk2.savedT 0 (refOf 9)
def wk4 : Tr := wk3.setT 10 (refOf 11)
theorem wk_e1 : wk1.savedE 0 (refOf 8) = 16 := by decide +kernel
theorem wk_e2 : wk1.savedE 2 (refOf 8) = 0 := by decide +kernel
theorem wk_e3 : wk2.savedE 0 (refOf 9) = 0 := by decide +kernel
theorem wk_r4 : wk3.setR 10 (refOf 11) = [refOf 8, refOf 9] := by decide +kernel
theorem wk_r5 : wk4.refs = [refOf 7, refOf 11] := by decide +kernel
theorem wk_m5 : wk4.mapped = 2 := by decide +kernel
theorem wk_t2 : wk1.savedT 0 (refOf 8) = wk1 := by rw [Tr.savedT, wk_e1, if_neg (by decide)]
theorem two_len (a b : Rf) : (flatOf Rf.cells [a, b]).length = 66 := flatOf_length Rf.cells_len _
theorem rep2 : rep 2 Rf.zero.cells = flatOf Rf.cells [Rf.zero, Rf.zero] := rfl
theorem two0 (a b c : Rf) : splice (flatOf Rf.cells [a, b]) 0 c.cells = flatOf Rf.cells [c, b] := flatOf_set Rf.cells_len [a, b] 0 c (by simp)
theorem two1 (a b c : Rf) : splice (flatOf Rf.cells [a, b]) 33 c.cells = flatOf Rf.cells [a, c] := flatOf_set Rf.cells_len [a, b] 1 c (by simp)
theorem RfL.two (m : Mem) (a b : Rf) : RfL 0 (m ++ [.row (flatOf Rf.cells [a, b]) false]) (.sl m.length 0 2 2 0) [a, b] := GrL.mk (l := [a, b]) (by simp) (.inl rfl) (by rw [own_app_at0, own_c0]) (by omega)
theorem ans_trworks (m : Mem) : Ans Try.prog 9 [] m fun x m' => x = .bool true ∧ Kept [] m m' := by
  refine ans_ret mixed ok9 ?_
  simp -implicitDefEqProofs (disch := (first | omega | (simp only [lenB, Tr.row_len, Rf.cells_len, Nd.cells_len, two_len] <;> omega) | fail)) only [admQ, lenB, Tr.row_len, Rf.cells_len, Nd.cells_len, two_len, aFill, AK.cls, implies_true, ↓reduceIte, reduceCtorEq, if_true, if_false, Nat.reduceAdd, Nat.reduceEqDiff, Nat.reduceMod, Nat.reduceLT, Nat.reduceLeDiff, Nat.reduceSub, Nat.reduceMul, Nat.reduceBEq, Int.reduceAdd, Int.reduceSub, Int.reduceMul, Int.reduceNeg, Int.reduceLT, Int.reduceLE, Int.reduceToNat, Int.reduceEq, Int.reduceBEq, c9, r9]
  refine (ans_trnew m).mono ?_
  rintro _ m1 ⟨rfl, k1, p1⟩
  have hpm := own_lt p1
  simp -implicitDefEqProofs (disch := (first | omega | (simp only [lenB, Tr.row_len, Rf.cells_len, Nd.cells_len, two_len] <;> omega) | fail)) only [admQ, lenB, Tr.row_len, Rf.cells_len, Nd.cells_len, two_len, aFill, AK.cls, implies_true, ↓reduceIte, reduceCtorEq, if_true, if_false, Nat.reduceAdd, Nat.reduceEqDiff, Nat.reduceMod, Nat.reduceLT, Nat.reduceLeDiff, Nat.reduceSub, Nat.reduceMul, Nat.reduceBEq, Int.reduceAdd, Int.reduceSub, Int.reduceMul, Int.reduceNeg, Int.reduceLT, Int.reduceLE, Int.reduceToNat, Int.reduceEq, Int.reduceBEq]
  refine (ans_lawref 7 m1).mono ?_
  rintro _ m2 ⟨rfl, k2⟩
  have p2 := k2.own0 p1
  simp -implicitDefEqProofs (disch := (first | omega | (simp only [lenB, Tr.row_len, Rf.cells_len, Nd.cells_len, two_len] <;> omega) | fail)) only [admQ, lenB, Tr.row_len, Rf.cells_len, Nd.cells_len, two_len, aFill, AK.cls, implies_true, ↓reduceIte, reduceCtorEq, if_true, if_false, Nat.reduceAdd, Nat.reduceEqDiff, Nat.reduceMod, Nat.reduceLT, Nat.reduceLeDiff, Nat.reduceSub, Nat.reduceMul, Nat.reduceBEq, Int.reduceAdd, Int.reduceSub, Int.reduceMul, Int.reduceNeg, Int.reduceLT, Int.reduceLE, Int.reduceToNat, Int.reduceEq, Int.reduceBEq]
  refine (ans_set p2 9 (refOf 7)).mono ?_
  rintro y3 m3 ⟨-, k3, p3⟩
  rw [show Tr.new.setT 9 (refOf 7) = wk1 from rfl] at p3
  simp -implicitDefEqProofs (disch := (first | omega | (simp only [lenB, Tr.row_len, Rf.cells_len, Nd.cells_len, two_len] <;> omega) | fail)) only [admQ, lenB, Tr.row_len, Rf.cells_len, Nd.cells_len, two_len, aFill, AK.cls, implies_true, ↓reduceIte, reduceCtorEq, if_true, if_false, Nat.reduceAdd, Nat.reduceEqDiff, Nat.reduceMod, Nat.reduceLT, Nat.reduceLeDiff, Nat.reduceSub, Nat.reduceMul, Nat.reduceBEq, Int.reduceAdd, Int.reduceSub, Int.reduceMul, Int.reduceNeg, Int.reduceLT, Int.reduceLE, Int.reduceToNat, Int.reduceEq, Int.reduceBEq]
  refine (ans_lawref 8 m3).mono ?_
  rintro _ m4 ⟨rfl, k4⟩
  have p4 := k4.own0 p3
  simp -implicitDefEqProofs (disch := (first | omega | (simp only [lenB, Tr.row_len, Rf.cells_len, Nd.cells_len, two_len] <;> omega) | fail)) only [admQ, lenB, Tr.row_len, Rf.cells_len, Nd.cells_len, two_len, aFill, AK.cls, implies_true, ↓reduceIte, reduceCtorEq, if_true, if_false, Nat.reduceAdd, Nat.reduceEqDiff, Nat.reduceMod, Nat.reduceLT, Nat.reduceLeDiff, Nat.reduceSub, Nat.reduceMul, Nat.reduceBEq, Int.reduceAdd, Int.reduceSub, Int.reduceMul, Int.reduceNeg, Int.reduceLT, Int.reduceLE, Int.reduceToNat, Int.reduceEq, Int.reduceBEq]
  refine (ans_saved p4 0 (refOf 8)).mono ?_
  rintro _ m5 ⟨rfl, k5, p5⟩
  rw [wk_t2] at p5
  simp -implicitDefEqProofs (disch := (first | omega | (simp only [lenB, Tr.row_len, Rf.cells_len, Nd.cells_len, two_len] <;> omega) | fail)) only [admQ, lenB, Tr.row_len, Rf.cells_len, Nd.cells_len, two_len, aFill, AK.cls, implies_true, ↓reduceIte, reduceCtorEq, if_true, if_false, Nat.reduceAdd, Nat.reduceEqDiff, Nat.reduceMod, Nat.reduceLT, Nat.reduceLeDiff, Nat.reduceSub, Nat.reduceMul, Nat.reduceBEq, Int.reduceAdd, Int.reduceSub, Int.reduceMul, Int.reduceNeg, Int.reduceLT, Int.reduceLE, Int.reduceToNat, Int.reduceEq, Int.reduceBEq, wk_e1]
  refine (ans_lawref 8 m5).mono ?_
  rintro _ m6 ⟨rfl, k6⟩
  have p6 := k6.own0 p5
  simp -implicitDefEqProofs (disch := (first | omega | (simp only [lenB, Tr.row_len, Rf.cells_len, Nd.cells_len, two_len] <;> omega) | fail)) only [admQ, lenB, Tr.row_len, Rf.cells_len, Nd.cells_len, two_len, aFill, AK.cls, implies_true, ↓reduceIte, reduceCtorEq, if_true, if_false, Nat.reduceAdd, Nat.reduceEqDiff, Nat.reduceMod, Nat.reduceLT, Nat.reduceLeDiff, Nat.reduceSub, Nat.reduceMul, Nat.reduceBEq, Int.reduceAdd, Int.reduceSub, Int.reduceMul, Int.reduceNeg, Int.reduceLT, Int.reduceLE, Int.reduceToNat, Int.reduceEq, Int.reduceBEq]
  refine (ans_saved p6 2 (refOf 8)).mono ?_
  rintro _ m7 ⟨rfl, k7, p7⟩
  rw [show wk1.savedT 2 (refOf 8) = wk2 from rfl] at p7
  simp -implicitDefEqProofs (disch := (first | omega | (simp only [lenB, Tr.row_len, Rf.cells_len, Nd.cells_len, two_len] <;> omega) | fail)) only [admQ, lenB, Tr.row_len, Rf.cells_len, Nd.cells_len, two_len, aFill, AK.cls, implies_true, ↓reduceIte, reduceCtorEq, if_true, if_false, Nat.reduceAdd, Nat.reduceEqDiff, Nat.reduceMod, Nat.reduceLT, Nat.reduceLeDiff, Nat.reduceSub, Nat.reduceMul, Nat.reduceBEq, Int.reduceAdd, Int.reduceSub, Int.reduceMul, Int.reduceNeg, Int.reduceLT, Int.reduceLE, Int.reduceToNat, Int.reduceEq, Int.reduceBEq, wk_e2]
  refine (ans_lawref 9 m7).mono ?_
  rintro _ m8 ⟨rfl, k8⟩
  have p8 := k8.own0 p7
  simp -implicitDefEqProofs (disch := (first | omega | (simp only [lenB, Tr.row_len, Rf.cells_len, Nd.cells_len, two_len] <;> omega) | fail)) only [admQ, lenB, Tr.row_len, Rf.cells_len, Nd.cells_len, two_len, aFill, AK.cls, implies_true, ↓reduceIte, reduceCtorEq, if_true, if_false, Nat.reduceAdd, Nat.reduceEqDiff, Nat.reduceMod, Nat.reduceLT, Nat.reduceLeDiff, Nat.reduceSub, Nat.reduceMul, Nat.reduceBEq, Int.reduceAdd, Int.reduceSub, Int.reduceMul, Int.reduceNeg, Int.reduceLT, Int.reduceLE, Int.reduceToNat, Int.reduceEq, Int.reduceBEq]
  refine (ans_saved p8 0 (refOf 9)).mono ?_
  rintro _ m9 ⟨rfl, k9, p9⟩
  rw [show wk2.savedT 0 (refOf 9) = wk3 from rfl] at p9
  simp -implicitDefEqProofs (disch := (first | omega | (simp only [lenB, Tr.row_len, Rf.cells_len, Nd.cells_len, two_len] <;> omega) | fail)) only [admQ, lenB, Tr.row_len, Rf.cells_len, Nd.cells_len, two_len, aFill, AK.cls, implies_true, ↓reduceIte, reduceCtorEq, if_true, if_false, Nat.reduceAdd, Nat.reduceEqDiff, Nat.reduceMod, Nat.reduceLT, Nat.reduceLeDiff, Nat.reduceSub, Nat.reduceMul, Nat.reduceBEq, Int.reduceAdd, Int.reduceSub, Int.reduceMul, Int.reduceNeg, Int.reduceLT, Int.reduceLE, Int.reduceToNat, Int.reduceEq, Int.reduceBEq, wk_e3]
  refine (ans_lawref 11 m9).mono ?_
  rintro _ m10 ⟨rfl, k10⟩
  have p10 := k10.own0 p9
  simp -implicitDefEqProofs (disch := (first | omega | (simp only [lenB, Tr.row_len, Rf.cells_len, Nd.cells_len, two_len] <;> omega) | fail)) only [admQ, lenB, Tr.row_len, Rf.cells_len, Nd.cells_len, two_len, aFill, AK.cls, implies_true, ↓reduceIte, reduceCtorEq, if_true, if_false, Nat.reduceAdd, Nat.reduceEqDiff, Nat.reduceMod, Nat.reduceLT, Nat.reduceLeDiff, Nat.reduceSub, Nat.reduceMul, Nat.reduceBEq, Int.reduceAdd, Int.reduceSub, Int.reduceMul, Int.reduceNeg, Int.reduceLT, Int.reduceLE, Int.reduceToNat, Int.reduceEq, Int.reduceBEq]
  refine (ans_set p10 10 (refOf 11)).mono ?_
  rintro y11 m11 ⟨g11, k11, p11⟩
  rw [wk_r4] at g11
  rw [show wk3.setT 10 (refOf 11) = wk4 from rfl] at p11
  have kk : Kept [m.length] m1 m11 := by
    have := ((k2.any (Y := [m.length])).trans k3).trans k4.any
    exact ((((((this.trans k5).trans k6.any).trans k7).trans k8.any).trans k9).trans k10.any).trans k11
  have kz : Kept [] m m11 := k1.upon kk (fun q hq => by simp at hq; omega)
  simp -implicitDefEqProofs (disch := (first | omega | (simp only [lenB, Tr.row_len, Rf.cells_len, Nd.cells_len, two_len] <;> omega) | fail)) only [admQ, lenB, Tr.row_len, Rf.cells_len, Nd.cells_len, two_len, aFill, AK.cls, implies_true, ↓reduceIte, reduceCtorEq, if_true, if_false, Nat.reduceAdd, Nat.reduceEqDiff, Nat.reduceMod, Nat.reduceLT, Nat.reduceLeDiff, Nat.reduceSub, Nat.reduceMul, Nat.reduceBEq, Int.reduceAdd, Int.reduceSub, Int.reduceMul, Int.reduceNeg, Int.reduceLT, Int.reduceLE, Int.reduceToNat, Int.reduceEq, Int.reduceBEq]
  refine (ans_lawref 8 m11).mono ?_
  rintro _ m12 ⟨rfl, k12⟩
  simp -implicitDefEqProofs (disch := (first | omega | (simp only [lenB, Tr.row_len, Rf.cells_len, Nd.cells_len, two_len] <;> omega) | fail)) only [admQ, lenB, Tr.row_len, Rf.cells_len, Nd.cells_len, two_len, aFill, AK.cls, implies_true, ↓reduceIte, reduceCtorEq, if_true, if_false, Nat.reduceAdd, Nat.reduceEqDiff, Nat.reduceMod, Nat.reduceLT, Nat.reduceLeDiff, Nat.reduceSub, Nat.reduceMul, Nat.reduceBEq, Int.reduceAdd, Int.reduceSub, Int.reduceMul, Int.reduceNeg, Int.reduceLT, Int.reduceLE, Int.reduceToNat, Int.reduceEq, Int.reduceBEq]
  refine (ans_lawref 9 m12).mono ?_
  rintro _ m13 ⟨rfl, k13⟩
  have g13 := (g11.kept0 k12).kept0 k13
  have p13 := k13.own0 (k12.own0 p11)
  simp -implicitDefEqProofs (disch := (first | omega | (simp only [lenB, Tr.row_len, Rf.cells_len, Nd.cells_len, two_len] <;> omega) | fail)) only [admQ, lenB, Tr.row_len, Rf.cells_len, Nd.cells_len, two_len, aFill, AK.cls, implies_true, ↓reduceIte, reduceCtorEq, if_true, if_false, Nat.reduceAdd, Nat.reduceEqDiff, Nat.reduceMod, Nat.reduceLT, Nat.reduceLeDiff, Nat.reduceSub, Nat.reduceMul, Nat.reduceBEq, Int.reduceAdd, Int.reduceSub, Int.reduceMul, Int.reduceNeg, Int.reduceLT, Int.reduceLE, Int.reduceToNat, Int.reduceEq, Int.reduceBEq, rf_zero, rep2, two0, two1]
  refine (ans_samerefs (g13.kept0 (.app [] _ _)) (RfL.two m13 (refOf 8) (refOf 9)) (by simp)).mono ?_
  rintro _ _ ⟨rfl, rfl⟩
  have p14 := own_app p13 [.row (flatOf Rf.cells [refOf 8, refOf 9]) false]
  have kz14 : Kept [] m (m13 ++ [.row (flatOf Rf.cells [refOf 8, refOf 9]) false]) := ((kz.trans k12).trans k13).trans (.app _ _ _)
  generalize m13 ++ [Blk.row (flatOf Rf.cells [refOf 8, refOf 9]) false] = m14 at *
  simp -implicitDefEqProofs (disch := (first | omega | (simp only [lenB, Tr.row_len, Rf.cells_len, Nd.cells_len, two_len] <;> omega) | fail)) only [admQ, lenB, Tr.row_len, Rf.cells_len, Nd.cells_len, two_len, aFill, AK.cls, implies_true, ↓reduceIte, reduceCtorEq, if_true, if_false, Nat.reduceAdd, Nat.reduceEqDiff, Nat.reduceMod, Nat.reduceLT, Nat.reduceLeDiff, Nat.reduceSub, Nat.reduceMul, Nat.reduceBEq, Int.reduceAdd, Int.reduceSub, Int.reduceMul, Int.reduceNeg, Int.reduceLT, Int.reduceLE, Int.reduceToNat, Int.reduceEq, Int.reduceBEq, dec_t]
  refine (ans_refs p14).mono ?_
  rintro y15 m15 ⟨g15, k15⟩
  rw [wk_r5] at g15
  simp -implicitDefEqProofs (disch := (first | omega | (simp only [lenB, Tr.row_len, Rf.cells_len, Nd.cells_len, two_len] <;> omega) | fail)) only [admQ, lenB, Tr.row_len, Rf.cells_len, Nd.cells_len, two_len, aFill, AK.cls, implies_true, ↓reduceIte, reduceCtorEq, if_true, if_false, Nat.reduceAdd, Nat.reduceEqDiff, Nat.reduceMod, Nat.reduceLT, Nat.reduceLeDiff, Nat.reduceSub, Nat.reduceMul, Nat.reduceBEq, Int.reduceAdd, Int.reduceSub, Int.reduceMul, Int.reduceNeg, Int.reduceLT, Int.reduceLE, Int.reduceToNat, Int.reduceEq, Int.reduceBEq]
  refine (ans_lawref 7 m15).mono ?_
  rintro _ m16 ⟨rfl, k16⟩
  simp -implicitDefEqProofs (disch := (first | omega | (simp only [lenB, Tr.row_len, Rf.cells_len, Nd.cells_len, two_len] <;> omega) | fail)) only [admQ, lenB, Tr.row_len, Rf.cells_len, Nd.cells_len, two_len, aFill, AK.cls, implies_true, ↓reduceIte, reduceCtorEq, if_true, if_false, Nat.reduceAdd, Nat.reduceEqDiff, Nat.reduceMod, Nat.reduceLT, Nat.reduceLeDiff, Nat.reduceSub, Nat.reduceMul, Nat.reduceBEq, Int.reduceAdd, Int.reduceSub, Int.reduceMul, Int.reduceNeg, Int.reduceLT, Int.reduceLE, Int.reduceToNat, Int.reduceEq, Int.reduceBEq]
  refine (ans_lawref 11 m16).mono ?_
  rintro _ m17 ⟨rfl, k17⟩
  have g17 := (g15.kept0 k16).kept0 k17
  have p17 := k17.own0 (k16.own0 (k15.own0 p14))
  simp -implicitDefEqProofs (disch := (first | omega | (simp only [lenB, Tr.row_len, Rf.cells_len, Nd.cells_len, two_len] <;> omega) | fail)) only [admQ, lenB, Tr.row_len, Rf.cells_len, Nd.cells_len, two_len, aFill, AK.cls, implies_true, ↓reduceIte, reduceCtorEq, if_true, if_false, Nat.reduceAdd, Nat.reduceEqDiff, Nat.reduceMod, Nat.reduceLT, Nat.reduceLeDiff, Nat.reduceSub, Nat.reduceMul, Nat.reduceBEq, Int.reduceAdd, Int.reduceSub, Int.reduceMul, Int.reduceNeg, Int.reduceLT, Int.reduceLE, Int.reduceToNat, Int.reduceEq, Int.reduceBEq, rf_zero, rep2, two0, two1]
  refine (ans_samerefs (g17.kept0 (.app [] _ _)) (RfL.two m17 (refOf 7) (refOf 11)) (by simp)).mono ?_
  rintro _ _ ⟨rfl, rfl⟩
  simp -implicitDefEqProofs (disch := (first | omega | (simp only [lenB, Tr.row_len, Rf.cells_len, Nd.cells_len, two_len] <;> omega) | fail)) only [admQ, lenB, Tr.row_len, Rf.cells_len, Nd.cells_len, two_len, aFill, AK.cls, implies_true, ↓reduceIte, reduceCtorEq, if_true, if_false, Nat.reduceAdd, Nat.reduceEqDiff, Nat.reduceMod, Nat.reduceLT, Nat.reduceLeDiff, Nat.reduceSub, Nat.reduceMul, Nat.reduceBEq, Int.reduceAdd, Int.reduceSub, Int.reduceMul, Int.reduceNeg, Int.reduceLT, Int.reduceLE, Int.reduceToNat, Int.reduceEq, Int.reduceBEq, dec_t]
  refine (ans_mapped (own_app p17 _)).mono ?_
  rintro _ m18 ⟨rfl, k18⟩
  rw [wk_m5]
  simp -implicitDefEqProofs (disch := (first | omega | (simp only [lenB, Tr.row_len, Rf.cells_len, Nd.cells_len, two_len] <;> omega) | fail)) only [admQ, lenB, Tr.row_len, Rf.cells_len, Nd.cells_len, two_len, aFill, AK.cls, implies_true, ↓reduceIte, reduceCtorEq, if_true, if_false, Nat.reduceAdd, Nat.reduceEqDiff, Nat.reduceMod, Nat.reduceLT, Nat.reduceLeDiff, Nat.reduceSub, Nat.reduceMul, Nat.reduceBEq, Int.reduceAdd, Int.reduceSub, Int.reduceMul, Int.reduceNeg, Int.reduceLT, Int.reduceLE, Int.reduceToNat, Int.reduceEq, Int.reduceBEq]
  exact ((((kz14.trans k15).trans k16).trans k17).trans (.app _ _ _)).trans k18
end Go.Proofs.Ytmklcealhjmlgaa
end
section
/- The tree of blocks: what is alive and what is dead, purely. -/
namespace Go.Proofs.Ytmklcealhjmlgaa
open Go Go.Adm
set_option linter.unusedSimpArgs false
theorem flatMap_set_perm {α β : Type} (g : α → List β) : ∀ (l : List α) (i : Nat) (x y : α), l[i]? = some y → ((l.set i x).flatMap g ++ g y).Perm (l.flatMap g ++ g x) := by
  intro l
  induction l with
  | nil => intro i x y h; simp at h
  | cons a l ih =>
    intro i x y h
    cases i with
    | zero =>
      obtain rfl : a = y := by simpa using h
      simp only [List.set_cons_zero, List.flatMap_cons]
      exact (List.perm_append_comm.append_right _).trans (by
        rw [List.append_assoc]
        exact (List.Perm.append_left _ List.perm_append_comm).trans (by
          rw [← List.append_assoc]
          exact List.perm_append_comm.append_right _ |>.trans (.refl _) |>.trans (by simp)))
    | succ i =>
      simp only [List.set_cons_succ, List.flatMap_cons, List.append_assoc]
      exact (ih i x y (by simpa using h)).append_left _
def oneB (r : Rf) : List Rf := if r = Rf.zero then [] else [r]
theorem liveB_flat (l : List Rf) : liveB l = l.flatMap oneB := by
  induction l with
  | nil => rfl
  | cons a l ih =>
    rw [List.flatMap_cons, ← ih, liveB, List.filter_cons]
    by_cases h : a = Rf.zero
    · simp [h, oneB, liveB]
    · simp [h, oneB, liveB]
theorem cnt_setB (t : Tr) {i : Nat} (h : i < 64) (x r : Rf) : (t.setB i x).refs.count r + (oneB (t.b i)).count r = t.refs.count r + (oneB x).count r := by
  have e := (flatMap_set_perm oneB t.bl i x (t.b i) (t.b_get h)).count_eq r
  simp only [Tr.refs, Tr.setB, liveB_flat, List.count_append] at *
  omega
theorem cnt_setN (t : Tr) {i : Nat} (h : i < 9) (x : Nd) (r : Rf) : (t.setN i x).refs.count r + (goneN (t.n i)).count r = t.refs.count r + (goneN x).count r := by
  have e := (flatMap_set_perm goneN t.nd i x (t.n i) (t.n_get h)).count_eq r
  simp only [Tr.refs, Tr.setN, liveN, List.count_append] at *
  omega
theorem gone_dirty : goneN Nd.dirty = [] := rfl
theorem gone_none : goneN Nd.none = [] := rfl
theorem cnt_spoil (r : Rf) (l : List Nat) : ∀ t : Tr, (∀ i ∈ l, i < 9) → (t.spoilT l).refs.count r + (t.spoilR l).count r = t.refs.count r := by
  induction l with
  | nil => intro t _; simp [Tr.spoilT, Tr.spoilR]
  | cons i l ih =>
    intro t h
    have h1 := ih (t.setN i Nd.dirty) (fun j hj => h j (List.mem_cons_of_mem _ hj))
    have h2 := cnt_setN t (h i (List.mem_cons_self ..)) Nd.dirty r
    have h3 : t.gone i = goneN (t.n i) := rfl
    rw [gone_dirty, List.count_nil] at h2
    simp only [Tr.spoilT, Tr.spoilR, List.count_append, h3]
    omega
theorem oneB_pos {r : Rf} (h : 0 < r.at_) : oneB r = [r] := if_neg (by rintro rfl; exact absurd h (by decide))
theorem cnt_set (t : Tr) (k : Int) (x r : Rf) : (t.setT k x).refs.count r + (t.setR k x).count r = t.refs.count r + (if Tr.setOk k x then [x] else []).count r := by
  by_cases h : Tr.setOk k x
  · rw [Tr.setT, Tr.setR, if_pos h, if_pos h, if_pos h]
    obtain ⟨⟨h1, h2⟩, h3⟩ := h
    have e1 := cnt_setB t (i := k.toNat) (by omega) x r
    have e2 := cnt_spoil r [k.toNat / 8 + 1, 0] (t.setB k.toNat x) (by simp; omega)
    have e3 : t.old k.toNat = oneB (t.b k.toNat) := rfl
    rw [oneB_pos (r := x) (by omega)] at e1
    rw [List.count_append, e3]
    omega
  · rw [Tr.setT, Tr.setR, if_neg h, if_neg h, if_neg h]
theorem delT1_leaf (t : Tr) {k : Nat} (h : k < 64) : (t.delT1 k).n (k / 8 + 1) = Nd.dirty := by
  simp only [Tr.delT1, Tr.spoilT]
  rw [Tr.setN_n _ _ _ _ (by omega), if_neg (by omega), Tr.setN_n _ _ _ _ (by omega), if_pos rfl]
theorem cnt_del (t : Tr) (k : Int) (r : Rf) : (t.delT k).refs.count r + (t.delR k).count r = t.refs.count r := by
  by_cases h : t.at k = Rf.zero
  · rw [Tr.delT, Tr.delR, if_pos h, if_pos h]; simp
  · have hk : 0 ≤ k ∧ k < 64 := Classical.byContradiction fun h' => h (t.at_out h')
    obtain ⟨k, rfl⟩ := Int.eq_ofNat_of_zero_le hk.1
    have hk6 : k < 64 := by omega
    rw [Tr.delT, Tr.delR, if_neg h, if_neg h, Int.toNat_natCast]
    rw [t.at_nat hk6] at *
    have e1 := cnt_setB t hk6 Rf.zero r
    have e2 := cnt_spoil r [k / 8 + 1, 0] (t.setB k Rf.zero) (by simp; omega)
    have e3 : oneB (t.b k) = [t.b k] := if_neg h
    have e4 : oneB Rf.zero = [] := if_pos rfl
    have e5 := cnt_setN (t.delT1 k) (i := k / 8 + 1) (by omega) Nd.none r
    rw [delT1_leaf t hk6, gone_none, gone_dirty] at e5
    rw [e3, e4] at e1
    have e6 : (if (t.delT1 k).some (k / 8 + 1) then t.delT1 k else (t.delT1 k).setN (k / 8 + 1) Nd.none).refs.count r = (t.delT1 k).refs.count r := by
      split
      · rfl
      · omega
    have e7 : t.delT1 k = (t.setB k Rf.zero).spoilT [k / 8 + 1, 0] := rfl
    rw [e6, e7, show t.b k :: (t.setB k Rf.zero).spoilR [k / 8 + 1, 0] = [t.b k] ++ (t.setB k Rf.zero).spoilR [k / 8 + 1, 0] from rfl, List.count_append]
    simp only [List.count_nil] at e1
    omega
theorem cnt_touch (t : Tr) (k : Int) (r : Rf) : (t.touchT k).refs.count r + (t.touchR k).count r = t.refs.count r := by
  by_cases h : t.touchOk k
  · rw [Tr.touchT, Tr.touchR, if_pos h, if_pos h]
    have := Tr.node_lt h.1
    exact cnt_spoil r _ t (by unfold Tr.touchL; split <;> simp <;> omega)
  · rw [Tr.touchT, Tr.touchR, if_neg h, if_neg h]; simp
theorem savedE_dirty {t : Tr} {k : Int} {x : Rf} (h : t.savedE k x = 0) : t.isDirty k := by
  apply Classical.byContradiction
  intro h'
  rw [Tr.savedE, if_pos (.inl h')] at h
  exact absurd h (by decide)
theorem cnt_saved (t : Tr) (k : Int) (x r : Rf) : (t.savedT k x).refs.count r = t.refs.count r + (if t.savedE k x = 0 ∧ 0 < x.at_ then [x] else []).count r := by
  by_cases h : t.savedE k x = 0
  · obtain ⟨h1, h2, h3⟩ := savedE_dirty h
    rw [Tr.savedT, if_pos h]
    have e := cnt_setN t (i := k.toNat) (by omega) ⟨1, x⟩ r
    have e1 : goneN (t.n k.toNat) = [] := if_neg (fun h => by rw [h3] at h; exact absurd h.1 (by decide))
    have e2 : goneN ⟨1, x⟩ = if t.savedE k x = 0 ∧ 0 < x.at_ then [x] else [] := by
      simp [goneN, h]
    rw [e1, e2, List.count_nil] at e
    omega
  · rw [Tr.savedT, if_neg h, if_neg (fun h' => h h'.1)]; simp
theorem cnt_run (o : TOp) (t : Tr) (r : Rf) : (o.runT t).refs.count r + (o.runR t).count r = t.refs.count r + (o.runN t).count r := by
  unfold TOp.runT TOp.runR TOp.runN
  by_cases k0 : o.kind = 0
  · simp only [if_pos k0]; exact cnt_set ..
  by_cases k1 : o.kind = 1
  · simp [k1]; exact cnt_del ..
  by_cases k2 : o.kind = 2
  · simp [k2]; exact cnt_touch ..
  by_cases k3 : o.kind = 3
  · simp only [k3]; simp; have := cnt_saved t o.n o.r r; simpa using this
  · simp [k0, k1, k2, k3]
/-- Each block's ref is none, or a place. -/
def Tr.Ok (t : Tr) : Prop := ∀ i, i < 64 → t.b i = Rf.zero ∨ 1 ≤ (t.b i).at_
theorem spoilT_b (l : List Nat) : ∀ (t : Tr) (i : Nat), (t.spoilT l).b i = t.b i := by
  induction l with
  | nil => intro t i; rfl
  | cons j l ih => intro t i; rw [Tr.spoilT, ih, Tr.setN_b]
theorem setT_b (t : Tr) (k : Int) (x : Rf) (i : Nat) : (t.setT k x).b i = if Tr.setOk k x ∧ k.toNat = i then x else t.b i := by
  by_cases h : Tr.setOk k x
  · rw [Tr.setT, if_pos h, spoilT_b, Tr.setB_b _ _ _ _ (by have := h.1; omega)]
    by_cases e : k.toNat = i
    · rw [if_pos e, if_pos ⟨h, e⟩]
    · rw [if_neg e, if_neg (fun h => e h.2)]
  · rw [Tr.setT, if_neg h, if_neg (fun h' => h h'.1)]
theorem delT_b (t : Tr) (k : Int) (i : Nat) : (t.delT k).b i = if t.at k ≠ Rf.zero ∧ k.toNat = i then Rf.zero else t.b i := by
  by_cases h : t.at k = Rf.zero
  · rw [Tr.delT, if_pos h, if_neg (fun h' => h'.1 h)]
  · have hk : 0 ≤ k ∧ k < 64 := Classical.byContradiction fun h' => h (t.at_out h')
    have e1 : (t.delT k).b i = (t.setB k.toNat Rf.zero).b i := by
      rw [Tr.delT, if_neg h]
      split
      · rw [Tr.delT1, spoilT_b]
      · rw [Tr.setN_b, Tr.delT1, spoilT_b]
    rw [e1, Tr.setB_b _ _ _ _ (by omega)]
    by_cases e : k.toNat = i
    · rw [if_pos e, if_pos ⟨h, e⟩]
    · rw [if_neg e, if_neg (fun h => e h.2)]
theorem touchT_b (t : Tr) (k : Int) (i : Nat) : (t.touchT k).b i = t.b i := by
  unfold Tr.touchT; split
  · rw [spoilT_b]
  · rfl
theorem savedT_b (t : Tr) (k : Int) (x : Rf) (i : Nat) : (t.savedT k x).b i = t.b i := by
  unfold Tr.savedT; split
  · rw [Tr.setN_b]
  · rfl
theorem run_ok {t : Tr} (h : t.Ok) (o : TOp) : (o.runT t).Ok := by
  intro i hi
  unfold TOp.runT
  split
  · rw [setT_b]; split
    · rename_i h'; exact .inr h'.1.2
    · exact h i hi
  split
  · rw [delT_b]; split
    · exact .inl rfl
    · exact h i hi
  split
  · rw [touchT_b]; exact h i hi
  split
  · rw [savedT_b]; exact h i hi
  · exact h i hi
theorem new_ok : Tr.new.Ok := fun i hi => .inl (by
  show (List.replicate 64 Rf.zero).getD i Rf.zero = _
  rw [List.getD_eq_getElem?_getD, List.getElem?_replicate, if_pos hi]; rfl)
theorem refs_pos {t : Tr} (h : t.Ok) {r : Rf} (hr : r ∈ t.refs) : 1 ≤ r.at_ := by
  rcases List.mem_append.mp hr with hr | hr
  · obtain ⟨h1, h2⟩ := List.mem_filter.mp hr
    obtain ⟨i, hi, rfl⟩ := List.getElem_of_mem h1
    have hi' := hi
    rw [t.hb] at hi'
    have e := t.b_get hi'
    rw [List.getElem?_eq_getElem hi, Option.some.injEq] at e
    rcases h i hi' with h0 | h0
    · rw [← e] at h0; simp [h0] at h2
    · rwa [← e] at h0
  · obtain ⟨n, _, h2⟩ := List.mem_flatMap.mp hr
    unfold goneN at h2
    split at h2
    · rename_i h3; simp at h2; rw [h2]; omega
    · simp at h2
theorem new_pos {t : Tr} {o : TOp} {r : Rf} (h : r ∈ o.runN t) : 1 ≤ r.at_ := by
  unfold TOp.runN at h
  split at h
  · split at h
    · rename_i h'; simp at h; rw [h]; exact h'.2
    · simp at h
  · split at h
    · rename_i h'; simp at h; rw [h]; omega
    · simp at h
theorem dead_pos {t : Tr} (h : t.Ok) {o : TOp} {r : Rf} (hr : r ∈ o.runR t) : 1 ≤ r.at_ := by
  have e := cnt_run o t r
  have := List.count_pos_iff.mpr hr
  by_cases h1 : r ∈ t.refs
  · exact refs_pos h h1
  · rw [List.count_eq_zero.mpr h1] at e
    exact new_pos (List.count_pos_iff.mp (by omega : 0 < (o.runN t).count r))
end Go.Proofs.Ytmklcealhjmlgaa
end
section
/- The statement TreeAccounts, walked. -/
namespace Go.Proofs.Ytmklcealhjmlgaa
open Go Go.Adm
set_option linter.unusedSimpArgs false
set_option maxRecDepth 100000
set_option maxHeartbeats 1000000
/-- A list of calls that can be read. -/
def RdO (m : Mem) (x : AV) (L : List TOp) : Prop := (x = .nils ∧ L = []) ∨ ∃ b cap rest, x = .sl b 0 L.length cap 0 ∧ rowOf m b = some (flatOf TOp.cells L ++ rest)
theorem RdO.len {m : Mem} {x : AV} {L : List TOp} (h : RdO m x L) : pLen [x] = some (.int .i64 L.length) := by
  rcases h with ⟨rfl, rfl⟩ | ⟨b, cap, rest, rfl, _⟩ <;> rfl
theorem op_part {L : List TOp} {i : Nat} (h : i < L.length) : ((flatOf TOp.cells L).drop (i * 299)).take 299 = (L[i]).cells := flatOf_get TOp.cells_len L i h
theorem op_le {L : List TOp} {i : Nat} (h : i < L.length) : i * 299 + 299 ≤ (flatOf TOp.cells L).length := by rw [flatOf_length TOp.cells_len]; omega
theorem RdO.at_ {m : Mem} {x : AV} {L : List TOp} (h : RdO m x L) {i : Nat} (hi : i < L.length) : ∃ b cap c, x = .sl b 0 L.length cap 0 ∧ rowOf m b = some c ∧ (c.drop (i * 299)).take 299 = (L[i]).cells ∧ i * 299 + 299 ≤ c.length := by
  rcases h with ⟨rfl, rfl⟩ | ⟨b, cap, rest, h1, h2⟩
  · simp at hi
  · have hl := op_le hi
    refine ⟨b, cap, _, h1, h2, ?_, by rw [List.length_append]; omega⟩
    rw [List.drop_append_of_le_length (by omega), List.take_append_of_le_length (by simp; omega), op_part hi]
theorem RdO.take {m : Mem} {b n cap : Nat} {L : List TOp} (h : RdO m (.sl b 0 n cap 0) L) {k : Nat} (hk : k ≤ n) : RdO m (.sl b 0 k cap 0) (L.take k) := by
  rcases h with ⟨h, _⟩ | ⟨b', cap', rest, h1, h2⟩
  · cases h
  · cases h1
    refine .inr ⟨b, cap, flatOf TOp.cells (L.drop k) ++ rest, by rw [List.length_take, Nat.min_eq_left hk], ?_⟩
    rw [h2, ← List.append_assoc, ← flatOf_app, List.take_append_drop]
theorem RdO.kept0 {m m' : Mem} {x : AV} {L : List TOp} (h : RdO m x L) (hk : Kept [] m m') : RdO m' x L := by
  rcases h with h | ⟨b, cap, rest, rfl, h⟩
  · exact .inl h
  · exact .inr ⟨b, cap, rest, rfl, hk.row0 h⟩
theorem len_run (o : TOp) (t : Tr) : (o.runT t).refs.length + (o.runR t).length = t.refs.length + (o.runN t).length := by
  have : ((o.runT t).refs ++ o.runR t).Perm (t.refs ++ o.runN t) := List.perm_iff_count.mpr fun r => by
    rw [List.count_append, List.count_append]; exact cnt_run o t r
  have := this.length_eq
  simpa using this
theorem refs_len (t : Tr) : t.refs.length ≤ 73 := by
  have h1 := liveB_len t.bl
  have h2 := liveN_len t.nd
  rw [t.hb] at h1
  rw [t.hn] at h2
  rw [Tr.refs, List.length_append]; omega
theorem runN_len (o : TOp) (t : Tr) : (o.runN t).length ≤ 1 := by
  unfold TOp.runN
  split
  · split <;> simp
  · split <;> simp
theorem ans_acc {m : Mem} {x : AV} {L : List TOp} (hx : RdO m x L) : Ans Try.prog 3 [x] m fun y m' => y = .bool true ∧ Kept [] m m' := by
  refine ans_ret mixed ok3 ?_
  have hlx := hx.len
  by_cases hn : 200 < L.length
  · simp -implicitDefEqProofs (disch := (first | omega | (simp only [lenB, Tr.row_len, Rf.cells_len, Nd.cells_len, TOp.cells_len] <;> omega) | fail)) only [admQ, lenB, Tr.row_len, Rf.cells_len, Nd.cells_len, TOp.cells_len, aFill, AK.cls, implies_true, ↓reduceIte, reduceCtorEq, if_true, if_false, Nat.reduceAdd, Nat.reduceEqDiff, Nat.reduceMod, Nat.reduceLT, Nat.reduceLeDiff, Nat.reduceSub, Nat.reduceMul, Nat.reduceBEq, Int.reduceAdd, Int.reduceSub, Int.reduceMul, Int.reduceNeg, Int.reduceLT, Int.reduceLE, Int.reduceToNat, Int.reduceEq, Int.reduceBEq, c3, r3, hlx, dec_t, dec_f]
    refine (ans_trworks m).mono ?_
    rintro _ m1 ⟨rfl, k1⟩
    simp -implicitDefEqProofs (disch := (first | omega | (simp only [lenB, Tr.row_len, Rf.cells_len, Nd.cells_len, TOp.cells_len] <;> omega) | fail)) only [admQ, lenB, Tr.row_len, Rf.cells_len, Nd.cells_len, TOp.cells_len, aFill, AK.cls, implies_true, ↓reduceIte, reduceCtorEq, if_true, if_false, Nat.reduceAdd, Nat.reduceEqDiff, Nat.reduceMod, Nat.reduceLT, Nat.reduceLeDiff, Nat.reduceSub, Nat.reduceMul, Nat.reduceBEq, Int.reduceAdd, Int.reduceSub, Int.reduceMul, Int.reduceNeg, Int.reduceLT, Int.reduceLE, Int.reduceToNat, Int.reduceEq, Int.reduceBEq]
    exact k1
  · simp -implicitDefEqProofs (disch := (first | omega | (simp only [lenB, Tr.row_len, Rf.cells_len, Nd.cells_len, TOp.cells_len] <;> omega) | fail)) only [admQ, lenB, Tr.row_len, Rf.cells_len, Nd.cells_len, TOp.cells_len, aFill, AK.cls, implies_true, ↓reduceIte, reduceCtorEq, if_true, if_false, Nat.reduceAdd, Nat.reduceEqDiff, Nat.reduceMod, Nat.reduceLT, Nat.reduceLeDiff, Nat.reduceSub, Nat.reduceMul, Nat.reduceBEq, Int.reduceAdd, Int.reduceSub, Int.reduceMul, Int.reduceNeg, Int.reduceLT, Int.reduceLE, Int.reduceToNat, Int.reduceEq, Int.reduceBEq, c3, r3, hlx, dec_t, dec_f]
    refine (ans_trnew m).mono ?_
    rintro _ m1 ⟨rfl, k1, p1⟩
    simp -implicitDefEqProofs (disch := (first | omega | (simp only [lenB, Tr.row_len, Rf.cells_len, Nd.cells_len, TOp.cells_len] <;> omega) | fail)) only [admQ, lenB, Tr.row_len, Rf.cells_len, Nd.cells_len, TOp.cells_len, aFill, AK.cls, implies_true, ↓reduceIte, reduceCtorEq, if_true, if_false, Nat.reduceAdd, Nat.reduceEqDiff, Nat.reduceMod, Nat.reduceLT, Nat.reduceLeDiff, Nat.reduceSub, Nat.reduceMul, Nat.reduceBEq, Int.reduceAdd, Int.reduceSub, Int.reduceMul, Int.reduceNeg, Int.reduceLT, Int.reduceLE, Int.reduceToNat, Int.reduceEq, Int.reduceBEq]
    have hpm := own_lt p1
    refine LoopW.on (fun s : Nat × Tr => [(0, x), (3, .ptr m.length 0), (4, .int .i64 s.1)]) (fun s => L.length - s.1)
      (fun s m' => s.1 ≤ L.length ∧ Kept [] m m' ∧ own m' m.length = some s.2.row ∧ s.2.Ok) ?_ (0, Tr.new) _ _ rfl ⟨by omega, k1, p1, new_ok⟩
    clear k1 p1 hpm m1
    rintro ⟨j, t⟩ m1 X ⟨hj, k1, p1, hok⟩ hX
    dsimp only at hj k1 p1 hok hX ⊢
    by_cases hlt : j < L.length
    · simp -implicitDefEqProofs (disch := (first | omega | (simp only [lenB, Tr.row_len, Rf.cells_len, Nd.cells_len, TOp.cells_len] <;> omega) | fail)) only [admQ, lenB, Tr.row_len, Rf.cells_len, Nd.cells_len, TOp.cells_len, aFill, AK.cls, implies_true, ↓reduceIte, reduceCtorEq, if_true, if_false, Nat.reduceAdd, Nat.reduceEqDiff, Nat.reduceMod, Nat.reduceLT, Nat.reduceLeDiff, Nat.reduceSub, Nat.reduceMul, Nat.reduceBEq, Int.reduceAdd, Int.reduceSub, Int.reduceMul, Int.reduceNeg, Int.reduceLT, Int.reduceLE, Int.reduceToNat, Int.reduceEq, Int.reduceBEq, hlx, dec_t, dec_f]
      refine (ans_refs p1).mono ?_
      rintro y2 m2 ⟨g2, k2⟩
      have p2 := k2.own0 p1
      have kx2 := k1.trans k2
      obtain ⟨b, cap, c0, rfl, hr, e, el⟩ := (hx.kept0 kx2).at_ hlt
      generalize L[j] = o at *
      simp -implicitDefEqProofs (disch := (first | omega | (simp only [lenB, Tr.row_len, Rf.cells_len, Nd.cells_len, TOp.cells_len] <;> omega) | fail)) only [admQ, lenB, Tr.row_len, Rf.cells_len, Nd.cells_len, TOp.cells_len, aFill, AK.cls, implies_true, ↓reduceIte, reduceCtorEq, if_true, if_false, Nat.reduceAdd, Nat.reduceEqDiff, Nat.reduceMod, Nat.reduceLT, Nat.reduceLeDiff, Nat.reduceSub, Nat.reduceMul, Nat.reduceBEq, Int.reduceAdd, Int.reduceSub, Int.reduceMul, Int.reduceNeg, Int.reduceLT, Int.reduceLE, Int.reduceToNat, Int.reduceEq, Int.reduceBEq, hr, e]
      refine (ans_lawrun p2 o).mono ?_
      rintro _ m3 ⟨⟨y3, z3, rfl, gy3, gz3⟩, k3, p3⟩
      simp -implicitDefEqProofs (disch := (first | omega | (simp only [lenB, Tr.row_len, Rf.cells_len, Nd.cells_len, TOp.cells_len] <;> omega) | fail)) only [admQ, lenB, Tr.row_len, Rf.cells_len, Nd.cells_len, TOp.cells_len, aFill, AK.cls, implies_true, ↓reduceIte, reduceCtorEq, if_true, if_false, Nat.reduceAdd, Nat.reduceEqDiff, Nat.reduceMod, Nat.reduceLT, Nat.reduceLeDiff, Nat.reduceSub, Nat.reduceMul, Nat.reduceBEq, Int.reduceAdd, Int.reduceSub, Int.reduceMul, Int.reduceNeg, Int.reduceLT, Int.reduceLE, Int.reduceToNat, Int.reduceEq, Int.reduceBEq]
      refine (ans_refs p3).mono ?_
      rintro y4 m4 ⟨g4, k4⟩
      have p4 := k4.own0 p3
      have k34 := k3.trans k4.any
      have g2' := g2.kept k34 (fun b hb => by have := g2.blk b hb; have := own_lt p1; simp; omega)
      have gy4 := gy3.kept0 k4
      have gz4 := gz3.kept0 k4
      have kx4 : Kept [] m m4 := kx2.upon k34 (fun q hq => by simp at hq; omega)
      have l1 := len_run o t
      have l2 := refs_len t
      have l3 := refs_len (o.runT t)
      have l4 := runN_len o t
      have hcnt := cnt_run o t
      have hpos : ∀ r, r ∈ (o.runT t).refs → 1 ≤ r.at_ := fun r h => refs_pos (run_ok hok o) h
      have hdead : ∀ r, r ∈ o.runR t → 1 ≤ r.at_ := fun r h => dead_pos hok h
      have hok' := run_ok hok o
      have b1 := g2'.len
      have b2 := gy4.len
      have b3 := gz4.len
      have b4 := g4.len
      have hx4 := hx.kept0 kx4
      clear k34 k3 k4 g2 gy3 gz3 k2 p2 p3 kx2 p1 k1
      generalize t.refs = was at *
      generalize o.runR t = dead at *
      generalize o.runN t = more at *
      generalize o.runT t = t' at *
      generalize t'.refs = is at *
      have hb : (((is.length + dead.length : Nat) : Int) == ((was.length + more.length : Nat) : Int)) = true := by rw [l1]; exact beq_self_eq_true _
      simp -implicitDefEqProofs (disch := (first | omega | (simp only [lenB, Tr.row_len, Rf.cells_len, Nd.cells_len, TOp.cells_len] <;> omega) | fail)) only [admQ, lenB, Tr.row_len, Rf.cells_len, Nd.cells_len, TOp.cells_len, aFill, AK.cls, implies_true, ↓reduceIte, reduceCtorEq, if_true, if_false, Nat.reduceAdd, Nat.reduceEqDiff, Nat.reduceMod, Nat.reduceLT, Nat.reduceLeDiff, Nat.reduceSub, Nat.reduceMul, Nat.reduceBEq, Int.reduceAdd, Int.reduceSub, Int.reduceMul, Int.reduceNeg, Int.reduceLT, Int.reduceLE, Int.reduceToNat, Int.reduceEq, Int.reduceBEq, b1, b2, b3, b4, hb]
      refine LoopW.on (fun i : Nat => [(0, .sl b 0 L.length cap 0), (3, .ptr m.length 0), (4, .int .i64 j), (5, y2), (6, y3), (7, z3), (8, y4), (9, .int .i64 i)]) (fun i => was.length - i)
        (fun i m' => i ≤ was.length ∧ Kept [] m4 m') ?_ 0 _ _ rfl ⟨by omega, .refl _ _⟩
      rintro i m5 X2 ⟨hi, k5⟩ hX2
      by_cases hilt : i < was.length
      · obtain ⟨bw, sw, rfl, -, ow, -⟩ := g2'.sl_at hilt
        have e1 := rf_part hilt
        have e2 := rf_le hilt
        have r5 := rowOf_own (k5.own0 ow)
        have hwi := hcnt (was[i])
        have cc : ∀ (l : List Rf) (r : Rf), l.length ≤ 100 → l.count r ≤ 100 := fun l r h => Nat.le_trans List.count_le_length h
        have c1 := cc was (was[i]) (by omega)
        have c2 := cc is (was[i]) (by omega)
        have c3 := cc more (was[i]) (by omega)
        have c4 := cc dead (was[i]) (by omega)
        have hbc : (((is.count (was[i]) + dead.count (was[i]) : Nat) : Int) == ((was.count (was[i]) + more.count (was[i]) : Nat) : Int)) = true := by rw [hwi]; exact beq_self_eq_true _
        simp -implicitDefEqProofs (disch := (first | omega | (simp only [lenB, Tr.row_len, Rf.cells_len, Nd.cells_len, TOp.cells_len] <;> omega) | fail)) only [admQ, lenB, Tr.row_len, Rf.cells_len, Nd.cells_len, TOp.cells_len, aFill, AK.cls, implies_true, ↓reduceIte, reduceCtorEq, if_true, if_false, Nat.reduceAdd, Nat.reduceEqDiff, Nat.reduceMod, Nat.reduceLT, Nat.reduceLeDiff, Nat.reduceSub, Nat.reduceMul, Nat.reduceBEq, Int.reduceAdd, Int.reduceSub, Int.reduceMul, Int.reduceNeg, Int.reduceLT, Int.reduceLE, Int.reduceToNat, Int.reduceEq, Int.reduceBEq, b1, dec_t, dec_f, r5, e1]
        refine (ans_many (g4.kept0 k5) (by omega) (was[i])).mono ?_
        rintro _ m6 ⟨rfl, k6⟩
        have k56 := k5.trans k6
        have r6 := rowOf_own (k56.own0 ow)
        simp -implicitDefEqProofs (disch := (first | omega | (simp only [lenB, Tr.row_len, Rf.cells_len, Nd.cells_len, TOp.cells_len] <;> omega) | fail)) only [admQ, lenB, Tr.row_len, Rf.cells_len, Nd.cells_len, TOp.cells_len, aFill, AK.cls, implies_true, ↓reduceIte, reduceCtorEq, if_true, if_false, Nat.reduceAdd, Nat.reduceEqDiff, Nat.reduceMod, Nat.reduceLT, Nat.reduceLeDiff, Nat.reduceSub, Nat.reduceMul, Nat.reduceBEq, Int.reduceAdd, Int.reduceSub, Int.reduceMul, Int.reduceNeg, Int.reduceLT, Int.reduceLE, Int.reduceToNat, Int.reduceEq, Int.reduceBEq, r5, r6, e1]
        refine (ans_many (gy4.kept0 k56) (by omega) (was[i])).mono ?_
        rintro _ m7 ⟨rfl, k7⟩
        have k57 := k56.trans k7
        have r7 := rowOf_own (k57.own0 ow)
        simp -implicitDefEqProofs (disch := (first | omega | (simp only [lenB, Tr.row_len, Rf.cells_len, Nd.cells_len, TOp.cells_len] <;> omega) | fail)) only [admQ, lenB, Tr.row_len, Rf.cells_len, Nd.cells_len, TOp.cells_len, aFill, AK.cls, implies_true, ↓reduceIte, reduceCtorEq, if_true, if_false, Nat.reduceAdd, Nat.reduceEqDiff, Nat.reduceMod, Nat.reduceLT, Nat.reduceLeDiff, Nat.reduceSub, Nat.reduceMul, Nat.reduceBEq, Int.reduceAdd, Int.reduceSub, Int.reduceMul, Int.reduceNeg, Int.reduceLT, Int.reduceLE, Int.reduceToNat, Int.reduceEq, Int.reduceBEq, r5, r6, r7, e1]
        refine (ans_many (g2'.kept0 k57) (by omega) (was[i])).mono ?_
        rintro _ m8 ⟨rfl, k8⟩
        have k58 := k57.trans k8
        have r8 := rowOf_own (k58.own0 ow)
        simp -implicitDefEqProofs (disch := (first | omega | (simp only [lenB, Tr.row_len, Rf.cells_len, Nd.cells_len, TOp.cells_len] <;> omega) | fail)) only [admQ, lenB, Tr.row_len, Rf.cells_len, Nd.cells_len, TOp.cells_len, aFill, AK.cls, implies_true, ↓reduceIte, reduceCtorEq, if_true, if_false, Nat.reduceAdd, Nat.reduceEqDiff, Nat.reduceMod, Nat.reduceLT, Nat.reduceLeDiff, Nat.reduceSub, Nat.reduceMul, Nat.reduceBEq, Int.reduceAdd, Int.reduceSub, Int.reduceMul, Int.reduceNeg, Int.reduceLT, Int.reduceLE, Int.reduceToNat, Int.reduceEq, Int.reduceBEq, r5, r6, r7, r8, e1]
        refine (ans_many (gz4.kept0 k58) (by omega) (was[i])).mono ?_
        rintro _ m9 ⟨rfl, k9⟩
        have k59 := k58.trans k9
        have r9 := rowOf_own (k59.own0 ow)
        simp -implicitDefEqProofs (disch := (first | omega | (simp only [lenB, Tr.row_len, Rf.cells_len, Nd.cells_len, TOp.cells_len] <;> omega) | fail)) only [admQ, lenB, Tr.row_len, Rf.cells_len, Nd.cells_len, TOp.cells_len, aFill, AK.cls, implies_true, ↓reduceIte, reduceCtorEq, if_true, if_false, Nat.reduceAdd, Nat.reduceEqDiff, Nat.reduceMod, Nat.reduceLT, Nat.reduceLeDiff, Nat.reduceSub, Nat.reduceMul, Nat.reduceBEq, Int.reduceAdd, Int.reduceSub, Int.reduceMul, Int.reduceNeg, Int.reduceLT, Int.reduceLE, Int.reduceToNat, Int.reduceEq, Int.reduceBEq, r5, r6, r7, r8, r9, e1, hbc]
        exact hX2 (i + 1) _ _ rfl (by omega) ⟨by omega, k59⟩
      · obtain rfl : i = was.length := by omega
        clear hX2
        simp -implicitDefEqProofs (disch := (first | omega | (simp only [lenB, Tr.row_len, Rf.cells_len, Nd.cells_len, TOp.cells_len] <;> omega) | fail)) only [admQ, lenB, Tr.row_len, Rf.cells_len, Nd.cells_len, TOp.cells_len, aFill, AK.cls, implies_true, ↓reduceIte, reduceCtorEq, if_true, if_false, Nat.reduceAdd, Nat.reduceEqDiff, Nat.reduceMod, Nat.reduceLT, Nat.reduceLeDiff, Nat.reduceSub, Nat.reduceMul, Nat.reduceBEq, Int.reduceAdd, Int.reduceSub, Int.reduceMul, Int.reduceNeg, Int.reduceLT, Int.reduceLE, Int.reduceToNat, Int.reduceEq, Int.reduceBEq, b1, dec_t, dec_f]
        refine LoopW.on (fun i : Nat => [(0, .sl b 0 L.length cap 0), (3, .ptr m.length 0), (4, .int .i64 j), (5, y2), (6, y3), (7, z3), (8, y4), (10, .int .i64 i)]) (fun i => is.length - i)
          (fun i m' => i ≤ is.length ∧ Kept [] m4 m') ?_ 0 _ _ rfl ⟨by omega, k5⟩
        clear k5 hi hilt
        rintro i m5 X3 ⟨hi, k5⟩ hX3
        by_cases hilt : i < is.length
        · obtain ⟨bw, sw, rfl, -, ow, -⟩ := g4.sl_at hilt
          have e1 := rf_part hilt
          have e2 := rf_le hilt
          have r5 := rowOf_own (k5.own0 ow)
          have hps := hpos (is[i]) (List.getElem_mem hilt)
          have ea : (flatOf Rf.cells is)[i * 33]? = some (.int .i64 (is[i]).at_) := cell_of_part (j := 0) e1 (by omega)
          have hwi := hcnt (is[i])
          have cc : ∀ (l : List Rf) (r : Rf), l.length ≤ 100 → l.count r ≤ 100 := fun l r h => Nat.le_trans List.count_le_length h
          have c1 := cc was (is[i]) (by omega)
          have c2 := cc is (is[i]) (by omega)
          have c3 := cc more (is[i]) (by omega)
          have c4 := cc dead (is[i]) (by omega)
          have hbc : (((is.count (is[i]) + dead.count (is[i]) : Nat) : Int) == ((was.count (is[i]) + more.count (is[i]) : Nat) : Int)) = true := by rw [hwi]; exact beq_self_eq_true _
          simp -implicitDefEqProofs (disch := (first | omega | (simp only [lenB, Tr.row_len, Rf.cells_len, Nd.cells_len, TOp.cells_len] <;> omega) | fail)) only [admQ, lenB, Tr.row_len, Rf.cells_len, Nd.cells_len, TOp.cells_len, aFill, AK.cls, implies_true, ↓reduceIte, reduceCtorEq, if_true, if_false, Nat.reduceAdd, Nat.reduceEqDiff, Nat.reduceMod, Nat.reduceLT, Nat.reduceLeDiff, Nat.reduceSub, Nat.reduceMul, Nat.reduceBEq, Int.reduceAdd, Int.reduceSub, Int.reduceMul, Int.reduceNeg, Int.reduceLT, Int.reduceLE, Int.reduceToNat, Int.reduceEq, Int.reduceBEq, b4, dec_t, dec_f, r5, e1, ea]
          refine (ans_many (g4.kept0 k5) (by omega) (is[i])).mono ?_
          rintro _ m6 ⟨rfl, k6⟩
          have k56 := k5.trans k6
          have r6 := rowOf_own (k56.own0 ow)
          simp -implicitDefEqProofs (disch := (first | omega | (simp only [lenB, Tr.row_len, Rf.cells_len, Nd.cells_len, TOp.cells_len] <;> omega) | fail)) only [admQ, lenB, Tr.row_len, Rf.cells_len, Nd.cells_len, TOp.cells_len, aFill, AK.cls, implies_true, ↓reduceIte, reduceCtorEq, if_true, if_false, Nat.reduceAdd, Nat.reduceEqDiff, Nat.reduceMod, Nat.reduceLT, Nat.reduceLeDiff, Nat.reduceSub, Nat.reduceMul, Nat.reduceBEq, Int.reduceAdd, Int.reduceSub, Int.reduceMul, Int.reduceNeg, Int.reduceLT, Int.reduceLE, Int.reduceToNat, Int.reduceEq, Int.reduceBEq, r5, r6, e1, ea]
          refine (ans_many (gy4.kept0 k56) (by omega) (is[i])).mono ?_
          rintro _ m7 ⟨rfl, k7⟩
          have k57 := k56.trans k7
          have r7 := rowOf_own (k57.own0 ow)
          simp -implicitDefEqProofs (disch := (first | omega | (simp only [lenB, Tr.row_len, Rf.cells_len, Nd.cells_len, TOp.cells_len] <;> omega) | fail)) only [admQ, lenB, Tr.row_len, Rf.cells_len, Nd.cells_len, TOp.cells_len, aFill, AK.cls, implies_true, ↓reduceIte, reduceCtorEq, if_true, if_false, Nat.reduceAdd, Nat.reduceEqDiff, Nat.reduceMod, Nat.reduceLT, Nat.reduceLeDiff, Nat.reduceSub, Nat.reduceMul, Nat.reduceBEq, Int.reduceAdd, Int.reduceSub, Int.reduceMul, Int.reduceNeg, Int.reduceLT, Int.reduceLE, Int.reduceToNat, Int.reduceEq, Int.reduceBEq, r5, r6, r7, e1, ea]
          refine (ans_many (g2'.kept0 k57) (by omega) (is[i])).mono ?_
          rintro _ m8 ⟨rfl, k8⟩
          have k58 := k57.trans k8
          have r8 := rowOf_own (k58.own0 ow)
          simp -implicitDefEqProofs (disch := (first | omega | (simp only [lenB, Tr.row_len, Rf.cells_len, Nd.cells_len, TOp.cells_len] <;> omega) | fail)) only [admQ, lenB, Tr.row_len, Rf.cells_len, Nd.cells_len, TOp.cells_len, aFill, AK.cls, implies_true, ↓reduceIte, reduceCtorEq, if_true, if_false, Nat.reduceAdd, Nat.reduceEqDiff, Nat.reduceMod, Nat.reduceLT, Nat.reduceLeDiff, Nat.reduceSub, Nat.reduceMul, Nat.reduceBEq, Int.reduceAdd, Int.reduceSub, Int.reduceMul, Int.reduceNeg, Int.reduceLT, Int.reduceLE, Int.reduceToNat, Int.reduceEq, Int.reduceBEq, r5, r6, r7, r8, e1, ea]
          refine (ans_many (gz4.kept0 k58) (by omega) (is[i])).mono ?_
          rintro _ m9 ⟨rfl, k9⟩
          have k59 := k58.trans k9
          have r9 := rowOf_own (k59.own0 ow)
          simp -implicitDefEqProofs (disch := (first | omega | (simp only [lenB, Tr.row_len, Rf.cells_len, Nd.cells_len, TOp.cells_len] <;> omega) | fail)) only [admQ, lenB, Tr.row_len, Rf.cells_len, Nd.cells_len, TOp.cells_len, aFill, AK.cls, implies_true, ↓reduceIte, reduceCtorEq, if_true, if_false, Nat.reduceAdd, Nat.reduceEqDiff, Nat.reduceMod, Nat.reduceLT, Nat.reduceLeDiff, Nat.reduceSub, Nat.reduceMul, Nat.reduceBEq, Int.reduceAdd, Int.reduceSub, Int.reduceMul, Int.reduceNeg, Int.reduceLT, Int.reduceLE, Int.reduceToNat, Int.reduceEq, Int.reduceBEq, r5, r6, r7, r8, r9, e1, ea, hbc]
          exact hX3 (i + 1) _ _ rfl (by omega) ⟨by omega, k59⟩
        · obtain rfl : i = is.length := by omega
          clear hX3
          simp -implicitDefEqProofs (disch := (first | omega | (simp only [lenB, Tr.row_len, Rf.cells_len, Nd.cells_len, TOp.cells_len] <;> omega) | fail)) only [admQ, lenB, Tr.row_len, Rf.cells_len, Nd.cells_len, TOp.cells_len, aFill, AK.cls, implies_true, ↓reduceIte, reduceCtorEq, if_true, if_false, Nat.reduceAdd, Nat.reduceEqDiff, Nat.reduceMod, Nat.reduceLT, Nat.reduceLeDiff, Nat.reduceSub, Nat.reduceMul, Nat.reduceBEq, Int.reduceAdd, Int.reduceSub, Int.reduceMul, Int.reduceNeg, Int.reduceLT, Int.reduceLE, Int.reduceToNat, Int.reduceEq, Int.reduceBEq, b4, dec_t, dec_f]
          refine LoopW.on (fun i : Nat => [(0, .sl b 0 L.length cap 0), (3, .ptr m.length 0), (4, .int .i64 j), (6, y3), (11, .int .i64 i)]) (fun i => dead.length - i)
            (fun i m' => i ≤ dead.length ∧ Kept [] m4 m') ?_ 0 _ _ rfl ⟨by omega, k5⟩
          clear k5 hi hilt
          rintro i m5 X4 ⟨hi, k5⟩ hX4
          by_cases hilt : i < dead.length
          · obtain ⟨bw, sw, rfl, -, ow, -⟩ := gy4.sl_at hilt
            have e1 := rf_part hilt
            have e2 := rf_le hilt
            have r5 := rowOf_own (k5.own0 ow)
            have hps := hdead (dead[i]) (List.getElem_mem hilt)
            have ea : (flatOf Rf.cells dead)[i * 33]? = some (.int .i64 (dead[i]).at_) := cell_of_part (j := 0) e1 (by omega)
            simp -implicitDefEqProofs (disch := (first | omega | (simp only [lenB, Tr.row_len, Rf.cells_len, Nd.cells_len, TOp.cells_len] <;> omega) | fail)) only [admQ, lenB, Tr.row_len, Rf.cells_len, Nd.cells_len, TOp.cells_len, aFill, AK.cls, implies_true, ↓reduceIte, reduceCtorEq, if_true, if_false, Nat.reduceAdd, Nat.reduceEqDiff, Nat.reduceMod, Nat.reduceLT, Nat.reduceLeDiff, Nat.reduceSub, Nat.reduceMul, Nat.reduceBEq, Int.reduceAdd, Int.reduceSub, Int.reduceMul, Int.reduceNeg, Int.reduceLT, Int.reduceLE, Int.reduceToNat, Int.reduceEq, Int.reduceBEq, b2, dec_t, dec_f, r5, e1, ea]
            exact hX4 (i + 1) _ _ rfl (by omega) ⟨by omega, k5⟩
          · obtain rfl : i = dead.length := by omega
            clear hX4
            simp -implicitDefEqProofs (disch := (first | omega | (simp only [lenB, Tr.row_len, Rf.cells_len, Nd.cells_len, TOp.cells_len] <;> omega) | fail)) only [admQ, lenB, Tr.row_len, Rf.cells_len, Nd.cells_len, TOp.cells_len, aFill, AK.cls, implies_true, ↓reduceIte, reduceCtorEq, if_true, if_false, Nat.reduceAdd, Nat.reduceEqDiff, Nat.reduceMod, Nat.reduceLT, Nat.reduceLeDiff, Nat.reduceSub, Nat.reduceMul, Nat.reduceBEq, Int.reduceAdd, Int.reduceSub, Int.reduceMul, Int.reduceNeg, Int.reduceLT, Int.reduceLE, Int.reduceToNat, Int.reduceEq, Int.reduceBEq, b2, dec_t, dec_f]
            exact hX (j + 1, t') _ _ rfl (by simp; omega) ⟨by simp; omega, kx4.trans k5, k5.own0 p4, hok'⟩
    · obtain rfl : j = L.length := by omega
      simp -implicitDefEqProofs (disch := (first | omega | (simp only [lenB, Tr.row_len, Rf.cells_len, Nd.cells_len, TOp.cells_len] <;> omega) | fail)) only [admQ, lenB, Tr.row_len, Rf.cells_len, Nd.cells_len, TOp.cells_len, aFill, AK.cls, implies_true, ↓reduceIte, reduceCtorEq, if_true, if_false, Nat.reduceAdd, Nat.reduceEqDiff, Nat.reduceMod, Nat.reduceLT, Nat.reduceLeDiff, Nat.reduceSub, Nat.reduceMul, Nat.reduceBEq, Int.reduceAdd, Int.reduceSub, Int.reduceMul, Int.reduceNeg, Int.reduceLT, Int.reduceLE, Int.reduceToNat, Int.reduceEq, Int.reduceBEq, hlx, dec_t, dec_f]
      refine (ans_trworks m1).mono ?_
      rintro _ m2 ⟨rfl, k2⟩
      simp -implicitDefEqProofs (disch := (first | omega | (simp only [lenB, Tr.row_len, Rf.cells_len, Nd.cells_len, TOp.cells_len] <;> omega) | fail)) only [admQ, lenB, Tr.row_len, Rf.cells_len, Nd.cells_len, TOp.cells_len, aFill, AK.cls, implies_true, ↓reduceIte, reduceCtorEq, if_true, if_false, Nat.reduceAdd, Nat.reduceEqDiff, Nat.reduceMod, Nat.reduceLT, Nat.reduceLeDiff, Nat.reduceSub, Nat.reduceMul, Nat.reduceBEq, Int.reduceAdd, Int.reduceSub, Int.reduceMul, Int.reduceNeg, Int.reduceLT, Int.reduceLE, Int.reduceToNat, Int.reduceEq, Int.reduceBEq]
      exact k1.trans k2
end Go.Proofs.Ytmklcealhjmlgaa
end
section
/- Lists of calls of the tree, as arguments. -/
namespace Go.Proofs.Ytmklcealhjmlgaa
open Go Go.Adm
set_option linter.unusedSimpArgs false
def WfI (ks : List IntKind) (ns : List Int) : Prop := ns.length = ks.length ∧ ∀ (i : Nat) (k : IntKind) (n : Int), ks[i]? = some k → ns[i]? = some n → (Lit.int k n).wf = true
theorem WfI.split {k1 k2 : List IntKind} {ns : List Int} (h : WfI (k1 ++ k2) ns) : ∃ n1 n2, ns = n1 ++ n2 ∧ WfI k1 n1 ∧ WfI k2 n2 := by
  obtain ⟨h1, h2⟩ := h
  rw [List.length_append] at h1
  refine ⟨ns.take k1.length, ns.drop k1.length, (List.take_append_drop ..).symm, ⟨by simp; omega, fun i k n hk hn => ?_⟩, ⟨by simp; omega, fun i k n hk hn => ?_⟩⟩
  · have hi : i < k1.length := by rw [List.getElem?_eq_some_iff] at hk; exact hk.1
    rw [List.getElem?_take_of_lt hi] at hn
    exact h2 i k n (by rw [List.getElem?_append_left hi]; exact hk) hn
  · rw [List.getElem?_drop] at hn
    exact h2 (k1.length + i) k n (by rw [List.getElem?_append_right (by omega), Nat.add_sub_cancel_left]; exact hk) hn
def rfK : List IntKind := .i64 :: List.replicate 32 .u8
theorem WfI.cons {k : IntKind} {ks : List IntKind} {ns : List Int} (h : WfI (k :: ks) ns) : ∃ n n2, ns = n :: n2 ∧ WfI ks n2 := by
  obtain ⟨n1, n2, rfl, h1, h2⟩ := WfI.split (k1 := [k]) h
  match n1, h1 with
  | [n], _ => exact ⟨n, n2, rfl, h2⟩
theorem rf_of {ns : List Int} (h : WfI rfK ns) : ∃ r : Rf, Ints rfK ns = r.cells := by
  obtain ⟨n, n2, rfl, h2⟩ := h.cons
  have hl : n2.length = 32 := h2.1.trans (List.length_replicate ..)
  exact ⟨⟨n, ⟨n2.map toB, by simp [hl]⟩⟩, congrArg (AV.int .i64 n :: ·) (Ints_bys hl h2.2)⟩
def rfKs : Nat → List IntKind
  | 0 => []
  | n + 1 => rfK ++ rfKs n
theorem rfs_of : ∀ (n : Nat) {ns : List Int}, WfI (rfKs n) ns → ∃ l : List Rf, l.length = n ∧ Ints (rfKs n) ns = flatOf Rf.cells l := by
  intro n
  induction n with
  | zero => intro ns _; exact ⟨[], rfl, by simp [Ints, rfKs, flatOf]⟩
  | succ n ih =>
    intro ns h
    obtain ⟨n1, n2, rfl, h1, h2⟩ := WfI.split h
    obtain ⟨r, e⟩ := rf_of h1
    obtain ⟨l, hl, e2⟩ := ih h2
    refine ⟨r :: l, by simp [hl], ?_⟩
    rw [rfKs, Ints.append _ _ _ _ h1.1.symm, e, e2]
    simp [flatOf]
def opK : List IntKind := .i64 :: .i64 :: (rfK ++ rfKs 8)
theorem op_of {ns : List Int} (h : WfI opK ns) : ∃ o : TOp, Ints opK ns = o.cells := by
  obtain ⟨a, n1, rfl, h1⟩ := h.cons
  obtain ⟨b, n2, rfl, h2⟩ := h1.cons
  obtain ⟨n3, n4, rfl, h3, h4⟩ := h2.split
  obtain ⟨r, e⟩ := rf_of h3
  obtain ⟨l, hl, e2⟩ := rfs_of 8 h4
  have el : l = tab 8 fun i => l.getD i Rf.zero := by
    apply List.ext_getElem?
    intro i
    by_cases hi : i < 8
    · rw [tab_get _ hi, List.getD_eq_getElem?_getD, List.getElem?_eq_getElem (by omega)]; rfl
    · rw [List.getElem?_eq_none (by omega), List.getElem?_eq_none (by rw [tab_len]; omega)]
  refine ⟨⟨a, b, r, fun i => l.getD i Rf.zero⟩, ?_⟩
  show AV.int .i64 a :: AV.int .i64 b :: Ints (rfK ++ rfKs 8) (n3 ++ n4) = _
  rw [Ints.append _ _ _ _ h3.1.symm, e, e2, TOp.cells, ← el]
theorem ops_of {nss : List (List Int)} (h : ∀ ns ∈ nss, WfI opK ns) : ∃ L : List TOp, L.length = nss.length ∧ nss.flatMap (Ints opK) = flatOf TOp.cells L := by
  induction nss with
  | nil => exact ⟨[], rfl, rfl⟩
  | cons ns nss ih =>
    obtain ⟨o, e⟩ := op_of (h ns (List.mem_cons_self ..))
    obtain ⟨L, hl, e2⟩ := ih fun x hx => h x (List.mem_cons_of_mem _ hx)
    refine ⟨o :: L, by simp [hl], ?_⟩
    rw [List.flatMap_cons, e, e2]
    simp [flatOf]
theorem Opens_ops {W : World} {nss : List (List Int)} {v : Value} (w : ∀ ns ∈ nss, WfI opK ns) (h : Opens W (IsRows opK nss) v) : ∃ L, Opens W (fun x m => RdO m x L) v := by
  obtain ⟨L, hl, e⟩ := ops_of w
  refine ⟨L, h.imp fun x m ρ hv hq => ?_⟩
  rcases hq with ⟨rfl, rfl⟩ | ⟨b, cap, rfl, hr⟩
  · exact .inl ⟨rfl, List.length_eq_zero_iff.mp hl⟩
  · rw [e] at hr
    exact .inr ⟨b, cap, [], by rw [hl], by rw [List.append_nil]; exact hr⟩
end Go.Proofs.Ytmklcealhjmlgaa
end
section
/- The statement TreeHolds, walked. -/
namespace Go.Proofs.Ytmklcealhjmlgaa
open Go Go.Adm
set_option linter.unusedSimpArgs false
set_option maxRecDepth 100000
set_option maxHeartbeats 1000000
theorem spoilT_bl (l : List Nat) : ∀ t : Tr, (t.spoilT l).bl = t.bl := by
  induction l with
  | nil => intro t; rfl
  | cons j l ih => intro t; rw [Tr.spoilT, ih]; rfl
theorem bl_same {s t : Tr} (h : ∀ i, i < 64 → s.b i = t.b i) : s.bl = t.bl := List.ext_getElem? fun i => by
  by_cases h' : i < 64
  · rw [s.b_get h', t.b_get h', h i h']
  · rw [List.getElem?_eq_none (by rw [s.hb]; omega), List.getElem?_eq_none (by rw [t.hb]; omega)]
/-- What a call does to the blocks' refs. -/
theorem run_bl (o : TOp) (t : Tr) : (o.runT t).bl =
    if o.kind = 0 then (if Tr.setOk o.n o.r then t.bl.set o.n.toNat o.r else t.bl) else if o.kind = 1 then (if 0 ≤ o.n ∧ o.n < 64 then t.bl.set o.n.toNat Rf.zero else t.bl) else t.bl := by
  unfold TOp.runT
  by_cases k0 : o.kind = 0
  · rw [if_pos k0, if_pos k0, Tr.setT]
    split
    · rw [spoilT_bl]; rfl
    · rfl
  · rw [if_neg k0, if_neg k0]
    by_cases k1 : o.kind = 1
    · rw [if_pos k1, if_pos k1]
      by_cases h : 0 ≤ o.n ∧ o.n < 64
      · rw [if_pos h]
        have e : (o.runT t).bl = (t.setB o.n.toNat Rf.zero).bl := bl_same fun i hi => by
          have hd : o.runT t = t.delT o.n := by simp [TOp.runT, k1]
          rw [hd, delT_b, Tr.setB_b _ _ _ _ (by omega)]
          obtain ⟨k, hk⟩ := Int.eq_ofNat_of_zero_le h.1
          rw [hk, t.at_nat (by omega), Int.toNat_natCast]
          by_cases e : k = i
          · subst e
            rw [if_pos rfl]
            by_cases hz : t.b k = Rf.zero
            · rw [if_neg (fun h => h.1 hz), hz]
            · rw [if_pos ⟨hz, rfl⟩]
          · rw [if_neg (fun h => e h.2), if_neg e]
        have hd : o.runT t = t.delT o.n := by simp [TOp.runT, k1]
        rw [hd] at e
        exact e
      · rw [if_neg h, Tr.delT, if_pos (t.at_out h)]
    · rw [if_neg k1, if_neg k1]
      by_cases k2 : o.kind = 2
      · rw [if_pos k2, Tr.touchT]
        split
        · rw [spoilT_bl]
        · rfl
      · rw [if_neg k2]
        split
        · rw [Tr.savedT]; split <;> rfl
        · rfl
theorem mapped_one (t : Tr) {i : Nat} (h : i < 64) : (liveB (t.bl.take (i + 1))).length = (liveB (t.bl.take i)).length + if t.b i = Rf.zero then 0 else 1 := by
  rw [t.bl_take h, liveB_one, List.length_append]
  split <;> rfl
theorem take_op (o : TOp) : o.cells.take 299 = o.cells := List.take_of_length_le (by rw [o.cells_len]; exact Nat.le_refl _)
theorem rf0_at : Rf.zero.at_ = 0 := rfl
theorem rep9_len : (rep 9 Rf.zero.cells).length = 297 := rfl
theorem splice_op (o : TOp) : splice (.int .i64 0 :: .int .i64 0 :: rep 9 Rf.zero.cells) 0 o.cells = o.cells := by
  simp [splice, TOp.cells_len, List.drop_of_length_le, rep9_len]
theorem ans_holds {m : Mem} {x : AV} {L : List TOp} (hx : RdO m x L) : Ans Try.prog 4 [x] m fun y m' => y = .bool true ∧ Kept [] m m' := by
  refine ans_ret mixed ok4 ?_
  have hlx := hx.len
  by_cases hn : 200 < L.length
  · simp -implicitDefEqProofs (disch := (first | omega | (simp only [lenB, Tr.row_len, Rf.cells_len, Nd.cells_len, TOp.cells_len, Tr.bl_len, rep9_len] <;> omega) | fail)) only [admQ, lenB, Tr.row_len, Rf.cells_len, Nd.cells_len, TOp.cells_len, Tr.bl_len, rep9_len, aFill, AK.cls, implies_true, ↓reduceIte, reduceCtorEq, if_true, if_false, Nat.reduceAdd, Nat.reduceEqDiff, Nat.reduceMod, Nat.reduceLT, Nat.reduceLeDiff, Nat.reduceSub, Nat.reduceMul, Nat.reduceBEq, Int.reduceAdd, Int.reduceSub, Int.reduceMul, Int.reduceNeg, Int.reduceLT, Int.reduceLE, Int.reduceToNat, Int.reduceEq, Int.reduceBEq, p4, r4, hlx, dec_t, dec_f]
    refine (ans_trworks m).mono ?_
    rintro _ m1 ⟨rfl, k1⟩
    simp -implicitDefEqProofs (disch := (first | omega | (simp only [lenB, Tr.row_len, Rf.cells_len, Nd.cells_len, TOp.cells_len, Tr.bl_len, rep9_len] <;> omega) | fail)) only [admQ, lenB, Tr.row_len, Rf.cells_len, Nd.cells_len, TOp.cells_len, Tr.bl_len, rep9_len, aFill, AK.cls, implies_true, ↓reduceIte, reduceCtorEq, if_true, if_false, Nat.reduceAdd, Nat.reduceEqDiff, Nat.reduceMod, Nat.reduceLT, Nat.reduceLeDiff, Nat.reduceSub, Nat.reduceMul, Nat.reduceBEq, Int.reduceAdd, Int.reduceSub, Int.reduceMul, Int.reduceNeg, Int.reduceLT, Int.reduceLE, Int.reduceToNat, Int.reduceEq, Int.reduceBEq]
    exact k1
  · simp -implicitDefEqProofs (disch := (first | omega | (simp only [lenB, Tr.row_len, Rf.cells_len, Nd.cells_len, TOp.cells_len, Tr.bl_len, rep9_len] <;> omega) | fail)) only [admQ, lenB, Tr.row_len, Rf.cells_len, Nd.cells_len, TOp.cells_len, Tr.bl_len, rep9_len, aFill, AK.cls, implies_true, ↓reduceIte, reduceCtorEq, if_true, if_false, Nat.reduceAdd, Nat.reduceEqDiff, Nat.reduceMod, Nat.reduceLT, Nat.reduceLeDiff, Nat.reduceSub, Nat.reduceMul, Nat.reduceBEq, Int.reduceAdd, Int.reduceSub, Int.reduceMul, Int.reduceNeg, Int.reduceLT, Int.reduceLE, Int.reduceToNat, Int.reduceEq, Int.reduceBEq, p4, r4, hlx, dec_t, dec_f]
    refine (ans_trnew m).mono ?_
    rintro _ m1 ⟨rfl, k1, p1⟩
    simp -implicitDefEqProofs (disch := (first | omega | (simp only [lenB, Tr.row_len, Rf.cells_len, Nd.cells_len, TOp.cells_len, Tr.bl_len, rep9_len] <;> omega) | fail)) only [admQ, lenB, Tr.row_len, Rf.cells_len, Nd.cells_len, TOp.cells_len, Tr.bl_len, rep9_len, aFill, AK.cls, implies_true, ↓reduceIte, reduceCtorEq, if_true, if_false, Nat.reduceAdd, Nat.reduceEqDiff, Nat.reduceMod, Nat.reduceLT, Nat.reduceLeDiff, Nat.reduceSub, Nat.reduceMul, Nat.reduceBEq, Int.reduceAdd, Int.reduceSub, Int.reduceMul, Int.reduceNeg, Int.reduceLT, Int.reduceLE, Int.reduceToNat, Int.reduceEq, Int.reduceBEq, rf_zero]
    have hpm := own_lt p1
    have q2 : own (m1 ++ [.row (rep 64 Rf.zero.cells) false]) m1.length = some (flatOf Rf.cells Tr.new.bl) := by rw [own_app_at0, own_c0]; rfl
    have p2 := own_app p1 [.row (rep 64 Rf.zero.cells) false]
    have k2 := k1.trans (.app _ _ [.row (rep 64 Rf.zero.cells) false])
    have hl2 : m1.length < (m1 ++ [Blk.row (rep 64 Rf.zero.cells) false]).length := by simp
    generalize m1 ++ [Blk.row (rep 64 Rf.zero.cells) false] = m2 at *
    generalize hq : m1.length = q at *
    clear hq p1 k1 m1
    refine LoopW.on (fun s : Nat × Tr => [(0, x), (3, .ptr m.length 0), (4, .sl q 0 64 64 0), (5, .int .i64 s.1)]) (fun s => L.length - s.1)
      (fun s m' => s.1 ≤ L.length ∧ Kept [] m m' ∧ own m' m.length = some s.2.row ∧ own m' q = some (flatOf Rf.cells s.2.bl) ∧ s.2.Ok) ?_ (0, Tr.new) _ _ rfl ⟨by omega, k2, p2, q2, new_ok⟩
    clear k2 p2 q2 hl2 m2
    rintro ⟨j, t⟩ m1 X ⟨hj, k1, p1, q1, hok⟩ hX
    dsimp only at hj k1 p1 q1 hok hX ⊢
    by_cases hlt : j < L.length
    · obtain ⟨b, cap, c0, rfl, hr, e, el⟩ := (hx.kept0 k1).at_ hlt
      generalize L[j] = o at *
      simp -implicitDefEqProofs (disch := (first | omega | (simp only [lenB, Tr.row_len, Rf.cells_len, Nd.cells_len, TOp.cells_len, Tr.bl_len, rep9_len] <;> omega) | fail)) only [admQ, lenB, Tr.row_len, Rf.cells_len, Nd.cells_len, TOp.cells_len, Tr.bl_len, rep9_len, aFill, AK.cls, implies_true, ↓reduceIte, reduceCtorEq, if_true, if_false, Nat.reduceAdd, Nat.reduceEqDiff, Nat.reduceMod, Nat.reduceLT, Nat.reduceLeDiff, Nat.reduceSub, Nat.reduceMul, Nat.reduceBEq, Int.reduceAdd, Int.reduceSub, Int.reduceMul, Int.reduceNeg, Int.reduceLT, Int.reduceLE, Int.reduceToNat, Int.reduceEq, Int.reduceBEq, hlx, dec_t, dec_f, hr, e, splice_op]
      have hq1 : own (m1 ++ [.row o.cells false]) m1.length = some o.cells := by rw [own_app_at0, own_c0]
      have p2 := own_app p1 [.row o.cells false]
      have q2 := own_app q1 [.row o.cells false]
      have k2 := k1.trans (.app [] m1 [.row o.cells false])
      have hl1 : m1.length < (m1 ++ [Blk.row o.cells false]).length := by simp
      have hml := k1.len
      have hql := own_lt q1
      generalize m1 ++ [Blk.row o.cells false] = m2 at *
      simp -implicitDefEqProofs (disch := (first | omega | (simp only [lenB, Tr.row_len, Rf.cells_len, Nd.cells_len, TOp.cells_len, Tr.bl_len, rep9_len] <;> omega) | fail)) only [admQ, lenB, Tr.row_len, Rf.cells_len, Nd.cells_len, TOp.cells_len, Tr.bl_len, rep9_len, aFill, AK.cls, implies_true, ↓reduceIte, reduceCtorEq, if_true, if_false, Nat.reduceAdd, Nat.reduceEqDiff, Nat.reduceMod, Nat.reduceLT, Nat.reduceLeDiff, Nat.reduceSub, Nat.reduceMul, Nat.reduceBEq, Int.reduceAdd, Int.reduceSub, Int.reduceMul, Int.reduceNeg, Int.reduceLT, Int.reduceLE, Int.reduceToNat, Int.reduceEq, Int.reduceBEq, rowOf_own hq1, take_op]
      refine (ans_lawrun p2 o).mono ?_
      rintro _ m3 ⟨-, k3, p3⟩
      have ho3 := k3.own hq1 (by simp; omega)
      have q3 := k3.own q2 (by simp; omega)
      have kx := k2.upon k3 (fun q hq => by simp at hq; omega)
      generalize m1.length = om at *
      have hbl := run_bl o t
      have hok' := run_ok hok o
      simp -implicitDefEqProofs (disch := (first | omega | (simp only [lenB, Tr.row_len, Rf.cells_len, Nd.cells_len, TOp.cells_len, Tr.bl_len, rep9_len] <;> omega) | fail)) only [admQ, lenB, Tr.row_len, Rf.cells_len, Nd.cells_len, TOp.cells_len, Tr.bl_len, rep9_len, aFill, AK.cls, implies_true, ↓reduceIte, reduceCtorEq, if_true, if_false, Nat.reduceAdd, Nat.reduceEqDiff, Nat.reduceMod, Nat.reduceLT, Nat.reduceLeDiff, Nat.reduceSub, Nat.reduceMul, Nat.reduceBEq, Int.reduceAdd, Int.reduceSub, Int.reduceMul, Int.reduceNeg, Int.reduceLT, Int.reduceLE, Int.reduceToNat, Int.reduceEq, Int.reduceBEq]
      refine wp_join2 [0, 3, 4, 5] (fun _ : Unit => [(0, .sl b 0 L.length cap 0), (3, .ptr m.length 0), (4, .sl q 0 64 64 0), (5, .int .i64 j)])
        (fun _ M => Kept [] m M ∧ own M m.length = some (o.runT t).row ∧ own M q = some (flatOf Rf.cells (o.runT t).bl)) rfl ?_ ?_
      · have same : (o.runT t).bl = t.bl → ∃ _ : Unit, Kept [] m m3 ∧ own m3 m.length = some (o.runT t).row ∧ own m3 q = some (flatOf Rf.cells (o.runT t).bl) := fun h => ⟨(), kx, p3, by rw [h]; exact q3⟩
        have sets : ∀ {n : Nat} {v : Rf}, (o.runT t).bl = t.bl.set n v → n < 64 → ∃ _ : Unit, Kept [] m (m3.set q (.row (splice (flatOf Rf.cells t.bl) (n * 33) v.cells) false)) ∧ own (m3.set q (.row (splice (flatOf Rf.cells t.bl) (n * 33) v.cells) false)) m.length = some (o.runT t).row ∧ own (m3.set q (.row (splice (flatOf Rf.cells t.bl) (n * 33) v.cells) false)) q = some (flatOf Rf.cells (o.runT t).bl) := fun {n v} h hn => by
          have e := flatOf_set Rf.cells_len t.bl n v (by rw [t.hb]; exact hn)
          rw [e, h]
          exact ⟨(), kx.write (.inr (by omega)) _, own_set_ne' p3 (by omega) _, own_set (own_lt q3) _⟩
        by_cases ka : o.kind ≤ 1 ∧ 0 ≤ o.kind ∧ 0 ≤ o.n ∧ o.n < 64
        · obtain ⟨a1, a2, a3, a4⟩ := ka
          by_cases k1 : o.kind = 1
          · rw [if_neg (by omega), if_pos k1, if_pos ⟨a3, a4⟩] at hbl
            simp -implicitDefEqProofs (disch := (first | omega | (simp only [lenB, Tr.row_len, Rf.cells_len, Nd.cells_len, TOp.cells_len, Tr.bl_len, rep9_len] <;> omega) | fail)) only [admQ, lenB, Tr.row_len, Rf.cells_len, Nd.cells_len, TOp.cells_len, Tr.bl_len, rep9_len, aFill, AK.cls, implies_true, ↓reduceIte, reduceCtorEq, if_true, if_false, Nat.reduceAdd, Nat.reduceEqDiff, Nat.reduceMod, Nat.reduceLT, Nat.reduceLeDiff, Nat.reduceSub, Nat.reduceMul, Nat.reduceBEq, Int.reduceAdd, Int.reduceSub, Int.reduceMul, Int.reduceNeg, Int.reduceLT, Int.reduceLE, Int.reduceToNat, Int.reduceEq, Int.reduceBEq, c4_1, joins, rowOf_own ho3, op_kind, op_n, k1, dec_t, dec_f, rf_zero, q3]
            exact sets hbl (by omega)
          · have k0 : o.kind = 0 := by omega
            rw [if_pos k0] at hbl
            by_cases ha : 0 < o.r.at_
            · rw [if_pos ⟨⟨a3, a4⟩, by omega⟩] at hbl
              simp -implicitDefEqProofs (disch := (first | omega | (simp only [lenB, Tr.row_len, Rf.cells_len, Nd.cells_len, TOp.cells_len, Tr.bl_len, rep9_len] <;> omega) | fail)) only [admQ, lenB, Tr.row_len, Rf.cells_len, Nd.cells_len, TOp.cells_len, Tr.bl_len, rep9_len, aFill, AK.cls, implies_true, ↓reduceIte, reduceCtorEq, if_true, if_false, Nat.reduceAdd, Nat.reduceEqDiff, Nat.reduceMod, Nat.reduceLT, Nat.reduceLeDiff, Nat.reduceSub, Nat.reduceMul, Nat.reduceBEq, Int.reduceAdd, Int.reduceSub, Int.reduceMul, Int.reduceNeg, Int.reduceLT, Int.reduceLE, Int.reduceToNat, Int.reduceEq, Int.reduceBEq, c4_1, joins, rowOf_own ho3, op_kind, op_n, op_at', op_r, k0, dec_t, dec_f, rf_zero, q3]
              exact sets hbl (by omega)
            · rw [if_neg (fun h => by have := h.2; omega)] at hbl
              simp -implicitDefEqProofs (disch := (first | omega | (simp only [lenB, Tr.row_len, Rf.cells_len, Nd.cells_len, TOp.cells_len, Tr.bl_len, rep9_len] <;> omega) | fail)) only [admQ, lenB, Tr.row_len, Rf.cells_len, Nd.cells_len, TOp.cells_len, Tr.bl_len, rep9_len, aFill, AK.cls, implies_true, ↓reduceIte, reduceCtorEq, if_true, if_false, Nat.reduceAdd, Nat.reduceEqDiff, Nat.reduceMod, Nat.reduceLT, Nat.reduceLeDiff, Nat.reduceSub, Nat.reduceMul, Nat.reduceBEq, Int.reduceAdd, Int.reduceSub, Int.reduceMul, Int.reduceNeg, Int.reduceLT, Int.reduceLE, Int.reduceToNat, Int.reduceEq, Int.reduceBEq, c4_1, joins, rowOf_own ho3, op_kind, op_n, op_at', op_r, k0, dec_t, dec_f]
              exact same hbl
        · have hs : (o.runT t).bl = t.bl := by
            rw [hbl]
            by_cases k0 : o.kind = 0
            · rw [if_pos k0, if_neg (fun h => ka ⟨by omega, by omega, h.1⟩)]
            · rw [if_neg k0]
              by_cases k1 : o.kind = 1
              · rw [if_pos k1, if_neg (fun h => ka ⟨by omega, by omega, h⟩)]
              · rw [if_neg k1]
          by_cases b1 : o.kind ≤ 1
          · by_cases b2 : 0 ≤ o.kind
            · by_cases b3 : 0 ≤ o.n
              · have b4 : ¬ o.n < 64 := fun h => ka ⟨b1, b2, b3, h⟩
                simp -implicitDefEqProofs (disch := (first | omega | (simp only [lenB, Tr.row_len, Rf.cells_len, Nd.cells_len, TOp.cells_len, Tr.bl_len, rep9_len] <;> omega) | fail)) only [admQ, lenB, Tr.row_len, Rf.cells_len, Nd.cells_len, TOp.cells_len, Tr.bl_len, rep9_len, aFill, AK.cls, implies_true, ↓reduceIte, reduceCtorEq, if_true, if_false, Nat.reduceAdd, Nat.reduceEqDiff, Nat.reduceMod, Nat.reduceLT, Nat.reduceLeDiff, Nat.reduceSub, Nat.reduceMul, Nat.reduceBEq, Int.reduceAdd, Int.reduceSub, Int.reduceMul, Int.reduceNeg, Int.reduceLT, Int.reduceLE, Int.reduceToNat, Int.reduceEq, Int.reduceBEq, c4_1, joins, rowOf_own ho3, op_kind, op_n, dec_t, dec_f]
                exact same hs
              · simp -implicitDefEqProofs (disch := (first | omega | (simp only [lenB, Tr.row_len, Rf.cells_len, Nd.cells_len, TOp.cells_len, Tr.bl_len, rep9_len] <;> omega) | fail)) only [admQ, lenB, Tr.row_len, Rf.cells_len, Nd.cells_len, TOp.cells_len, Tr.bl_len, rep9_len, aFill, AK.cls, implies_true, ↓reduceIte, reduceCtorEq, if_true, if_false, Nat.reduceAdd, Nat.reduceEqDiff, Nat.reduceMod, Nat.reduceLT, Nat.reduceLeDiff, Nat.reduceSub, Nat.reduceMul, Nat.reduceBEq, Int.reduceAdd, Int.reduceSub, Int.reduceMul, Int.reduceNeg, Int.reduceLT, Int.reduceLE, Int.reduceToNat, Int.reduceEq, Int.reduceBEq, c4_1, joins, rowOf_own ho3, op_kind, op_n, dec_t, dec_f]
                exact same hs
            · simp -implicitDefEqProofs (disch := (first | omega | (simp only [lenB, Tr.row_len, Rf.cells_len, Nd.cells_len, TOp.cells_len, Tr.bl_len, rep9_len] <;> omega) | fail)) only [admQ, lenB, Tr.row_len, Rf.cells_len, Nd.cells_len, TOp.cells_len, Tr.bl_len, rep9_len, aFill, AK.cls, implies_true, ↓reduceIte, reduceCtorEq, if_true, if_false, Nat.reduceAdd, Nat.reduceEqDiff, Nat.reduceMod, Nat.reduceLT, Nat.reduceLeDiff, Nat.reduceSub, Nat.reduceMul, Nat.reduceBEq, Int.reduceAdd, Int.reduceSub, Int.reduceMul, Int.reduceNeg, Int.reduceLT, Int.reduceLE, Int.reduceToNat, Int.reduceEq, Int.reduceBEq, c4_1, joins, rowOf_own ho3, op_kind, op_n, dec_t, dec_f]
              exact same hs
          · simp -implicitDefEqProofs (disch := (first | omega | (simp only [lenB, Tr.row_len, Rf.cells_len, Nd.cells_len, TOp.cells_len, Tr.bl_len, rep9_len] <;> omega) | fail)) only [admQ, lenB, Tr.row_len, Rf.cells_len, Nd.cells_len, TOp.cells_len, Tr.bl_len, rep9_len, aFill, AK.cls, implies_true, ↓reduceIte, reduceCtorEq, if_true, if_false, Nat.reduceAdd, Nat.reduceEqDiff, Nat.reduceMod, Nat.reduceLT, Nat.reduceLeDiff, Nat.reduceSub, Nat.reduceMul, Nat.reduceBEq, Int.reduceAdd, Int.reduceSub, Int.reduceMul, Int.reduceNeg, Int.reduceLT, Int.reduceLE, Int.reduceToNat, Int.reduceEq, Int.reduceBEq, c4_1, joins, rowOf_own ho3, op_kind, op_n, dec_t, dec_f]
            exact same hs
      · rintro - M ⟨kM, pM, qM⟩
        clear hbl
        generalize o.runT t = t' at *
        simp -implicitDefEqProofs (disch := (first | omega | (simp only [lenB, Tr.row_len, Rf.cells_len, Nd.cells_len, TOp.cells_len, Tr.bl_len, rep9_len] <;> omega) | fail)) only [admQ, lenB, Tr.row_len, Rf.cells_len, Nd.cells_len, TOp.cells_len, Tr.bl_len, rep9_len, aFill, AK.cls, implies_true, ↓reduceIte, reduceCtorEq, if_true, if_false, Nat.reduceAdd, Nat.reduceEqDiff, Nat.reduceMod, Nat.reduceLT, Nat.reduceLeDiff, Nat.reduceSub, Nat.reduceMul, Nat.reduceBEq, Int.reduceAdd, Int.reduceSub, Int.reduceMul, Int.reduceNeg, Int.reduceLT, Int.reduceLE, Int.reduceToNat, Int.reduceEq, Int.reduceBEq, c4_2]
        have hqM := own_lt qM
        refine LoopW.on (fun s : Nat × Nat => [(0, .sl b 0 L.length cap 0), (3, .ptr m.length 0), (4, .sl q 0 64 64 0), (5, .int .i64 j), (7, .int .i64 s.2), (8, .int .i64 s.1)]) (fun s => 64 - s.1)
          (fun s m' => s.1 ≤ 64 ∧ Kept [] M m' ∧ s.2 = (liveB (t'.bl.take s.1)).length) ?_ (0, 0) _ _ rfl ⟨by omega, .refl _ _, rfl⟩
        rintro ⟨i, c⟩ m5 X2 ⟨hi, k5, hc⟩ hX2
        dsimp only at hi k5 hc hX2 ⊢
        have hll := liveB_len (t'.bl.take i)
        have hl2 : (t'.bl.take i).length ≤ 64 := by simp; omega
        by_cases hilt : i < 64
        · have hm1 := mapped_one t' hilt
          have e1 := t'.bl_at hilt
          have e2 : (flatOf Rf.cells t'.bl)[i * 33]? = some (.int .i64 (t'.b i).at_) := cell_of_part (j := 0) e1 (by omega)
          have hok := hok' i hilt
          have ez := aEq_rf' (t'.b i) (t'.b i)
          simp -implicitDefEqProofs (disch := (first | omega | (simp only [lenB, Tr.row_len, Rf.cells_len, Nd.cells_len, TOp.cells_len, Tr.bl_len, rep9_len] <;> omega) | fail)) only [admQ, lenB, Tr.row_len, Rf.cells_len, Nd.cells_len, TOp.cells_len, Tr.bl_len, rep9_len, aFill, AK.cls, implies_true, ↓reduceIte, reduceCtorEq, if_true, if_false, Nat.reduceAdd, Nat.reduceEqDiff, Nat.reduceMod, Nat.reduceLT, Nat.reduceLeDiff, Nat.reduceSub, Nat.reduceMul, Nat.reduceBEq, Int.reduceAdd, Int.reduceSub, Int.reduceMul, Int.reduceNeg, Int.reduceLT, Int.reduceLE, Int.reduceToNat, Int.reduceEq, Int.reduceBEq, dec_t, dec_f]
          refine (ans_get (k5.own0 pM) i).mono ?_
          rintro _ m6 ⟨rfl, k6⟩
          rw [t'.at_nat hilt]
          have q6 := k6.own0 (k5.own0 qM)
          have hm6 := own_lt q6
          have k56 := k5.trans k6
          by_cases hz : t'.b i = Rf.zero
          · rw [if_pos hz] at hm1
            have ezz := aEq_rf' Rf.zero Rf.zero
            rw [hz] at e1 e2
            simp -implicitDefEqProofs (disch := (first | omega | (simp only [lenB, Tr.row_len, Rf.cells_len, Nd.cells_len, TOp.cells_len, Tr.bl_len, rep9_len] <;> omega) | fail)) only [admQ, lenB, Tr.row_len, Rf.cells_len, Nd.cells_len, TOp.cells_len, Tr.bl_len, rep9_len, aFill, AK.cls, implies_true, ↓reduceIte, reduceCtorEq, if_true, if_false, Nat.reduceAdd, Nat.reduceEqDiff, Nat.reduceMod, Nat.reduceLT, Nat.reduceLeDiff, Nat.reduceSub, Nat.reduceMul, Nat.reduceBEq, Int.reduceAdd, Int.reduceSub, Int.reduceMul, Int.reduceNeg, Int.reduceLT, Int.reduceLE, Int.reduceToNat, Int.reduceEq, Int.reduceBEq, hz, beq_self_eq_true, rf_zero, splice_rf, take_rf, rowOf_own (own_app q6 _), t'.bl_len, e1, e2, ezz, rf0_at, dec_t, dec_f]
            exact hX2 (i + 1, c) _ _ rfl (by simp; omega) ⟨by simp; omega, k56.trans (.app _ _ _), by simp only; omega⟩
          · rw [if_neg hz] at hm1
            have hp1 : 0 < (t'.b i).at_ := by rcases hok with h | h; exact absurd h hz; omega
            have hbz : (t'.b i == t'.b i) = true := beq_self_eq_true _
            simp -implicitDefEqProofs (disch := (first | omega | (simp only [lenB, Tr.row_len, Rf.cells_len, Nd.cells_len, TOp.cells_len, Tr.bl_len, rep9_len] <;> omega) | fail)) only [admQ, lenB, Tr.row_len, Rf.cells_len, Nd.cells_len, TOp.cells_len, Tr.bl_len, rep9_len, aFill, AK.cls, implies_true, ↓reduceIte, reduceCtorEq, if_true, if_false, Nat.reduceAdd, Nat.reduceEqDiff, Nat.reduceMod, Nat.reduceLT, Nat.reduceLeDiff, Nat.reduceSub, Nat.reduceMul, Nat.reduceBEq, Int.reduceAdd, Int.reduceSub, Int.reduceMul, Int.reduceNeg, Int.reduceLT, Int.reduceLE, Int.reduceToNat, Int.reduceEq, Int.reduceBEq, beq_eq_false_iff_ne.mpr hz, rf_zero, splice_rf, take_rf, rowOf_own (own_app q6 _), t'.bl_len, e1, e2, ez, hbz, rf_at, dec_t, dec_f]
            exact hX2 (i + 1, c + 1) _ _ rfl (by simp; omega) ⟨by simp; omega, k56.trans (.app _ _ _), by simp only; omega⟩
        · obtain rfl : i = 64 := by omega
          rw [List.take_of_length_le (by rw [t'.hb]; omega)] at hc
          have hcm : c = t'.mapped := hc
          subst hcm
          simp -implicitDefEqProofs (disch := (first | omega | (simp only [lenB, Tr.row_len, Rf.cells_len, Nd.cells_len, TOp.cells_len, Tr.bl_len, rep9_len] <;> omega) | fail)) only [admQ, lenB, Tr.row_len, Rf.cells_len, Nd.cells_len, TOp.cells_len, Tr.bl_len, rep9_len, aFill, AK.cls, implies_true, ↓reduceIte, reduceCtorEq, if_true, if_false, Nat.reduceAdd, Nat.reduceEqDiff, Nat.reduceMod, Nat.reduceLT, Nat.reduceLeDiff, Nat.reduceSub, Nat.reduceMul, Nat.reduceBEq, Int.reduceAdd, Int.reduceSub, Int.reduceMul, Int.reduceNeg, Int.reduceLT, Int.reduceLE, Int.reduceToNat, Int.reduceEq, Int.reduceBEq, dec_t, dec_f]
          refine (ans_mapped (k5.own0 pM)).mono ?_
          rintro _ m6 ⟨rfl, k6⟩
          have k56 := k5.trans k6
          simp -implicitDefEqProofs (disch := (first | omega | (simp only [lenB, Tr.row_len, Rf.cells_len, Nd.cells_len, TOp.cells_len, Tr.bl_len, rep9_len] <;> omega) | fail)) only [admQ, lenB, Tr.row_len, Rf.cells_len, Nd.cells_len, TOp.cells_len, Tr.bl_len, rep9_len, aFill, AK.cls, implies_true, ↓reduceIte, reduceCtorEq, if_true, if_false, Nat.reduceAdd, Nat.reduceEqDiff, Nat.reduceMod, Nat.reduceLT, Nat.reduceLeDiff, Nat.reduceSub, Nat.reduceMul, Nat.reduceBEq, Int.reduceAdd, Int.reduceSub, Int.reduceMul, Int.reduceNeg, Int.reduceLT, Int.reduceLE, Int.reduceToNat, Int.reduceEq, Int.reduceBEq, beq_self_eq_true]
          exact hX (j + 1, t') _ _ rfl (by simp; omega) ⟨by simp; omega, kM.trans k56, k56.own0 pM, k56.own0 qM, hok'⟩
    · obtain rfl : j = L.length := by omega
      simp -implicitDefEqProofs (disch := (first | omega | (simp only [lenB, Tr.row_len, Rf.cells_len, Nd.cells_len, TOp.cells_len, Tr.bl_len, rep9_len] <;> omega) | fail)) only [admQ, lenB, Tr.row_len, Rf.cells_len, Nd.cells_len, TOp.cells_len, Tr.bl_len, rep9_len, aFill, AK.cls, implies_true, ↓reduceIte, reduceCtorEq, if_true, if_false, Nat.reduceAdd, Nat.reduceEqDiff, Nat.reduceMod, Nat.reduceLT, Nat.reduceLeDiff, Nat.reduceSub, Nat.reduceMul, Nat.reduceBEq, Int.reduceAdd, Int.reduceSub, Int.reduceMul, Int.reduceNeg, Int.reduceLT, Int.reduceLE, Int.reduceToNat, Int.reduceEq, Int.reduceBEq, hlx, dec_t, dec_f]
      refine (ans_trworks m1).mono ?_
      rintro _ m2 ⟨rfl, k2⟩
      simp -implicitDefEqProofs (disch := (first | omega | (simp only [lenB, Tr.row_len, Rf.cells_len, Nd.cells_len, TOp.cells_len, Tr.bl_len, rep9_len] <;> omega) | fail)) only [admQ, lenB, Tr.row_len, Rf.cells_len, Nd.cells_len, TOp.cells_len, Tr.bl_len, rep9_len, aFill, AK.cls, implies_true, ↓reduceIte, reduceCtorEq, if_true, if_false, Nat.reduceAdd, Nat.reduceEqDiff, Nat.reduceMod, Nat.reduceLT, Nat.reduceLeDiff, Nat.reduceSub, Nat.reduceMul, Nat.reduceBEq, Int.reduceAdd, Int.reduceSub, Int.reduceMul, Int.reduceNeg, Int.reduceLT, Int.reduceLE, Int.reduceToNat, Int.reduceEq, Int.reduceBEq]
      exact k1.trans k2
end Go.Proofs.Ytmklcealhjmlgaa
end
section
/- The tree of blocks: two blocks are set, or taken away, in either order, purely. -/
namespace Go.Proofs.Ytmklcealhjmlgaa
open Go Go.Adm
set_option linter.unusedSimpArgs false
def Tr.putT (t : Tr) (k : Int) (r : Rf) : Tr := if 0 < r.at_ then t.setT k r else t.delT k
def Tr.putR (t : Tr) (k : Int) (r : Rf) : List Rf := if 0 < r.at_ then t.setR k r else t.delR k
def Tr.act (t : Tr) (k : Int) (r : Rf) : Prop := (0 ≤ k ∧ k < 64) ∧ (0 < r.at_ ∨ t.b k.toNat ≠ Rf.zero)
instance (t : Tr) (k : Int) (r : Rf) : Decidable (t.act k r) := inferInstanceAs (Decidable (_ ∧ _))
theorem Rf.pos_ne {r : Rf} (h : 0 < r.at_) : r ≠ Rf.zero := by rintro rfl; exact absurd h (by decide)
theorem putT_b (t : Tr) (k : Int) (r : Rf) (i : Nat) : (t.putT k r).b i = if t.act k r ∧ k.toNat = i then (if 0 < r.at_ then r else Rf.zero) else t.b i := by
  unfold Tr.putT
  by_cases h : 0 < r.at_
  · rw [if_pos h, if_pos h, setT_b]
    by_cases c : Tr.setOk k r ∧ k.toNat = i
    · rw [if_pos c, if_pos ⟨⟨c.1.1, .inl h⟩, c.2⟩]
    · rw [if_neg c, if_neg (fun h' => c ⟨⟨h'.1.1, by omega⟩, h'.2⟩)]
  · rw [if_neg h, if_neg h, delT_b]
    by_cases hk : 0 ≤ k ∧ k < 64
    · obtain ⟨k, rfl⟩ := Int.eq_ofNat_of_zero_le hk.1
      rw [t.at_nat (by omega)]
      by_cases c : t.b k ≠ Rf.zero ∧ ((k : Nat) : Int).toNat = i
      · rw [if_pos c, if_pos ⟨⟨hk, .inr (by rw [Int.toNat_natCast]; exact c.1)⟩, c.2⟩]
      · rw [if_neg c, if_neg (fun h' => c ⟨?_, h'.2⟩)]
        rcases h'.1.2 with h1 | h1
        · exact absurd h1 h
        · rwa [Int.toNat_natCast] at h1
    · rw [if_neg (fun h' => h'.1 (t.at_out hk)), if_neg (fun h' => hk h'.1.1)]
theorem spoil2_n (t : Tr) {l : Nat} (hl : l < 9) (i : Nat) : (t.spoilT [l, 0]).n i = if i = 0 ∨ i = l then Nd.dirty else t.n i := by
  simp only [Tr.spoilT]
  rw [Tr.setN_n _ _ _ _ (by omega), Tr.setN_n _ _ _ _ hl]
  by_cases h0 : 0 = i
  · rw [if_pos h0, if_pos (.inl h0.symm)]
  · by_cases h1 : l = i
    · rw [if_neg h0, if_pos h1, if_pos (.inr h1.symm)]
    · rw [if_neg h0, if_neg h1, if_neg (by omega)]
theorem putT_n (t : Tr) (k : Int) (r : Rf) (i : Nat) : (t.putT k r).n i = if t.act k r then (if i = 0 then Nd.dirty else if i = k.toNat / 8 + 1 then (if (t.putT k r).some i then Nd.dirty else Nd.none) else t.n i) else t.n i := by
  by_cases ha : t.act k r
  · rw [if_pos ha]
    obtain ⟨k, rfl⟩ := Int.eq_ofNat_of_zero_le ha.1.1
    have hk : k < 64 := by have := ha.1.2; omega
    by_cases h : 0 < r.at_
    · have e : t.putT (k : Int) r = (t.setB k r).spoilT [k / 8 + 1, 0] := by
        rw [Tr.putT, if_pos h, Tr.setT, if_pos ⟨ha.1, by omega⟩, Int.toNat_natCast]
      have hb : (t.putT (k : Int) r).b k = r := by rw [putT_b, if_pos ⟨ha, by simp⟩, if_pos h]
      rw [Int.toNat_natCast]
      by_cases hi : i = k / 8 + 1
      · have hs : (t.putT (k : Int) r).some i := ⟨k % 8, by omega, by rw [show 8 * (i - 1) + k % 8 = k by omega, hb]; exact Rf.pos_ne h⟩
        rw [if_neg (by omega), if_pos hi, if_pos hs, e, spoil2_n _ (by omega), if_pos (.inr hi)]
      · rw [if_neg hi, e, spoil2_n _ (by omega)]
        by_cases h0 : i = 0
        · rw [if_pos (.inl h0), if_pos h0]
        · rw [if_neg (by omega), if_neg h0]; rfl
    · have hz : t.b k ≠ Rf.zero := by
        rcases ha.2 with h1 | h1
        · exact absurd h1 h
        · rwa [Int.toNat_natCast] at h1
      have e : t.putT (k : Int) r = if (t.delT1 k).some (k / 8 + 1) then t.delT1 k else (t.delT1 k).setN (k / 8 + 1) Nd.none := by
        rw [Tr.putT, if_neg h, Tr.delT, t.at_nat hk, if_neg hz, Int.toNat_natCast]
      have hs : (t.putT (k : Int) r).some (k / 8 + 1) ↔ (t.delT1 k).some (k / 8 + 1) := by
        rw [e]; split <;> exact Iff.rfl
      have hn : (t.delT1 k).n i = if i = 0 ∨ i = k / 8 + 1 then Nd.dirty else t.n i := by
        rw [Tr.delT1, spoil2_n _ (by omega)]; rfl
      rw [Int.toNat_natCast]
      by_cases hi : i = k / 8 + 1
      · rw [if_neg (by omega), if_pos hi, hi]
        by_cases hd : (t.delT1 k).some (k / 8 + 1)
        · rw [if_pos (hs.mpr hd), e, if_pos hd, ← hi, hn, if_pos (.inr hi)]
        · rw [if_neg (fun h => hd (hs.mp h)), e, if_neg hd, Tr.setN_n _ _ _ _ (by omega), if_pos rfl]
      · have hn2 : (t.putT (k : Int) r).n i = (t.delT1 k).n i := by
          rw [e]
          split
          · rfl
          · rw [Tr.setN_n _ _ _ _ (by omega), if_neg (fun h => hi h.symm)]
        rw [hn2, hn, if_neg hi]
        by_cases h0 : i = 0
        · rw [if_pos (.inl h0), if_pos h0]
        · rw [if_neg (by omega), if_neg h0]
  · rw [if_neg ha]
    have e : t.putT k r = t := by
      unfold Tr.putT
      by_cases h : 0 < r.at_
      · rw [if_pos h, Tr.setT, if_neg (fun h' => ha ⟨h'.1, .inl h⟩)]
      · rw [if_neg h, Tr.delT]
        by_cases hk : 0 ≤ k ∧ k < 64
        · obtain ⟨k, rfl⟩ := Int.eq_ofNat_of_zero_le hk.1
          rw [t.at_nat (by omega), if_pos]
          exact Classical.byContradiction fun h' => ha ⟨hk, .inr (by rw [Int.toNat_natCast]; exact h')⟩
        · rw [if_pos (t.at_out hk)]
    rw [e]
theorem act_put {t : Tr} {a b : Int} (hab : a ≠ b) (x y : Rf) : (t.putT a x).act b y ↔ t.act b y := by
  unfold Tr.act
  constructor
  · rintro ⟨h1, h2⟩
    refine ⟨h1, h2.imp id fun h => ?_⟩
    rwa [putT_b, if_neg] at h
    rintro ⟨h3, h4⟩
    have := h3.1
    omega
  · rintro ⟨h1, h2⟩
    refine ⟨h1, h2.imp id fun h => ?_⟩
    rwa [putT_b, if_neg]
    rintro ⟨h3, h4⟩
    have := h3.1
    omega
theorem some_put {t : Tr} {k : Int} {r : Rf} {i : Nat} (hi : t.act k r → i ≠ k.toNat / 8 + 1) (h1 : 1 ≤ i) : (t.putT k r).some i ↔ t.some i := by
  have e : ∀ j, j < 8 → (t.putT k r).b (8 * (i - 1) + j) = t.b (8 * (i - 1) + j) := fun j hj => by
    rw [putT_b, if_neg]
    rintro ⟨h2, h3⟩
    have := hi h2
    omega
  constructor
  · rintro ⟨j, hj, h⟩; exact ⟨j, hj, by rwa [e j hj] at h⟩
  · rintro ⟨j, hj, h⟩; exact ⟨j, hj, by rwa [e j hj]⟩
theorem put_comm (t : Tr) {a b : Int} (hab : a ≠ b) (x y : Rf) : (t.putT a x).putT b y = (t.putT b y).putT a x := by
  have A := act_put (t := t) hab.symm y x
  have B := act_put (t := t) hab x y
  have hb : ∀ i, ((t.putT a x).putT b y).b i = ((t.putT b y).putT a x).b i := fun i => by
    rw [putT_b, putT_b, putT_b, putT_b]
    by_cases ha : t.act a x ∧ a.toNat = i
    · have : ¬ (t.act b y ∧ b.toNat = i) := by
        rintro ⟨h1, h2⟩
        have := h1.1
        have := ha.1.1
        omega
      rw [if_neg (fun h => this ⟨B.mp h.1, h.2⟩), if_pos ha, if_pos (c := (t.putT b y).act a x ∧ a.toNat = i) ⟨A.mpr ha.1, ha.2⟩]
    · rw [if_neg ha, if_neg (fun h : (t.putT b y).act a x ∧ a.toNat = i => ha ⟨A.mp h.1, h.2⟩)]
      by_cases hb : t.act b y ∧ b.toNat = i
      · rw [if_pos hb, if_pos ⟨B.mpr hb.1, hb.2⟩]
      · rw [if_neg hb, if_neg (fun h => hb ⟨B.mp h.1, h.2⟩)]
  have hs : ∀ i, ((t.putT a x).putT b y).some i ↔ ((t.putT b y).putT a x).some i := fun i => by
    unfold Tr.some; simp only [hb]
  refine Tr.ext_ (fun i _ => hb i) fun i _ => ?_
  rw [putT_n (t.putT a x), putT_n (t.putT b y)]
  by_cases h0 : i = 0
  · rw [putT_n t a x, putT_n t b y]
    simp only [h0, if_true]
    by_cases ha : t.act a x
    · rw [if_pos ha, if_pos (A.mpr ha)]; split <;> rfl
    · by_cases hb' : t.act b y
      · rw [if_pos (B.mpr hb'), if_pos hb', if_neg (fun h => ha (A.mp h))]
      · rw [if_neg (fun h => hb' (B.mp h)), if_neg ha, if_neg (fun h => ha (A.mp h)), if_neg hb']
  · simp only [if_neg h0]
    by_cases la : t.act a x ∧ i = a.toNat / 8 + 1
    · rw [if_pos (A.mpr la.1), if_pos la.2]
      by_cases lb : t.act b y ∧ i = b.toNat / 8 + 1
      · rw [if_pos (B.mpr lb.1), if_pos lb.2]
        simp only [hs]
      · have e : (if (t.putT a x).act b y then (if i = b.toNat / 8 + 1 then (if ((t.putT a x).putT b y).some i then Nd.dirty else Nd.none) else (t.putT a x).n i) else (t.putT a x).n i) = (t.putT a x).n i := by
          by_cases hb' : (t.putT a x).act b y
          · rw [if_pos hb', if_neg (fun h => lb ⟨B.mp hb', h⟩)]
          · rw [if_neg hb']
        rw [e, putT_n t a x, if_pos la.1, if_neg h0, if_pos la.2]
        have : ((t.putT b y).putT a x).some i ↔ (t.putT a x).some i := by
          rw [← hs i]
          exact some_put (fun h h' => lb ⟨B.mp h, h'⟩) (by omega)
        simp only [this]
    · have e : (if (t.putT b y).act a x then (if i = a.toNat / 8 + 1 then (if ((t.putT b y).putT a x).some i then Nd.dirty else Nd.none) else (t.putT b y).n i) else (t.putT b y).n i) = (t.putT b y).n i := by
        by_cases ha' : (t.putT b y).act a x
        · rw [if_pos ha', if_neg (fun h => la ⟨A.mp ha', h⟩)]
        · rw [if_neg ha']
      have e2 : (t.putT a x).n i = t.n i := by
        rw [putT_n t a x, if_neg h0]
        by_cases ha' : t.act a x
        · rw [if_pos ha', if_neg (fun h => la ⟨ha', h⟩)]
        · rw [if_neg ha']
      rw [e, e2, putT_n t b y, if_neg h0]
      have : ((t.putT a x).putT b y).some i ↔ (t.putT b y).some i := by
        rw [hs i]
        exact some_put (fun h h' => la ⟨A.mp h, h'⟩) (by omega)
      simp only [this, B]
theorem put_len (t : Tr) (k : Int) (r : Rf) : (t.putT k r).refs.length + (t.putR k r).length = t.refs.length + (if Tr.setOk k r then [r] else []).length := by
  have : ((t.putT k r).refs ++ t.putR k r).Perm (t.refs ++ (if Tr.setOk k r then [r] else [])) := List.perm_iff_count.mpr fun s => by
    rw [List.count_append, List.count_append]
    unfold Tr.putT Tr.putR
    by_cases h : 0 < r.at_
    · rw [if_pos h, if_pos h]; exact cnt_set ..
    · rw [if_neg h, if_neg h, if_neg (fun h' : Tr.setOk k r => h (by have := h'.2; omega))]
      simpa using cnt_del t k s
  have := this.length_eq
  simpa using this
theorem put_dead (t : Tr) {a b : Int} (hab : a ≠ b) (x y : Rf) : (t.putR a x).length + ((t.putT a x).putR b y).length = (t.putR b y).length + ((t.putT b y).putR a x).length := by
  have h1 := put_len t a x
  have h2 := put_len (t.putT a x) b y
  have h3 := put_len t b y
  have h4 := put_len (t.putT b y) a x
  rw [put_comm t hab] at h2
  omega
theorem putR_len (t : Tr) (k : Int) (r : Rf) : (t.putR k r).length ≤ 3 := by
  unfold Tr.putR
  split
  · unfold Tr.setR
    split
    · have := t.old_len k.toNat
      have := (t.setB k.toNat r).spoilR_len [k.toNat / 8 + 1, 0]
      simp at *; omega
    · simp
  · unfold Tr.delR
    split
    · simp
    · have := (t.setB k.toNat Rf.zero).spoilR_len [k.toNat / 8 + 1, 0]
      simp at *; omega
end Go.Proofs.Ytmklcealhjmlgaa
end
