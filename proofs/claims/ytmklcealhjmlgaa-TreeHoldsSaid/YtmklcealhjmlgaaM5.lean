/- Texts of this seat, joined (part 5 of 6): an abstract memory for Go programs, this seat's functions as abstract code, and what each of them does. -/
import Derived.Test.YtmklcealhjmlgaaM4
set_option linter.unusedSimpArgs false
section
/- The statement TreeEither, walked. -/
namespace Go.Proofs.Ytmklcealhjmlgaa
open Go Go.Adm
set_option linter.unusedSimpArgs false
set_option maxRecDepth 100000
set_option maxHeartbeats 1000000
theorem ans_sameints {m : Mem} {x y : AV} {l l2 : List Nat} {m0 m1 : Nat} (hx : NatL m0 m x l) (hy : NatL m1 m y l2) (hl : l.length < 100000) :
    Ans Try.prog 20 [x, y] m fun z m' => z = .bool (decide (l = l2)) ∧ m' = m := by
  refine ans_ret mixed ok20 ?_
  have hlx := hx.len
  have hly := hy.len
  by_cases hn : l.length = l2.length
  · have hb : ((l.length : Int) == (l2.length : Int)) = true := by rw [hn]; exact beq_self_eq_true _
    simp -implicitDefEqProofs (disch := (first | omega | (simp only [lenB, Tr.row_len, Rf.cells_len, Nd.cells_len, TOp.cells_len, Tr.bl_len] <;> omega) | fail)) only [admQ, lenB, Tr.row_len, Rf.cells_len, Nd.cells_len, TOp.cells_len, Tr.bl_len, aFill, AK.cls, implies_true, ↓reduceIte, reduceCtorEq, if_true, if_false, Nat.reduceAdd, Nat.reduceEqDiff, Nat.reduceMod, Nat.reduceLT, Nat.reduceLeDiff, Nat.reduceSub, Nat.reduceMul, Nat.reduceBEq, Int.reduceAdd, Int.reduceSub, Int.reduceMul, Int.reduceNeg, Int.reduceLT, Int.reduceLE, Int.reduceToNat, Int.reduceEq, Int.reduceBEq, c20, r20, hlx, hly, hb]
    refine LoopW.on (fun j : Nat => [(0, x), (1, y), (5, .int .i64 j)]) (fun j => l.length - j)
      (fun j m' => j ≤ l.length ∧ m' = m ∧ l.take j = l2.take j) ?_ 0 _ _ rfl ⟨by omega, rfl, rfl⟩
    rintro j m' X ⟨hj, rfl, ht⟩ hX
    by_cases hlt : j < l.length
    · have hlt2 : j < l2.length := by omega
      obtain ⟨b, s, rfl, -, ho, -⟩ := hx.sl_at hlt
      obtain ⟨b2, s2, rfl, -, ho2, -⟩ := hy.sl_at hlt2
      rw [flat_nats] at ho ho2
      have e1 := nats_get (List.getElem?_eq_getElem hlt)
      have e2 := nats_get (List.getElem?_eq_getElem hlt2)
      by_cases he : l[j] = l2[j]
      · have hbe : (((l[j] : Nat) : Int) == ((l2[j] : Nat) : Int)) = true := beq_iff_eq.mpr (by rw [he])
        simp -implicitDefEqProofs (disch := (first | omega | (simp only [lenB, Tr.row_len, Rf.cells_len, Nd.cells_len, TOp.cells_len, Tr.bl_len] <;> omega) | fail)) only [admQ, lenB, Tr.row_len, Rf.cells_len, Nd.cells_len, TOp.cells_len, Tr.bl_len, aFill, AK.cls, implies_true, ↓reduceIte, reduceCtorEq, if_true, if_false, Nat.reduceAdd, Nat.reduceEqDiff, Nat.reduceMod, Nat.reduceLT, Nat.reduceLeDiff, Nat.reduceSub, Nat.reduceMul, Nat.reduceBEq, Int.reduceAdd, Int.reduceSub, Int.reduceMul, Int.reduceNeg, Int.reduceLT, Int.reduceLE, Int.reduceToNat, Int.reduceEq, Int.reduceBEq, rowOf_own ho, rowOf_own ho2, hlx, e1, e2, hbe]
        exact hX (j + 1) _ _ rfl (by omega) ⟨by omega, rfl, by rw [take_snoc hlt, take_snoc hlt2, ht, he]⟩
      · have hne : ¬ l = l2 := by rintro rfl; exact he rfl
        rw [decide_eq_false hne]
        simp -implicitDefEqProofs (disch := (first | omega | (simp only [lenB, Tr.row_len, Rf.cells_len, Nd.cells_len, TOp.cells_len, Tr.bl_len] <;> omega) | fail)) only [admQ, lenB, Tr.row_len, Rf.cells_len, Nd.cells_len, TOp.cells_len, Tr.bl_len, aFill, AK.cls, implies_true, ↓reduceIte, reduceCtorEq, if_true, if_false, Nat.reduceAdd, Nat.reduceEqDiff, Nat.reduceMod, Nat.reduceLT, Nat.reduceLeDiff, Nat.reduceSub, Nat.reduceMul, Nat.reduceBEq, Int.reduceAdd, Int.reduceSub, Int.reduceMul, Int.reduceNeg, Int.reduceLT, Int.reduceLE, Int.reduceToNat, Int.reduceEq, Int.reduceBEq, rowOf_own ho, rowOf_own ho2, hlx, e1, e2, beq_eq_false_iff_ne.mpr (show ¬ ((l[j] : Nat) : Int) = ((l2[j] : Nat) : Int) from fun h => he (by omega))]
    · obtain rfl : j = l.length := by omega
      rw [List.take_length, hn, List.take_length] at ht
      rw [decide_eq_true ht]
      simp -implicitDefEqProofs (disch := (first | omega | (simp only [lenB, Tr.row_len, Rf.cells_len, Nd.cells_len, TOp.cells_len, Tr.bl_len] <;> omega) | fail)) only [admQ, lenB, Tr.row_len, Rf.cells_len, Nd.cells_len, TOp.cells_len, Tr.bl_len, aFill, AK.cls, implies_true, ↓reduceIte, reduceCtorEq, if_true, if_false, Nat.reduceAdd, Nat.reduceEqDiff, Nat.reduceMod, Nat.reduceLT, Nat.reduceLeDiff, Nat.reduceSub, Nat.reduceMul, Nat.reduceBEq, Int.reduceAdd, Int.reduceSub, Int.reduceMul, Int.reduceNeg, Int.reduceLT, Int.reduceLE, Int.reduceToNat, Int.reduceEq, Int.reduceBEq, hlx]
  · have hb : ((l.length : Int) == (l2.length : Int)) = false := beq_eq_false_iff_ne.mpr (by omega)
    rw [decide_eq_false (by rintro rfl; exact hn rfl)]
    simp -implicitDefEqProofs (disch := (first | omega | (simp only [lenB, Tr.row_len, Rf.cells_len, Nd.cells_len, TOp.cells_len, Tr.bl_len] <;> omega) | fail)) only [admQ, lenB, Tr.row_len, Rf.cells_len, Nd.cells_len, TOp.cells_len, Tr.bl_len, aFill, AK.cls, implies_true, ↓reduceIte, reduceCtorEq, if_true, if_false, Nat.reduceAdd, Nat.reduceEqDiff, Nat.reduceMod, Nat.reduceLT, Nat.reduceLeDiff, Nat.reduceSub, Nat.reduceMul, Nat.reduceBEq, Int.reduceAdd, Int.reduceSub, Int.reduceMul, Int.reduceNeg, Int.reduceLT, Int.reduceLE, Int.reduceToNat, Int.reduceEq, Int.reduceBEq, c20, r20, hlx, hly, hb]
theorem ans_trput {m : Mem} {p : Nat} {t : Tr} (hp : own m p = some t.row) (k : Int) (r : Rf) :
    Ans Try.prog 16 [.ptr p 0, .int .i64 k, .agg r.cells] m fun x m' => x = .int .i64 ((t.putR k r).length : Nat) ∧ Kept [p] m m' ∧ own m' p = some (t.putT k r).row := by
  refine ans_ret mixed ok16 ?_
  have hpl := own_lt hp
  unfold Tr.putR Tr.putT
  by_cases h : 0 < r.at_
  · rw [if_pos h, if_pos h]
    simp -implicitDefEqProofs (disch := (first | omega | (simp only [lenB, Tr.row_len, Rf.cells_len, Nd.cells_len, TOp.cells_len, Tr.bl_len] <;> omega) | fail)) only [admQ, lenB, Tr.row_len, Rf.cells_len, Nd.cells_len, TOp.cells_len, Tr.bl_len, aFill, AK.cls, implies_true, ↓reduceIte, reduceCtorEq, if_true, if_false, Nat.reduceAdd, Nat.reduceEqDiff, Nat.reduceMod, Nat.reduceLT, Nat.reduceLeDiff, Nat.reduceSub, Nat.reduceMul, Nat.reduceBEq, Int.reduceAdd, Int.reduceSub, Int.reduceMul, Int.reduceNeg, Int.reduceLT, Int.reduceLE, Int.reduceToNat, Int.reduceEq, Int.reduceBEq, c16, r16, rf_at, dec_t h, take_rf]
    refine (ans_set (own_app hp _) k r).mono ?_
    rintro y M ⟨hy, hk, hp2⟩
    have hyl := hy.len
    simp -implicitDefEqProofs (disch := (first | omega | (simp only [lenB, Tr.row_len, Rf.cells_len, Nd.cells_len, TOp.cells_len, Tr.bl_len] <;> omega) | fail)) only [admQ, lenB, Tr.row_len, Rf.cells_len, Nd.cells_len, TOp.cells_len, Tr.bl_len, aFill, AK.cls, implies_true, ↓reduceIte, reduceCtorEq, if_true, if_false, Nat.reduceAdd, Nat.reduceEqDiff, Nat.reduceMod, Nat.reduceLT, Nat.reduceLeDiff, Nat.reduceSub, Nat.reduceMul, Nat.reduceBEq, Int.reduceAdd, Int.reduceSub, Int.reduceMul, Int.reduceNeg, Int.reduceLT, Int.reduceLE, Int.reduceToNat, Int.reduceEq, Int.reduceBEq, hyl]
    exact ⟨(Kept.app _ _ _).trans hk, hp2⟩
  · rw [if_neg h, if_neg h]
    simp -implicitDefEqProofs (disch := (first | omega | (simp only [lenB, Tr.row_len, Rf.cells_len, Nd.cells_len, TOp.cells_len, Tr.bl_len] <;> omega) | fail)) only [admQ, lenB, Tr.row_len, Rf.cells_len, Nd.cells_len, TOp.cells_len, Tr.bl_len, aFill, AK.cls, implies_true, ↓reduceIte, reduceCtorEq, if_true, if_false, Nat.reduceAdd, Nat.reduceEqDiff, Nat.reduceMod, Nat.reduceLT, Nat.reduceLeDiff, Nat.reduceSub, Nat.reduceMul, Nat.reduceBEq, Int.reduceAdd, Int.reduceSub, Int.reduceMul, Int.reduceNeg, Int.reduceLT, Int.reduceLE, Int.reduceToNat, Int.reduceEq, Int.reduceBEq, c16, r16, rf_at, dec_f h, take_rf]
    refine (ans_del (own_app hp _) k).mono ?_
    rintro y M ⟨hy, hk, hp2⟩
    have hyl := hy.len
    simp -implicitDefEqProofs (disch := (first | omega | (simp only [lenB, Tr.row_len, Rf.cells_len, Nd.cells_len, TOp.cells_len, Tr.bl_len] <;> omega) | fail)) only [admQ, lenB, Tr.row_len, Rf.cells_len, Nd.cells_len, TOp.cells_len, Tr.bl_len, aFill, AK.cls, implies_true, ↓reduceIte, reduceCtorEq, if_true, if_false, Nat.reduceAdd, Nat.reduceEqDiff, Nat.reduceMod, Nat.reduceLT, Nat.reduceLeDiff, Nat.reduceSub, Nat.reduceMul, Nat.reduceBEq, Int.reduceAdd, Int.reduceSub, Int.reduceMul, Int.reduceNeg, Int.reduceLT, Int.reduceLE, Int.reduceToNat, Int.reduceEq, Int.reduceBEq, hyl]
    exact ⟨(Kept.app _ _ _).trans hk, hp2⟩
theorem aEq_ints : ∀ (l : List AV), (∀ v ∈ l, ∃ k n, v = .int k n) → aEqCells (List.replicate l.length .i) l l = some true := by
  intro l
  induction l with
  | nil => intro _; rfl
  | cons v l ih =>
    intro h
    obtain ⟨k, n, rfl⟩ := h v (List.mem_cons_self ..)
    simp [List.length_cons, List.replicate_succ, aEqCells, aEqCk, ih fun w hw => h w (List.mem_cons_of_mem _ hw)]
theorem rf_ints (r : Rf) : ∀ v ∈ r.cells, ∃ k n, v = AV.int k n := by
  intro v hv
  rcases List.mem_cons.mp hv with h | h
  · exact ⟨_, _, h⟩
  · obtain ⟨b, -, h⟩ := List.mem_map.mp h
    exact ⟨_, _, h.symm⟩
theorem aEq_pg (f : Nat → Rf) : aEqCells (List.replicate 264 .i) (flatOf Rf.cells (tab 8 f)) (flatOf Rf.cells (tab 8 f)) = some true := by
  have := aEq_ints (flatOf Rf.cells (tab 8 f)) fun v hv => by
    obtain ⟨r, -, h⟩ := List.mem_flatMap.mp hv
    exact rf_ints r v h
  rwa [flat8_len] at this
theorem ans_either {m : Mem} {x : AV} {L : List TOp} (hx : RdO m x L) (a b : Int) (r s' : Rf) : Ans Try.prog 5 [x, .int .i64 a, .int .i64 b, .agg r.cells, .agg s'.cells] m fun y _ => y = .bool true := by
  refine ans_ret mixed ok5 ?_
  have hlx := hx.len
  by_cases hn : 200 < L.length ∨ a = b
  · have hg : (decide ((200 : Int) < (L.length : Int)) || (a == b)) = true := by
      rcases hn with h | h
      · rw [decide_eq_true (by omega)]; rfl
      · rw [h, beq_self_eq_true, Bool.or_true]
    by_cases h2 : 200 < L.length
    · simp -implicitDefEqProofs (disch := (first | omega | (simp only [lenB, Tr.row_len, Rf.cells_len, Nd.cells_len, TOp.cells_len, Tr.bl_len] <;> omega) | fail)) only [admQ, lenB, Tr.row_len, Rf.cells_len, Nd.cells_len, TOp.cells_len, Tr.bl_len, aFill, AK.cls, implies_true, ↓reduceIte, reduceCtorEq, if_true, if_false, Nat.reduceAdd, Nat.reduceEqDiff, Nat.reduceMod, Nat.reduceLT, Nat.reduceLeDiff, Nat.reduceSub, Nat.reduceMul, Nat.reduceBEq, Int.reduceAdd, Int.reduceSub, Int.reduceMul, Int.reduceNeg, Int.reduceLT, Int.reduceLE, Int.reduceToNat, Int.reduceEq, Int.reduceBEq, c5, r5, hlx, dec_t, dec_f]
      refine (ans_trworks _).mono ?_
      rintro _ m1 ⟨rfl, k1⟩
      simp -implicitDefEqProofs (disch := (first | omega | (simp only [lenB, Tr.row_len, Rf.cells_len, Nd.cells_len, TOp.cells_len, Tr.bl_len] <;> omega) | fail)) only [admQ, lenB, Tr.row_len, Rf.cells_len, Nd.cells_len, TOp.cells_len, Tr.bl_len, aFill, AK.cls, implies_true, ↓reduceIte, reduceCtorEq, if_true, if_false, Nat.reduceAdd, Nat.reduceEqDiff, Nat.reduceMod, Nat.reduceLT, Nat.reduceLeDiff, Nat.reduceSub, Nat.reduceMul, Nat.reduceBEq, Int.reduceAdd, Int.reduceSub, Int.reduceMul, Int.reduceNeg, Int.reduceLT, Int.reduceLE, Int.reduceToNat, Int.reduceEq, Int.reduceBEq]
    · have hab : (a == b) = true := beq_iff_eq.mpr (hn.resolve_left h2)
      simp -implicitDefEqProofs (disch := (first | omega | (simp only [lenB, Tr.row_len, Rf.cells_len, Nd.cells_len, TOp.cells_len, Tr.bl_len] <;> omega) | fail)) only [admQ, lenB, Tr.row_len, Rf.cells_len, Nd.cells_len, TOp.cells_len, Tr.bl_len, aFill, AK.cls, implies_true, ↓reduceIte, reduceCtorEq, if_true, if_false, Nat.reduceAdd, Nat.reduceEqDiff, Nat.reduceMod, Nat.reduceLT, Nat.reduceLeDiff, Nat.reduceSub, Nat.reduceMul, Nat.reduceBEq, Int.reduceAdd, Int.reduceSub, Int.reduceMul, Int.reduceNeg, Int.reduceLT, Int.reduceLE, Int.reduceToNat, Int.reduceEq, Int.reduceBEq, c5, r5, hlx, dec_t, dec_f, hab]
      refine (ans_trworks _).mono ?_
      rintro _ m1 ⟨rfl, k1⟩
      simp -implicitDefEqProofs (disch := (first | omega | (simp only [lenB, Tr.row_len, Rf.cells_len, Nd.cells_len, TOp.cells_len, Tr.bl_len] <;> omega) | fail)) only [admQ, lenB, Tr.row_len, Rf.cells_len, Nd.cells_len, TOp.cells_len, Tr.bl_len, aFill, AK.cls, implies_true, ↓reduceIte, reduceCtorEq, if_true, if_false, Nat.reduceAdd, Nat.reduceEqDiff, Nat.reduceMod, Nat.reduceLT, Nat.reduceLeDiff, Nat.reduceSub, Nat.reduceMul, Nat.reduceBEq, Int.reduceAdd, Int.reduceSub, Int.reduceMul, Int.reduceNeg, Int.reduceLT, Int.reduceLE, Int.reduceToNat, Int.reduceEq, Int.reduceBEq]
  · have h2 : ¬ 200 < L.length := fun h => hn (.inl h)
    have hab : ¬ a = b := fun h => hn (.inr h)
    simp -implicitDefEqProofs (disch := (first | omega | (simp only [lenB, Tr.row_len, Rf.cells_len, Nd.cells_len, TOp.cells_len, Tr.bl_len] <;> omega) | fail)) only [admQ, lenB, Tr.row_len, Rf.cells_len, Nd.cells_len, TOp.cells_len, Tr.bl_len, aFill, AK.cls, implies_true, ↓reduceIte, reduceCtorEq, if_true, if_false, Nat.reduceAdd, Nat.reduceEqDiff, Nat.reduceMod, Nat.reduceLT, Nat.reduceLeDiff, Nat.reduceSub, Nat.reduceMul, Nat.reduceBEq, Int.reduceAdd, Int.reduceSub, Int.reduceMul, Int.reduceNeg, Int.reduceLT, Int.reduceLE, Int.reduceToNat, Int.reduceEq, Int.reduceBEq, c5, r5, hlx, dec_t, dec_f, beq_eq_false_iff_ne.mpr hab]
    have q8 : own (m ++ [.row r.cells false, .row s'.cells false]) m.length = some r.cells := by rw [own_app_at0, own_c0]
    have q9 : own (m ++ [.row r.cells false, .row s'.cells false]) (m.length + 1) = some s'.cells := by rw [own_app_at, own_c, own_c0]
    have k0 : Kept [] m (m ++ [.row r.cells false, .row s'.cells false]) := .app _ _ _
    have hl0 : (m ++ [Blk.row r.cells false, Blk.row s'.cells false]).length = m.length + 2 := by simp
    generalize m ++ [Blk.row r.cells false, Blk.row s'.cells false] = m0 at *
    refine (ans_trnew m0).mono ?_
    rintro _ m1 ⟨rfl, k1, p1⟩
    have hl1 := own_lt p1
    simp -implicitDefEqProofs (disch := (first | omega | (simp only [lenB, Tr.row_len, Rf.cells_len, Nd.cells_len, TOp.cells_len, Tr.bl_len] <;> omega) | fail)) only [admQ, lenB, Tr.row_len, Rf.cells_len, Nd.cells_len, TOp.cells_len, Tr.bl_len, aFill, AK.cls, implies_true, ↓reduceIte, reduceCtorEq, if_true, if_false, Nat.reduceAdd, Nat.reduceEqDiff, Nat.reduceMod, Nat.reduceLT, Nat.reduceLeDiff, Nat.reduceSub, Nat.reduceMul, Nat.reduceBEq, Int.reduceAdd, Int.reduceSub, Int.reduceMul, Int.reduceNeg, Int.reduceLT, Int.reduceLE, Int.reduceToNat, Int.reduceEq, Int.reduceBEq]
    refine (ans_trnew m1).mono ?_
    rintro _ m2 ⟨rfl, k2, p2⟩
    have hl2 := own_lt p2
    have p12 := k2.own0 p1
    have k02 := k1.trans k2
    simp -implicitDefEqProofs (disch := (first | omega | (simp only [lenB, Tr.row_len, Rf.cells_len, Nd.cells_len, TOp.cells_len, Tr.bl_len] <;> omega) | fail)) only [admQ, lenB, Tr.row_len, Rf.cells_len, Nd.cells_len, TOp.cells_len, Tr.bl_len, aFill, AK.cls, implies_true, ↓reduceIte, reduceCtorEq, if_true, if_false, Nat.reduceAdd, Nat.reduceEqDiff, Nat.reduceMod, Nat.reduceLT, Nat.reduceLeDiff, Nat.reduceSub, Nat.reduceMul, Nat.reduceBEq, Int.reduceAdd, Int.reduceSub, Int.reduceMul, Int.reduceNeg, Int.reduceLT, Int.reduceLE, Int.reduceToNat, Int.reduceEq, Int.reduceBEq]
    generalize hA : m0.length = A at *
    generalize hB : m1.length = B at *
    have q8' := k02.own0 q8
    have q9' := k02.own0 q9
    have k00 := k0.trans k02
    clear q8 q9 k0 k1 k2 p1 k02
    refine LoopW.on (fun s : Nat × Tr => [(0, x), (1, .int .i64 a), (2, .int .i64 b), (8, .ptr m.length 0), (9, .ptr (m.length + 1) 0), (11, .ptr A 0), (12, .ptr B 0), (13, .int .i64 s.1)]) (fun s => L.length - s.1)
      (fun s m' => s.1 ≤ L.length ∧ Kept [] m m' ∧ own m' A = some s.2.row ∧ own m' B = some s.2.row ∧ own m' m.length = some r.cells ∧ own m' (m.length + 1) = some s'.cells) ?_ (0, Tr.new) _ _ rfl ⟨by omega, k00, p12, p2, q8', q9'⟩
    clear k00 p12 p2 q8' q9' hl2 hA hB m0 m1 m2
    rintro ⟨j, t⟩ m1 X ⟨hj, k1, pA, pB, q8, q9⟩ hX
    dsimp only at hj k1 pA pB q8 q9 hX ⊢
    by_cases hlt : j < L.length
    · obtain ⟨bb, cap, c0, rfl, hr, e, el⟩ := (hx.kept0 k1).at_ hlt
      generalize ho : L[j] = o at *
      simp -implicitDefEqProofs (disch := (first | omega | (simp only [lenB, Tr.row_len, Rf.cells_len, Nd.cells_len, TOp.cells_len, Tr.bl_len] <;> omega) | fail)) only [admQ, lenB, Tr.row_len, Rf.cells_len, Nd.cells_len, TOp.cells_len, Tr.bl_len, aFill, AK.cls, implies_true, ↓reduceIte, reduceCtorEq, if_true, if_false, Nat.reduceAdd, Nat.reduceEqDiff, Nat.reduceMod, Nat.reduceLT, Nat.reduceLeDiff, Nat.reduceSub, Nat.reduceMul, Nat.reduceBEq, Int.reduceAdd, Int.reduceSub, Int.reduceMul, Int.reduceNeg, Int.reduceLT, Int.reduceLE, Int.reduceToNat, Int.reduceEq, Int.reduceBEq, hlx, dec_t, dec_f, hr, e]
      refine (ans_lawrun pA o).mono ?_
      rintro _ m2 ⟨-, k2, pA2⟩
      have pB2 := k2.own pB (by simp; omega)
      have q82 := k2.own q8 (by simp; omega)
      have q92 := k2.own q9 (by simp; omega)
      have kx2 := k1.upon k2 (fun q hq => by simp at hq; omega)
      obtain ⟨b2, cap2, c2, hb2, hr2, e2', el2⟩ := (hx.kept0 kx2).at_ hlt
      cases hb2
      rw [ho] at e2'
      simp -implicitDefEqProofs (disch := (first | omega | (simp only [lenB, Tr.row_len, Rf.cells_len, Nd.cells_len, TOp.cells_len, Tr.bl_len] <;> omega) | fail)) only [admQ, lenB, Tr.row_len, Rf.cells_len, Nd.cells_len, TOp.cells_len, Tr.bl_len, aFill, AK.cls, implies_true, ↓reduceIte, reduceCtorEq, if_true, if_false, Nat.reduceAdd, Nat.reduceEqDiff, Nat.reduceMod, Nat.reduceLT, Nat.reduceLeDiff, Nat.reduceSub, Nat.reduceMul, Nat.reduceBEq, Int.reduceAdd, Int.reduceSub, Int.reduceMul, Int.reduceNeg, Int.reduceLT, Int.reduceLE, Int.reduceToNat, Int.reduceEq, Int.reduceBEq, hr2, e2']
      refine (ans_lawrun pB2 o).mono ?_
      rintro _ m3 ⟨-, k3, pB3⟩
      have pA3 := k3.own pA2 (by simp; omega)
      have q83 := k3.own q82 (by simp; omega)
      have q93 := k3.own q92 (by simp; omega)
      have kx3 := kx2.upon k3 (fun q hq => by simp at hq; omega)
      simp -implicitDefEqProofs (disch := (first | omega | (simp only [lenB, Tr.row_len, Rf.cells_len, Nd.cells_len, TOp.cells_len, Tr.bl_len] <;> omega) | fail)) only [admQ, lenB, Tr.row_len, Rf.cells_len, Nd.cells_len, TOp.cells_len, Tr.bl_len, aFill, AK.cls, implies_true, ↓reduceIte, reduceCtorEq, if_true, if_false, Nat.reduceAdd, Nat.reduceEqDiff, Nat.reduceMod, Nat.reduceLT, Nat.reduceLeDiff, Nat.reduceSub, Nat.reduceMul, Nat.reduceBEq, Int.reduceAdd, Int.reduceSub, Int.reduceMul, Int.reduceNeg, Int.reduceLT, Int.reduceLE, Int.reduceToNat, Int.reduceEq, Int.reduceBEq]
      exact hX (j + 1, o.runT t) _ _ rfl (by simp; omega) ⟨by simp; omega, kx3, pA3, pB3, q83, q93⟩
    · obtain rfl : j = L.length := by omega
      clear hX k1
      have hpt := own_lt pA
      have hpt := own_lt pB
      have hc := put_comm t hab r s'
      have hd := put_dead t hab r s'
      have d1 := putR_len t a r
      have d2 := putR_len (t.putT a r) b s'
      have d3 := putR_len t b s'
      have d4 := putR_len (t.putT b s') a r
      simp -implicitDefEqProofs (disch := (first | omega | (simp only [lenB, Tr.row_len, Rf.cells_len, Nd.cells_len, TOp.cells_len, Tr.bl_len] <;> omega) | fail)) only [admQ, lenB, Tr.row_len, Rf.cells_len, Nd.cells_len, TOp.cells_len, Tr.bl_len, aFill, AK.cls, implies_true, ↓reduceIte, reduceCtorEq, if_true, if_false, Nat.reduceAdd, Nat.reduceEqDiff, Nat.reduceMod, Nat.reduceLT, Nat.reduceLeDiff, Nat.reduceSub, Nat.reduceMul, Nat.reduceBEq, Int.reduceAdd, Int.reduceSub, Int.reduceMul, Int.reduceNeg, Int.reduceLT, Int.reduceLE, Int.reduceToNat, Int.reduceEq, Int.reduceBEq, hlx, dec_t, dec_f, rowOf_own q8, take_rf]
      refine (ans_trput pA a r).mono ?_
      rintro _ m2 ⟨rfl, k2, pA2⟩
      have pB2 := k2.own pB (by simp; omega)
      have q82 := k2.own q8 (by simp; omega)
      have q92 := k2.own q9 (by simp; omega)
      simp -implicitDefEqProofs (disch := (first | omega | (simp only [lenB, Tr.row_len, Rf.cells_len, Nd.cells_len, TOp.cells_len, Tr.bl_len] <;> omega) | fail)) only [admQ, lenB, Tr.row_len, Rf.cells_len, Nd.cells_len, TOp.cells_len, Tr.bl_len, aFill, AK.cls, implies_true, ↓reduceIte, reduceCtorEq, if_true, if_false, Nat.reduceAdd, Nat.reduceEqDiff, Nat.reduceMod, Nat.reduceLT, Nat.reduceLeDiff, Nat.reduceSub, Nat.reduceMul, Nat.reduceBEq, Int.reduceAdd, Int.reduceSub, Int.reduceMul, Int.reduceNeg, Int.reduceLT, Int.reduceLE, Int.reduceToNat, Int.reduceEq, Int.reduceBEq, rowOf_own q82, rowOf_own q9, rowOf_own q92, take_rf]
      refine (ans_trput pA2 b s').mono ?_
      rintro _ m3 ⟨rfl, k3, pA3⟩
      have pB3 := k3.own pB2 (by simp; omega)
      have q83 := k3.own q82 (by simp; omega)
      have q93 := k3.own q92 (by simp; omega)
      simp -implicitDefEqProofs (disch := (first | omega | (simp only [lenB, Tr.row_len, Rf.cells_len, Nd.cells_len, TOp.cells_len, Tr.bl_len] <;> omega) | fail)) only [admQ, lenB, Tr.row_len, Rf.cells_len, Nd.cells_len, TOp.cells_len, Tr.bl_len, aFill, AK.cls, implies_true, ↓reduceIte, reduceCtorEq, if_true, if_false, Nat.reduceAdd, Nat.reduceEqDiff, Nat.reduceMod, Nat.reduceLT, Nat.reduceLeDiff, Nat.reduceSub, Nat.reduceMul, Nat.reduceBEq, Int.reduceAdd, Int.reduceSub, Int.reduceMul, Int.reduceNeg, Int.reduceLT, Int.reduceLE, Int.reduceToNat, Int.reduceEq, Int.reduceBEq, rowOf_own q82, rowOf_own q92, rowOf_own q83, rowOf_own q93, take_rf]
      refine (ans_trput pB3 b s').mono ?_
      rintro _ m4 ⟨rfl, k4, pB4⟩
      have pA4 := k4.own pA3 (by simp; omega)
      have q84 := k4.own q83 (by simp; omega)
      have q94 := k4.own q93 (by simp; omega)
      simp -implicitDefEqProofs (disch := (first | omega | (simp only [lenB, Tr.row_len, Rf.cells_len, Nd.cells_len, TOp.cells_len, Tr.bl_len] <;> omega) | fail)) only [admQ, lenB, Tr.row_len, Rf.cells_len, Nd.cells_len, TOp.cells_len, Tr.bl_len, aFill, AK.cls, implies_true, ↓reduceIte, reduceCtorEq, if_true, if_false, Nat.reduceAdd, Nat.reduceEqDiff, Nat.reduceMod, Nat.reduceLT, Nat.reduceLeDiff, Nat.reduceSub, Nat.reduceMul, Nat.reduceBEq, Int.reduceAdd, Int.reduceSub, Int.reduceMul, Int.reduceNeg, Int.reduceLT, Int.reduceLE, Int.reduceToNat, Int.reduceEq, Int.reduceBEq, rowOf_own q83, rowOf_own q93, rowOf_own q84, rowOf_own q94, take_rf]
      refine (ans_trput pB4 a r).mono ?_
      rintro _ m5 ⟨rfl, k5, pB5⟩
      have pA5 := k5.own pA4 (by simp; omega)
      have q85 := k5.own q84 (by simp; omega)
      have q95 := k5.own q94 (by simp; omega)
      rw [← hc] at pB5
      generalize (t.putT a r).putT b s' = u at *
      simp -implicitDefEqProofs (disch := (first | omega | (simp only [lenB, Tr.row_len, Rf.cells_len, Nd.cells_len, TOp.cells_len, Tr.bl_len] <;> omega) | fail)) only [admQ, lenB, Tr.row_len, Rf.cells_len, Nd.cells_len, TOp.cells_len, Tr.bl_len, aFill, AK.cls, implies_true, ↓reduceIte, reduceCtorEq, if_true, if_false, Nat.reduceAdd, Nat.reduceEqDiff, Nat.reduceMod, Nat.reduceLT, Nat.reduceLeDiff, Nat.reduceSub, Nat.reduceMul, Nat.reduceBEq, Int.reduceAdd, Int.reduceSub, Int.reduceMul, Int.reduceNeg, Int.reduceLT, Int.reduceLE, Int.reduceToNat, Int.reduceEq, Int.reduceBEq, rowOf_own q84, rowOf_own q94, rowOf_own q85, rowOf_own q95, take_rf]
      clear q8 q9 q82 q92 q83 q93 q84 q94 q85 q95 k2 k3 k4 k5 pA pB pA2 pB2 pA3 pB3 pA4 pB4
      refine LoopW.on (fun i : Nat => [(11, .ptr A 0), (12, .ptr B 0), (14, .int .i64 (((t.putR a r).length + ((t.putT a r).putR b s').length : Nat) : Int)), (15, .int .i64 (((t.putR b s').length + ((t.putT b s').putR a r).length : Nat) : Int)), (16, .int .i64 i)]) (fun i => 9 - i)
        (fun i m' => i ≤ 9 ∧ own m' A = some u.row ∧ own m' B = some u.row) ?_ 0 _ _ rfl ⟨by omega, pA5, pB5⟩
      clear pA5 pB5 m2 m3 m4 m5 X
      rintro i m2 X ⟨hi, pA, pB⟩ hX
      by_cases hilt : i < 9
      · simp -implicitDefEqProofs (disch := (first | omega | (simp only [lenB, Tr.row_len, Rf.cells_len, Nd.cells_len, TOp.cells_len, Tr.bl_len] <;> omega) | fail)) only [admQ, lenB, Tr.row_len, Rf.cells_len, Nd.cells_len, TOp.cells_len, Tr.bl_len, aFill, AK.cls, implies_true, ↓reduceIte, reduceCtorEq, if_true, if_false, Nat.reduceAdd, Nat.reduceEqDiff, Nat.reduceMod, Nat.reduceLT, Nat.reduceLeDiff, Nat.reduceSub, Nat.reduceMul, Nat.reduceBEq, Int.reduceAdd, Int.reduceSub, Int.reduceMul, Int.reduceNeg, Int.reduceLT, Int.reduceLE, Int.reduceToNat, Int.reduceEq, Int.reduceBEq, dec_t, dec_f]
        refine (ans_node pA i).mono ?_
        rintro _ m3 ⟨rfl, k3⟩
        have pA3 := k3.own0 pA
        have pB3 := k3.own0 pB
        simp -implicitDefEqProofs (disch := (first | omega | (simp only [lenB, Tr.row_len, Rf.cells_len, Nd.cells_len, TOp.cells_len, Tr.bl_len] <;> omega) | fail)) only [admQ, lenB, Tr.row_len, Rf.cells_len, Nd.cells_len, TOp.cells_len, Tr.bl_len, aFill, AK.cls, implies_true, ↓reduceIte, reduceCtorEq, if_true, if_false, Nat.reduceAdd, Nat.reduceEqDiff, Nat.reduceMod, Nat.reduceLT, Nat.reduceLeDiff, Nat.reduceSub, Nat.reduceMul, Nat.reduceBEq, Int.reduceAdd, Int.reduceSub, Int.reduceMul, Int.reduceNeg, Int.reduceLT, Int.reduceLE, Int.reduceToNat, Int.reduceEq, Int.reduceBEq, rf_zero, splice_rf]
        refine (ans_node (own_app pB3 _) i).mono ?_
        rintro _ m4 ⟨rfl, k4⟩
        have pA4 := k4.own0 (own_app pA3 _)
        have pB4 := k4.own0 (own_app pB3 _)
        have hn3 : own m4 m3.length = some (u.nodeR i).cells := k4.own0 (by rw [own_app_at0, own_c0])
        have hl3 := own_lt hn3
        generalize m3.length = n3 at *
        simp -implicitDefEqProofs (disch := (first | omega | (simp only [lenB, Tr.row_len, Rf.cells_len, Nd.cells_len, TOp.cells_len, Tr.bl_len] <;> omega) | fail)) only [admQ, lenB, Tr.row_len, Rf.cells_len, Nd.cells_len, TOp.cells_len, Tr.bl_len, aFill, AK.cls, implies_true, ↓reduceIte, reduceCtorEq, if_true, if_false, Nat.reduceAdd, Nat.reduceEqDiff, Nat.reduceMod, Nat.reduceLT, Nat.reduceLeDiff, Nat.reduceSub, Nat.reduceMul, Nat.reduceBEq, Int.reduceAdd, Int.reduceSub, Int.reduceMul, Int.reduceNeg, Int.reduceLT, Int.reduceLE, Int.reduceToNat, Int.reduceEq, Int.reduceBEq, rf_zero, splice_rf]
        have pA5 := own_app pA4 [.row (u.nodeR i).cells false]
        have pB5 := own_app pB4 [.row (u.nodeR i).cells false]
        have hn5 := own_app hn3 [.row (u.nodeR i).cells false]
        have hn6 : own (m4 ++ [.row (u.nodeR i).cells false]) m4.length = some (u.nodeR i).cells := by rw [own_app_at0, own_c0]
        generalize m4 ++ [Blk.row (u.nodeR i).cells false] = m5 at *
        refine (ans_page pA5 i).mono ?_
        rintro _ m6 ⟨rfl, k6⟩
        have pA6 := k6.own0 pA5
        simp -implicitDefEqProofs (disch := (first | omega | (simp only [lenB, Tr.row_len, Rf.cells_len, Nd.cells_len, TOp.cells_len, Tr.bl_len] <;> omega) | fail)) only [admQ, lenB, Tr.row_len, Rf.cells_len, Nd.cells_len, TOp.cells_len, Tr.bl_len, aFill, AK.cls, implies_true, ↓reduceIte, reduceCtorEq, if_true, if_false, Nat.reduceAdd, Nat.reduceEqDiff, Nat.reduceMod, Nat.reduceLT, Nat.reduceLeDiff, Nat.reduceSub, Nat.reduceMul, Nat.reduceBEq, Int.reduceAdd, Int.reduceSub, Int.reduceMul, Int.reduceNeg, Int.reduceLT, Int.reduceLE, Int.reduceToNat, Int.reduceEq, Int.reduceBEq]
        refine (ans_page (k6.own0 pB5) i).mono ?_
        rintro _ m7 ⟨rfl, k7⟩
        have k67 := k6.trans k7
        have ep := aEq_pg (u.pageF i)
        rw [show tab 8 (u.pageF i) = u.page i from rfl] at ep
        have er := aEq_rf' (u.nodeR i) (u.nodeR i)
        have hb : (u.nodeR i == u.nodeR i) = true := beq_self_eq_true _
        have hb2 : (u.nodeB i == u.nodeB i) = true := beq_self_eq_true _
        simp -implicitDefEqProofs (disch := (first | omega | (simp only [lenB, Tr.row_len, Rf.cells_len, Nd.cells_len, TOp.cells_len, Tr.bl_len] <;> omega) | fail)) only [admQ, lenB, Tr.row_len, Rf.cells_len, Nd.cells_len, TOp.cells_len, Tr.bl_len, aFill, AK.cls, implies_true, ↓reduceIte, reduceCtorEq, if_true, if_false, Nat.reduceAdd, Nat.reduceEqDiff, Nat.reduceMod, Nat.reduceLT, Nat.reduceLeDiff, Nat.reduceSub, Nat.reduceMul, Nat.reduceBEq, Int.reduceAdd, Int.reduceSub, Int.reduceMul, Int.reduceNeg, Int.reduceLT, Int.reduceLE, Int.reduceToNat, Int.reduceEq, Int.reduceBEq, ep, er, hb, hb2, take_rf, rowOf_own (k67.own0 hn5), rowOf_own (k67.own0 hn6)]
        exact hX (i + 1) _ _ rfl (by omega) ⟨by omega, k7.own0 pA6, k7.own0 (k6.own0 pB5)⟩
      · obtain rfl : i = 9 := by omega
        clear hX
        have hb : (((t.putR a r).length + ((t.putT a r).putR b s').length : Nat) : Int) == (((t.putR b s').length + ((t.putT b s').putR a r).length : Nat) : Int) := by rw [hd]; exact beq_self_eq_true _
        simp -implicitDefEqProofs (disch := (first | omega | (simp only [lenB, Tr.row_len, Rf.cells_len, Nd.cells_len, TOp.cells_len, Tr.bl_len] <;> omega) | fail)) only [admQ, lenB, Tr.row_len, Rf.cells_len, Nd.cells_len, TOp.cells_len, Tr.bl_len, aFill, AK.cls, implies_true, ↓reduceIte, reduceCtorEq, if_true, if_false, Nat.reduceAdd, Nat.reduceEqDiff, Nat.reduceMod, Nat.reduceLT, Nat.reduceLeDiff, Nat.reduceSub, Nat.reduceMul, Nat.reduceBEq, Int.reduceAdd, Int.reduceSub, Int.reduceMul, Int.reduceNeg, Int.reduceLT, Int.reduceLE, Int.reduceToNat, Int.reduceEq, Int.reduceBEq, dec_t, dec_f, hb]
        refine (ans_refs pA).mono ?_
        rintro y m3 ⟨hy, k3⟩
        have pA3 := k3.own0 pA
        have pB3 := k3.own0 pB
        simp -implicitDefEqProofs (disch := (first | omega | (simp only [lenB, Tr.row_len, Rf.cells_len, Nd.cells_len, TOp.cells_len, Tr.bl_len] <;> omega) | fail)) only [admQ, lenB, Tr.row_len, Rf.cells_len, Nd.cells_len, TOp.cells_len, Tr.bl_len, aFill, AK.cls, implies_true, ↓reduceIte, reduceCtorEq, if_true, if_false, Nat.reduceAdd, Nat.reduceEqDiff, Nat.reduceMod, Nat.reduceLT, Nat.reduceLeDiff, Nat.reduceSub, Nat.reduceMul, Nat.reduceBEq, Int.reduceAdd, Int.reduceSub, Int.reduceMul, Int.reduceNeg, Int.reduceLT, Int.reduceLE, Int.reduceToNat, Int.reduceEq, Int.reduceBEq]
        refine (ans_refs pB3).mono ?_
        rintro z m4 ⟨hz, k4⟩
        have pA4 := k4.own0 pA3
        have pB4 := k4.own0 pB3
        simp -implicitDefEqProofs (disch := (first | omega | (simp only [lenB, Tr.row_len, Rf.cells_len, Nd.cells_len, TOp.cells_len, Tr.bl_len] <;> omega) | fail)) only [admQ, lenB, Tr.row_len, Rf.cells_len, Nd.cells_len, TOp.cells_len, Tr.bl_len, aFill, AK.cls, implies_true, ↓reduceIte, reduceCtorEq, if_true, if_false, Nat.reduceAdd, Nat.reduceEqDiff, Nat.reduceMod, Nat.reduceLT, Nat.reduceLeDiff, Nat.reduceSub, Nat.reduceMul, Nat.reduceBEq, Int.reduceAdd, Int.reduceSub, Int.reduceMul, Int.reduceNeg, Int.reduceLT, Int.reduceLE, Int.reduceToNat, Int.reduceEq, Int.reduceBEq]
        refine (ans_samerefs (hy.kept0 k4) hz (by have := refs_len u; omega)).mono ?_
        rintro _ _ ⟨rfl, rfl⟩
        simp -implicitDefEqProofs (disch := (first | omega | (simp only [lenB, Tr.row_len, Rf.cells_len, Nd.cells_len, TOp.cells_len, Tr.bl_len] <;> omega) | fail)) only [admQ, lenB, Tr.row_len, Rf.cells_len, Nd.cells_len, TOp.cells_len, Tr.bl_len, aFill, AK.cls, implies_true, ↓reduceIte, reduceCtorEq, if_true, if_false, Nat.reduceAdd, Nat.reduceEqDiff, Nat.reduceMod, Nat.reduceLT, Nat.reduceLeDiff, Nat.reduceSub, Nat.reduceMul, Nat.reduceBEq, Int.reduceAdd, Int.reduceSub, Int.reduceMul, Int.reduceNeg, Int.reduceLT, Int.reduceLE, Int.reduceToNat, Int.reduceEq, Int.reduceBEq, dec_t]
        refine (ans_dirty pA4).mono ?_
        rintro y2 m5 ⟨hy2, k5⟩
        have pB5 := k5.own0 pB4
        simp -implicitDefEqProofs (disch := (first | omega | (simp only [lenB, Tr.row_len, Rf.cells_len, Nd.cells_len, TOp.cells_len, Tr.bl_len] <;> omega) | fail)) only [admQ, lenB, Tr.row_len, Rf.cells_len, Nd.cells_len, TOp.cells_len, Tr.bl_len, aFill, AK.cls, implies_true, ↓reduceIte, reduceCtorEq, if_true, if_false, Nat.reduceAdd, Nat.reduceEqDiff, Nat.reduceMod, Nat.reduceLT, Nat.reduceLeDiff, Nat.reduceSub, Nat.reduceMul, Nat.reduceBEq, Int.reduceAdd, Int.reduceSub, Int.reduceMul, Int.reduceNeg, Int.reduceLT, Int.reduceLE, Int.reduceToNat, Int.reduceEq, Int.reduceBEq]
        refine (ans_dirty pB5).mono ?_
        rintro z2 m6 ⟨hz2, k6⟩
        simp -implicitDefEqProofs (disch := (first | omega | (simp only [lenB, Tr.row_len, Rf.cells_len, Nd.cells_len, TOp.cells_len, Tr.bl_len] <;> omega) | fail)) only [admQ, lenB, Tr.row_len, Rf.cells_len, Nd.cells_len, TOp.cells_len, Tr.bl_len, aFill, AK.cls, implies_true, ↓reduceIte, reduceCtorEq, if_true, if_false, Nat.reduceAdd, Nat.reduceEqDiff, Nat.reduceMod, Nat.reduceLT, Nat.reduceLeDiff, Nat.reduceSub, Nat.reduceMul, Nat.reduceBEq, Int.reduceAdd, Int.reduceSub, Int.reduceMul, Int.reduceNeg, Int.reduceLT, Int.reduceLE, Int.reduceToNat, Int.reduceEq, Int.reduceBEq]
        refine (ans_sameints (hy2.kept0 k6) hz2 (by have := u.dirtyIn_len dOrd; have : dOrd.length = 9 := rfl; unfold Tr.dirtyL; omega)).mono ?_
        rintro _ _ ⟨rfl, rfl⟩
        simp -implicitDefEqProofs (disch := (first | omega | (simp only [lenB, Tr.row_len, Rf.cells_len, Nd.cells_len, TOp.cells_len, Tr.bl_len] <;> omega) | fail)) only [admQ, lenB, Tr.row_len, Rf.cells_len, Nd.cells_len, TOp.cells_len, Tr.bl_len, aFill, AK.cls, implies_true, ↓reduceIte, reduceCtorEq, if_true, if_false, Nat.reduceAdd, Nat.reduceEqDiff, Nat.reduceMod, Nat.reduceLT, Nat.reduceLeDiff, Nat.reduceSub, Nat.reduceMul, Nat.reduceBEq, Int.reduceAdd, Int.reduceSub, Int.reduceMul, Int.reduceNeg, Int.reduceLT, Int.reduceLE, Int.reduceToNat, Int.reduceEq, Int.reduceBEq, dec_t]
        refine (ans_trworks _).mono ?_
        rintro _ m7 ⟨rfl, k7⟩
        simp -implicitDefEqProofs (disch := (first | omega | (simp only [lenB, Tr.row_len, Rf.cells_len, Nd.cells_len, TOp.cells_len, Tr.bl_len] <;> omega) | fail)) only [admQ, lenB, Tr.row_len, Rf.cells_len, Nd.cells_len, TOp.cells_len, Tr.bl_len, aFill, AK.cls, implies_true, ↓reduceIte, reduceCtorEq, if_true, if_false, Nat.reduceAdd, Nat.reduceEqDiff, Nat.reduceMod, Nat.reduceLT, Nat.reduceLeDiff, Nat.reduceSub, Nat.reduceMul, Nat.reduceBEq, Int.reduceAdd, Int.reduceSub, Int.reduceMul, Int.reduceNeg, Int.reduceLT, Int.reduceLE, Int.reduceToNat, Int.reduceEq, Int.reduceBEq]
end Go.Proofs.Ytmklcealhjmlgaa
end
section
/- The tree of blocks: what is always so; all dirty nodes saved, and loaded anew, purely. -/
namespace Go.Proofs.Ytmklcealhjmlgaa
open Go Go.Adm
set_option linter.unusedSimpArgs false
def Tr.LeafOk (t : Tr) (i : Nat) : Prop := (t.n i = Nd.none ∧ ¬ t.some i) ∨ (t.n i = Nd.dirty ∧ t.some i) ∨ ((t.n i).st = 1 ∧ 1 ≤ (t.n i).ref.at_ ∧ t.some i)
def Tr.RootOk (t : Tr) : Prop := t.n 0 = Nd.dirty ∨ ((t.n 0).st = 1 ∧ if t.mapped = 0 then (t.n 0).ref = Rf.zero else 1 ≤ (t.n 0).ref.at_)
structure Tr.Inv (t : Tr) : Prop where
  ok : t.Ok
  leaf : ∀ i, 1 ≤ i → i ≤ 8 → t.LeafOk i
  root : t.RootOk
theorem new_n0 : Tr.new.n 0 = ⟨1, Rf.zero⟩ := rfl
theorem new_n {i : Nat} (h : 1 ≤ i) (h2 : i ≤ 8) : Tr.new.n i = Nd.none := by
  have : i = 1 ∨ i = 2 ∨ i = 3 ∨ i = 4 ∨ i = 5 ∨ i = 6 ∨ i = 7 ∨ i = 8 := by omega
  rcases this with h | h | h | h | h | h | h | h <;> subst h <;> rfl
theorem new_b (i : Nat) : Tr.new.b i = Rf.zero := by
  have e : Tr.new.bl[i]? = if i < 64 then some Rf.zero else none := List.getElem?_replicate
  rw [Tr.b, List.getD_eq_getElem?_getD, e]
  split <;> rfl
theorem new_inv : Tr.new.Inv := by
  refine ⟨new_ok, fun i h1 h2 => .inl ⟨new_n h1 h2, ?_⟩, .inr ⟨rfl, by decide +kernel⟩⟩
  rintro ⟨j, _, h⟩
  exact h (new_b _)
theorem put_inv {t : Tr} (h : t.Inv) (k : Int) (r : Rf) : (t.putT k r).Inv := by
  have hn := putT_n t k r
  refine ⟨fun i hi => ?_, fun i h1 h2 => ?_, ?_⟩
  · rw [putT_b]
    split
    · split
      · exact .inr (by omega)
      · exact .inl rfl
    · exact h.ok i hi
  · have hs : (t.act k r → i ≠ k.toNat / 8 + 1) → ((t.putT k r).some i ↔ t.some i) := fun h => some_put h h1
    have hl := h.leaf i h1 h2
    unfold Tr.LeafOk at *
    rw [hn i]
    by_cases ha : t.act k r
    · rw [if_pos ha, if_neg (by omega)]
      by_cases e : i = k.toNat / 8 + 1
      · rw [if_pos e]
        by_cases hz : (t.putT k r).some i
        · rw [if_pos hz]; exact .inr (.inl ⟨rfl, hz⟩)
        · rw [if_neg hz]; exact .inl ⟨rfl, hz⟩
      · rw [if_neg e, hs fun _ => e]; exact hl
    · rw [if_neg ha, hs fun h => absurd h ha]; exact hl
  · have hr := h.root
    unfold Tr.RootOk at *
    rw [hn 0]
    by_cases ha : t.act k r
    · rw [if_pos ha, if_pos rfl]; exact .inl rfl
    · rw [if_neg ha]
      have e : (t.putT k r).bl = t.bl := List.ext_getElem? fun i => by
        by_cases h' : i < 64
        · rw [Tr.b_get _ h', Tr.b_get _ h', putT_b, if_neg (fun h => ha h.1)]
        · rw [List.getElem?_eq_none (by rw [Tr.hb]; omega), List.getElem?_eq_none (by rw [Tr.hb]; omega)]
      simp only [Tr.mapped, e] at *
      exact hr
theorem some_bl {s t : Tr} (h : s.bl = t.bl) (i : Nat) : s.some i ↔ t.some i := by simp only [Tr.some, Tr.b, h]
theorem mapped_bl {s t : Tr} (h : s.bl = t.bl) : s.mapped = t.mapped := by simp only [Tr.mapped, h]
theorem setN_bl (t : Tr) (i : Nat) (x : Nd) : (t.setN i x).bl = t.bl := rfl
theorem spoil_bl (l : List Nat) : ∀ t : Tr, (t.spoilT l).bl = t.bl := by
  induction l with
  | nil => intro t; rfl
  | cons j l ih => intro t; rw [Tr.spoilT, ih]; rfl
theorem touch_inv {t : Tr} (h : t.Inv) (k : Int) : (t.touchT k).Inv := by
  unfold Tr.touchT
  by_cases hk : t.touchOk k
  · rw [if_pos hk]
    have hk9 := Tr.node_lt hk.1
    obtain ⟨k, rfl⟩ := Int.eq_ofNat_of_zero_le hk9.1
    have hk8 : k ≤ 8 := by omega
    rw [Tr.touchOk, t.node_nat hk8] at hk
    have hn : ∀ i, (t.spoilT (Tr.touchL k)).n i = if i = 0 ∨ i = k then Nd.dirty else t.n i := fun i => by
      by_cases h0 : k = 0
      · subst h0
        simp only [Tr.touchL, Int.natCast_zero, if_true, Tr.spoilT]
        rw [Tr.setN_n _ _ _ _ (by omega)]
        by_cases e : 0 = i
        · rw [if_pos e, if_pos (.inl e.symm)]
        · rw [if_neg e, if_neg (by omega)]
      · rw [Tr.touchL, if_neg (by omega), Int.toNat_natCast, spoil2_n _ (by omega)]
    have hb := spoil_bl (Tr.touchL k) t
    refine ⟨fun i hi => by have := h.ok i hi; simp only [Tr.b, hb] at *; exact this, fun i h1 h2 => ?_, .inl (by rw [hn, if_pos (.inl rfl)])⟩
    have hl := h.leaf i h1 h2
    unfold Tr.LeafOk at *
    rw [hn, some_bl hb]
    by_cases e : i = k
    · subst e
      rw [if_pos (.inr rfl)]
      refine .inr (.inl ⟨rfl, ?_⟩)
      rcases hl with ⟨h3, _⟩ | ⟨h3, _⟩ | ⟨_, _, h3⟩
      · rw [h3] at hk; exact absurd hk.1 (by decide)
      · rw [h3] at hk; exact absurd hk.1 (by decide)
      · exact h3
    · rw [if_neg (by omega)]; exact hl
  · rw [if_neg hk]; exact h
theorem saved_inv {t : Tr} (h : t.Inv) (k : Int) (r : Rf) : (t.savedT k r).Inv := by
  unfold Tr.savedT
  by_cases he : t.savedE k r = 0
  · rw [if_pos he]
    have hd := savedE_dirty he
    obtain ⟨h1, h2, h3⟩ := id hd
    obtain ⟨k, rfl⟩ := Int.eq_ofNat_of_zero_le h1
    rw [Int.toNat_natCast] at h3 ⊢
    have hk9 : k < 9 := by omega
    refine ⟨fun i hi => h.ok i hi, fun i g1 g2 => ?_, ?_⟩
    · have hl := h.leaf i g1 g2
      unfold Tr.LeafOk at *
      rw [Tr.setN_n _ _ _ _ hk9, some_bl (setN_bl t k ⟨1, r⟩)]
      by_cases e : k = i
      · subst e
        rw [if_pos rfl]
        refine .inr (.inr ⟨rfl, ?_, ?_⟩)
        · rw [Tr.savedE, if_neg (by rintro (h' | h'); exact h' hd; omega), if_neg (by omega)] at he
          split at he
          · cases he
          · show 1 ≤ r.at_
            omega
        · rcases hl with ⟨h4, _⟩ | ⟨_, h4⟩ | ⟨h4, _⟩
          · rw [h4] at h3; exact absurd h3 (by decide)
          · exact h4
          · rw [h4] at h3; exact absurd h3 (by decide)
      · rw [if_neg e]; exact hl
    · have hr := h.root
      unfold Tr.RootOk at *
      rw [Tr.setN_n _ _ _ _ hk9, mapped_bl (setN_bl t k ⟨1, r⟩)]
      by_cases e : k = 0
      · subst e
        rw [if_pos rfl]
        refine .inr ⟨rfl, ?_⟩
        have hg : ¬ (¬ t.isDirty ((0 : Nat) : Int) ∨ ((0 : Nat) : Int) = 0 ∧ 1 < t.dirtyL.length) := fun h' => by
          rw [Tr.savedE, if_pos h'] at he; cases he
        rw [Tr.savedE, if_neg hg] at he
        by_cases hm : t.mapped = 0
        · rw [if_pos hm]
          rw [if_pos ⟨rfl, hm⟩] at he
          split at he
          · assumption
          · cases he
        · rw [if_neg hm]
          rw [if_neg (fun h => hm h.2)] at he
          split at he
          · cases he
          · show 1 ≤ r.at_
            omega
      · rw [if_neg e]; exact hr
  · rw [if_neg he]; exact h
theorem run_inv {t : Tr} (h : t.Inv) (o : TOp) : (o.runT t).Inv := by
  unfold TOp.runT
  split
  · have e : t.setT o.n o.r = if 0 < o.r.at_ then t.putT o.n o.r else t := by
      split
      · rename_i h; rw [Tr.putT, if_pos h]
      · rename_i h; rw [Tr.setT, if_neg (fun h' : Tr.setOk _ _ => h (by have := h'.2; omega))]
    rw [e]
    split
    · exact put_inv h _ _
    · exact h
  · split
    · have e : t.delT o.n = t.putT o.n Rf.zero := by rw [Tr.putT, if_neg (by decide)]
      rw [e]; exact put_inv h _ _
    · split
      · exact touch_inv h _
      · split
        · exact saved_inv h _ _
        · exact h
/-- The dirty nodes, but one that was saved. -/
theorem dirty_setN (t : Tr) {k : Nat} (hk : k < 9) (r : Rf) : (t.setN k ⟨1, r⟩).dirtyL = t.dirtyL.filter fun i => decide (i ≠ k) := by
  unfold Tr.dirtyL Tr.dirtyIn
  rw [List.filter_filter]
  apply List.filter_congr
  intro i _
  rw [Tr.setN_n _ _ _ _ hk]
  by_cases e : k = i
  · subst e; simp
  · have e2 : i ≠ k := fun h => e h.symm
    rw [if_neg e, decide_eq_true e2, Bool.true_and]
theorem Tr.dirty_nodup (t : Tr) : t.dirtyL.Nodup := List.Nodup.sublist List.filter_sublist (by decide)
theorem dirty_next {t : Tr} {k : Nat} {l : List Nat} (h : t.dirtyL = k :: l) (r : Rf) : (t.setN k ⟨1, r⟩).dirtyL = l := by
  have hn := t.dirty_nodup
  have hk : k < 9 := Tr.dirty_lt (t := t) (by rw [h]; exact List.mem_cons_self ..)
  rw [dirty_setN t hk, h, List.filter_cons, if_neg (by simp)]
  rw [h] at hn
  apply List.filter_eq_self.mpr
  intro i hi
  have := (List.nodup_cons.mp hn).1
  exact decide_eq_true fun e => this (e ▸ hi)
theorem dirty_zero {t : Tr} {l : List Nat} (h : t.dirtyL = 0 :: l) : l = [] := by
  have e : t.dirtyL = t.dirtyIn [1, 2, 3, 4, 5, 6, 7, 8] ++ t.dirtyIn [0] := by
    rw [Tr.dirtyL, dOrd, Tr.dirtyIn, Tr.dirtyIn, Tr.dirtyIn, ← List.filter_append]; rfl
  rw [e] at h
  cases h1 : t.dirtyIn [1, 2, 3, 4, 5, 6, 7, 8] with
  | nil =>
    rw [h1, List.nil_append] at h
    have := t.dirtyIn_len [0]
    rw [h] at this
    simp at this
    exact this
  | cons a l1 =>
    rw [h1, List.cons_append, List.cons.injEq] at h
    have : a ∈ t.dirtyIn [1, 2, 3, 4, 5, 6, 7, 8] := by rw [h1]; exact List.mem_cons_self ..
    have := (List.mem_filter.mp this).1
    rw [h.1] at this
    simp at this
/-- Saving the first dirty node. -/
theorem save_first {t : Tr} {k : Nat} {l : List Nat} (h : t.dirtyL = k :: l) {r : Rf} (hr : if k = 0 ∧ t.mapped = 0 then r = Rf.zero else 1 ≤ r.at_) :
    t.savedE (k : Int) r = 0 ∧ (t.savedT (k : Int) r).dirtyL = l ∧ (t.savedT (k : Int) r).bl = t.bl := by
  have hd : t.isDirty (k : Int) := (t.isDirty_mem k).mp ⟨k, by rw [h]; exact List.mem_cons_self .., rfl⟩
  have he : t.savedE (k : Int) r = 0 := by
    rw [Tr.savedE, if_neg]
    · by_cases hc : k = 0 ∧ t.mapped = 0
      · rw [if_pos hc] at hr
        rw [if_pos ⟨by omega, hc.2⟩, if_pos hr]
      · rw [if_neg hc] at hr
        rw [if_neg (fun h => hc ⟨by omega, h.2⟩), if_neg (by omega)]
    · rintro (h1 | ⟨h1, h2⟩)
      · exact h1 hd
      · obtain rfl : k = 0 := by omega
        rw [h, dirty_zero h] at h2
        simp at h2
  refine ⟨he, ?_, ?_⟩
  · rw [Tr.savedT, if_pos he, Int.toNat_natCast]; exact dirty_next h r
  · rw [Tr.savedT, if_pos he]; rfl
theorem clean_st {t : Tr} (h : t.dirtyL = []) {i : Nat} (hi : i < 9) : (t.n i).st ≠ 2 := by
  intro e
  have : i ∈ t.dirtyL := List.mem_filter.mpr ⟨by
    have : i = 0 ∨ i = 1 ∨ i = 2 ∨ i = 3 ∨ i = 4 ∨ i = 5 ∨ i = 6 ∨ i = 7 ∨ i = 8 := by omega
    simp only [dOrd, List.mem_cons, List.not_mem_nil, or_false]; omega, decide_eq_true e⟩
  rw [h] at this; cases this
/-- The beginning of a tree. -/
def Tr.part (t x : Tr) (i : Nat) : Prop := x.n 0 = t.n 0 ∧ (∀ j, 1 ≤ j → j ≤ 8 → x.n j = if j < i then t.n j else Nd.none) ∧ ∀ j, j < 64 → x.b j = if j < 8 * (i - 1) then t.b j else Rf.zero
theorem low_ok {t : Tr} (h : t.Ok) {i : Nat} (hi : i < 64) : (t.b i).low = t.b i := by
  unfold Rf.low
  rcases h i hi with h | h
  · rw [h]; rfl
  · rw [if_neg (by omega)]
theorem load_root {t : Tr} (h : t.Inv) (hd : t.dirtyL = []) (h1 : 0 < (t.n 0).ref.at_) : Tr.new.loadE 0 (t.pageF 0) (t.n 0).ref = 0 ∧ t.part (Tr.new.loadT 0 (t.pageF 0) (t.n 0).ref) 1 := by
  have hs : (t.n 0).st = 1 := by
    rcases h.root with h | h
    · exact absurd (by rw [h]; rfl) (clean_st hd (show 0 < 9 by omega))
    · exact h.1
  have he : Tr.new.loadE 0 (t.pageF 0) (t.n 0).ref = 0 := by
    rw [Tr.loadE, if_neg (by omega), if_neg (fun h => h (.inr new_n0)), if_neg (by omega)]
  refine ⟨he, ?_⟩
  rw [Tr.loadT, if_pos he, Tr.loadS, if_pos rfl]
  refine ⟨?_, fun j g1 g2 => ?_, fun j hj => ?_⟩
  · rw [Tr.setN_n _ _ _ _ (by decide), if_pos (show (0 : Int).toNat = 0 from rfl), ← hs]
  · rw [Tr.setN_n _ _ _ _ (by decide), if_neg (by show ¬ (0 : Int).toNat = j; simp; omega), new_n g1 g2, if_neg (by omega)]
  · rw [Tr.setN_b, new_b, if_neg (by omega)]
theorem part_new {t : Tr} (h : t.Inv) (hd : t.dirtyL = []) (h1 : ¬ 0 < (t.n 0).ref.at_) : t.part Tr.new 1 := by
  refine ⟨?_, fun j g1 g2 => by rw [new_n g1 g2, if_neg (by omega)], fun j hj => by rw [new_b, if_neg (by omega)]⟩
  rcases h.root with h | ⟨h2, h3⟩
  · exact absurd (by rw [h]; rfl) (clean_st hd (show 0 < 9 by omega))
  · split at h3
    · rw [new_n0, ← h3, ← h2]
    · omega
theorem load_leaf {t x : Tr} (h : t.Inv) {i : Nat} (h1 : 1 ≤ i) (h8 : i ≤ 8) (hp : t.part x i) (hs : (t.n i).st = 1) :
    x.loadE (i : Int) (t.pageF i) (t.n i).ref = 0 ∧ t.part (x.loadT (i : Int) (t.pageF i) (t.n i).ref) (i + 1) := by
  have hl : 1 ≤ (t.n i).ref.at_ ∧ t.some i := by
    rcases h.leaf i h1 h8 with ⟨h, _⟩ | ⟨h, _⟩ | ⟨_, h⟩
    · rw [h] at hs; exact absurd hs (by decide)
    · rw [h] at hs; exact absurd hs (by decide)
    · exact h
  have hpf : ∀ j, t.pageF (i : Int) j = t.b (8 * (i - 1) + j) := fun j => by
    rw [Tr.pageF, if_neg (by omega), if_pos (by omega), Int.toNat_natCast]
  have hsome : pgSome (t.pageF (i : Int)) := by
    obtain ⟨j, hj, hz⟩ := hl.2
    refine ⟨j, hj, ?_⟩
    rw [hpf]
    rcases h.ok (8 * (i - 1) + j) (by omega) with h | h
    · exact absurd h hz
    · omega
  have hn : x.n i = Nd.none := by rw [hp.2.1 i h1 h8, if_neg (by omega)]
  have he : x.loadE (i : Int) (t.pageF i) (t.n i).ref = 0 := by
    rw [Tr.loadE, if_neg (by omega), Int.toNat_natCast, if_neg (fun h => h (.inl hn)), if_neg (fun h => h.2 hsome)]
  refine ⟨he, ?_⟩
  rw [Tr.loadT, if_pos he, Tr.loadS, if_neg (by omega), Int.toNat_natCast]
  refine ⟨?_, fun j g1 g2 => ?_, fun j hj => ?_⟩
  · rw [Tr.setN_n _ _ _ _ (by omega), if_neg (by omega), Tr.setSpan_n, hp.1]
  · rw [Tr.setN_n _ _ _ _ (by omega), Tr.setSpan_n, hp.2.1 j g1 g2]
    by_cases e : i = j
    · subst e; rw [if_pos rfl, if_pos (by omega), ← hs]
    · rw [if_neg e]
      by_cases e2 : j < i
      · rw [if_pos e2, if_pos (by omega)]
      · rw [if_neg e2, if_neg (by omega)]
  · rw [Tr.setN_b, Tr.setSpan_b _ (by omega), hp.2.2 j hj]
    by_cases e : 8 * (i - 1) ≤ j ∧ j < 8 * (i - 1) + 8
    · rw [if_pos e, if_pos (by omega), hpf, show 8 * (i - 1) + (j - 8 * (i - 1)) = j by omega, low_ok h.ok hj]
    · rw [if_neg e]
      by_cases e2 : j < 8 * (i - 1)
      · rw [if_pos e2, if_pos (by omega)]
      · rw [if_neg e2, if_neg (by omega)]
theorem skip_leaf {t x : Tr} (h : t.Inv) (hd : t.dirtyL = []) {i : Nat} (h1 : 1 ≤ i) (h8 : i ≤ 8) (hp : t.part x i) (hs : (t.n i).st ≠ 1) : t.part x (i + 1) := by
  have hl : t.n i = Nd.none ∧ ¬ t.some i := by
    rcases h.leaf i h1 h8 with h | ⟨h, _⟩ | ⟨h, _⟩
    · exact h
    · exact absurd (by rw [h]; rfl) (clean_st hd (show i < 9 by omega))
    · exact absurd h hs
  refine ⟨hp.1, fun j g1 g2 => ?_, fun j hj => ?_⟩
  · rw [hp.2.1 j g1 g2]
    by_cases e : i = j
    · subst e; rw [if_neg (by omega), if_pos (by omega), hl.1]
    · by_cases e2 : j < i
      · rw [if_pos e2, if_pos (by omega)]
      · rw [if_neg e2, if_neg (by omega)]
  · rw [hp.2.2 j hj]
    by_cases e2 : j < 8 * (i - 1)
    · rw [if_pos e2, if_pos (by omega)]
    · by_cases e : j < 8 * (i + 1 - 1)
      · rw [if_neg e2, if_pos e]
        refine (Classical.byContradiction fun h' => hl.2 ⟨j - 8 * (i - 1), by omega, ?_⟩)
        rw [show 8 * (i - 1) + (j - 8 * (i - 1)) = j by omega]
        exact fun h => h' h.symm
      · rw [if_neg e2, if_neg e]
theorem part_all {t x : Tr} (hp : t.part x 9) : x = t :=
  Tr.ext_ (fun i hi => by rw [hp.2.2 i hi, if_pos (by omega)]) fun i hi => by
    by_cases h0 : i = 0
    · subst h0; exact hp.1
    · rw [hp.2.1 i (by omega) (by omega), if_pos (by omega)]
end Go.Proofs.Ytmklcealhjmlgaa
end
section
/- The statement TreeBack, walked. -/
namespace Go.Proofs.Ytmklcealhjmlgaa
open Go Go.Adm
set_option linter.unusedSimpArgs false
set_option maxRecDepth 100000
set_option maxHeartbeats 1000000
def pickI (k n : Int) : Int := if n < 1 then 0 else if k.tmod n < 0 then k.tmod n + n else k.tmod n
theorem pickI_in {k n : Int} (h : 0 < n) : 0 ≤ pickI k n ∧ pickI k n < n := by
  unfold pickI
  rw [if_neg (by omega)]
  have h1 := Int.tmod_lt_of_pos k h
  have h2 : -n < k.tmod n := by
    have := Int.tmod_lt_of_pos (-k) h
    rw [Int.neg_tmod] at this
    omega
  split <;> omega
theorem ans_pick (k n : Int) (hn : n < 1099511627776) (m : Mem) : Ans Try.prog 22 [.int .i64 k, .int .i64 n] m fun x m' => x = .int .i64 (pickI k n) ∧ m' = m := by
  refine ans_ret mixed ok22 ?_
  unfold pickI
  by_cases h : n < 1
  · rw [if_pos h]
    simp -implicitDefEqProofs (disch := (first | omega | (simp only [lenB, Tr.row_len, Rf.cells_len, Nd.cells_len, TOp.cells_len, Tr.bl_len, flat8_len, nats_len] <;> omega) | fail)) only [admQ, lenB, Tr.row_len, Rf.cells_len, Nd.cells_len, TOp.cells_len, Tr.bl_len, flat8_len, nats_len, aFill, AK.cls, implies_true, ↓reduceIte, reduceCtorEq, if_true, if_false, Nat.reduceAdd, Nat.reduceEqDiff, Nat.reduceMod, Nat.reduceLT, Nat.reduceLeDiff, Nat.reduceSub, Nat.reduceMul, Nat.reduceBEq, Int.reduceAdd, Int.reduceSub, Int.reduceMul, Int.reduceNeg, Int.reduceLT, Int.reduceLE, Int.reduceToNat, Int.reduceEq, Int.reduceBEq, c22, r22, dec_t h]
  · rw [if_neg h]
    have h1 := Int.tmod_lt_of_pos k (show 0 < n by omega)
    have h2 : -n < k.tmod n := by
      have := Int.tmod_lt_of_pos (-k) (show 0 < n by omega)
      rw [Int.neg_tmod] at this
      omega
    by_cases h3 : k.tmod n < 0
    · rw [if_pos h3]
      simp -implicitDefEqProofs (disch := (first | omega | (simp only [lenB, Tr.row_len, Rf.cells_len, Nd.cells_len, TOp.cells_len, Tr.bl_len, flat8_len, nats_len] <;> omega) | fail)) only [admQ, lenB, Tr.row_len, Rf.cells_len, Nd.cells_len, TOp.cells_len, Tr.bl_len, flat8_len, nats_len, aFill, AK.cls, implies_true, ↓reduceIte, reduceCtorEq, if_true, if_false, Nat.reduceAdd, Nat.reduceEqDiff, Nat.reduceMod, Nat.reduceLT, Nat.reduceLeDiff, Nat.reduceSub, Nat.reduceMul, Nat.reduceBEq, Int.reduceAdd, Int.reduceSub, Int.reduceMul, Int.reduceNeg, Int.reduceLT, Int.reduceLE, Int.reduceToNat, Int.reduceEq, Int.reduceBEq, c22, r22, dec_f h, ite_some (show ¬ n = 0 by omega), dec_t h3]
    · rw [if_neg h3]
      simp -implicitDefEqProofs (disch := (first | omega | (simp only [lenB, Tr.row_len, Rf.cells_len, Nd.cells_len, TOp.cells_len, Tr.bl_len, flat8_len, nats_len] <;> omega) | fail)) only [admQ, lenB, Tr.row_len, Rf.cells_len, Nd.cells_len, TOp.cells_len, Tr.bl_len, flat8_len, nats_len, aFill, AK.cls, implies_true, ↓reduceIte, reduceCtorEq, if_true, if_false, Nat.reduceAdd, Nat.reduceEqDiff, Nat.reduceMod, Nat.reduceLT, Nat.reduceLeDiff, Nat.reduceSub, Nat.reduceMul, Nat.reduceBEq, Int.reduceAdd, Int.reduceSub, Int.reduceMul, Int.reduceNeg, Int.reduceLT, Int.reduceLE, Int.reduceToNat, Int.reduceEq, Int.reduceBEq, c22, r22, dec_f h, ite_some (show ¬ n = 0 by omega), dec_f h3]
theorem back_end {m0 m : Mem} (hk0 : Kept [] m0 m) {A B : Nat} (hA0 : m0.length ≤ A) {u x : Tr} (pA : own m A = some u.row) (pB : own m B = some x.row) (hAB : A < B) (hI : u.Inv) (hd : u.dirtyL = []) (hp : u.part x 1) :
    wpA Try.prog d6_12 [(5, .ptr A 0), (10, .ptr B 0)] m (retQ r6 fun y m' => y = .bool true ∧ Kept [] m0 m') := by
  simp -implicitDefEqProofs (disch := (first | omega | (simp only [lenB, Tr.row_len, Rf.cells_len, Nd.cells_len, TOp.cells_len, Tr.bl_len, flat8_len, nats_len] <;> omega) | fail)) only [admQ, lenB, Tr.row_len, Rf.cells_len, Nd.cells_len, TOp.cells_len, Tr.bl_len, flat8_len, nats_len, aFill, AK.cls, implies_true, ↓reduceIte, reduceCtorEq, if_true, if_false, Nat.reduceAdd, Nat.reduceEqDiff, Nat.reduceMod, Nat.reduceLT, Nat.reduceLeDiff, Nat.reduceSub, Nat.reduceMul, Nat.reduceBEq, Int.reduceAdd, Int.reduceSub, Int.reduceMul, Int.reduceNeg, Int.reduceLT, Int.reduceLE, Int.reduceToNat, Int.reduceEq, Int.reduceBEq, d6_12, d6_13, d6_14, r6]
  refine LoopW.on (fun s : Nat × Tr => [(5, .ptr A 0), (10, .ptr B 0), (13, .int .i64 s.1)]) (fun s => 9 - s.1)
    (fun s m' => (1 ≤ s.1 ∧ s.1 ≤ 9) ∧ own m' A = some u.row ∧ own m' B = some s.2.row ∧ u.part s.2 s.1 ∧ Kept [] m0 m') ?_ (1, x) _ _ rfl ⟨by omega, pA, pB, hp, hk0⟩
  clear pA pB hp hk0 x m
  rintro ⟨i, x⟩ m X ⟨hi, pA, pB, hp, hk0⟩ hX
  dsimp only at hi pA pB hp hX ⊢
  by_cases hlt : i < 9
  · simp -implicitDefEqProofs (disch := (first | omega | (simp only [lenB, Tr.row_len, Rf.cells_len, Nd.cells_len, TOp.cells_len, Tr.bl_len, flat8_len, nats_len] <;> omega) | fail)) only [admQ, lenB, Tr.row_len, Rf.cells_len, Nd.cells_len, TOp.cells_len, Tr.bl_len, flat8_len, nats_len, aFill, AK.cls, implies_true, ↓reduceIte, reduceCtorEq, if_true, if_false, Nat.reduceAdd, Nat.reduceEqDiff, Nat.reduceMod, Nat.reduceLT, Nat.reduceLeDiff, Nat.reduceSub, Nat.reduceMul, Nat.reduceBEq, Int.reduceAdd, Int.reduceSub, Int.reduceMul, Int.reduceNeg, Int.reduceLT, Int.reduceLE, Int.reduceToNat, Int.reduceEq, Int.reduceBEq, dec_t, dec_f]
    refine (ans_node pA i).mono ?_
    rintro _ m2 ⟨rfl, k2⟩
    have pA2 := k2.own0 pA
    have pB2 := k2.own0 pB
    simp -implicitDefEqProofs (disch := (first | omega | (simp only [lenB, Tr.row_len, Rf.cells_len, Nd.cells_len, TOp.cells_len, Tr.bl_len, flat8_len, nats_len] <;> omega) | fail)) only [admQ, lenB, Tr.row_len, Rf.cells_len, Nd.cells_len, TOp.cells_len, Tr.bl_len, flat8_len, nats_len, aFill, AK.cls, implies_true, ↓reduceIte, reduceCtorEq, if_true, if_false, Nat.reduceAdd, Nat.reduceEqDiff, Nat.reduceMod, Nat.reduceLT, Nat.reduceLeDiff, Nat.reduceSub, Nat.reduceMul, Nat.reduceBEq, Int.reduceAdd, Int.reduceSub, Int.reduceMul, Int.reduceNeg, Int.reduceLT, Int.reduceLE, Int.reduceToNat, Int.reduceEq, Int.reduceBEq, rf_zero, splice_rf]
    have hr3 : own (m2 ++ [.row (u.nodeR i).cells false]) m2.length = some (u.nodeR i).cells := by rw [own_app_at0, own_c0]
    have pA3 := own_app pA2 [.row (u.nodeR i).cells false]
    have pB3 := own_app pB2 [.row (u.nodeR i).cells false]
    have hl2 := own_lt pB2
    have hk3 := (hk0.trans k2).trans (.app [] m2 [.row (u.nodeR i).cells false])
    generalize m2 ++ [Blk.row (u.nodeR i).cells false] = m3 at *
    generalize m2.length = R at *
    have k03 : Kept [] m0 m3 := hk3
    clear pA2 pB2 pA pB k2 hk3 m2
    refine (ans_page pA3 0).mono ?_
    rintro _ m4 ⟨rfl, k4⟩
    have hr4 := k4.own0 hr3
    have pA4 := k4.own0 pA3
    have pB4 := k4.own0 pB3
    have hi9 : i < 9 := hlt
    have ep : (List.drop ((i - 1) * 33) (flatOf Rf.cells (u.page 0))).take 33 = (u.nodeR i).cells := by
      rw [show u.page 0 = tab 8 (u.pageF 0) from rfl, flat8_part (u.pageF 0) (show i - 1 < 8 by omega), Tr.pageF, if_pos rfl, Tr.nodeR, u.node_nat (by omega), show i - 1 + 1 = i by omega]
    have et : (flatOf Rf.cells (u.page 0)).take 264 = flatOf Rf.cells (u.page 0) := take_flat8 (u.pageF 0)
    have el : (flatOf Rf.cells (u.page 0)).length = 264 := flat8_len (u.pageF 0)
    have ez := aEq_rf' (u.nodeR i) (u.nodeR i)
    have hb : (u.nodeR i == u.nodeR i) = true := beq_self_eq_true _
    have hlf := hI.leaf i (by omega) (by omega)
    have hnb : u.nodeB i = decide ((u.n i).st = 1) := by rw [Tr.nodeB, u.node_nat (by omega)]
    by_cases hs : (u.n i).st = 1
    · rw [decide_eq_true hs] at hnb
      have hnr : u.nodeR i = (u.n i).ref := by rw [Tr.nodeR, u.node_nat (by omega), if_pos hs]
      have hat : 1 ≤ (u.nodeR i).at_ := by
        rw [hnr]
        rcases hlf with ⟨h, _⟩ | ⟨h, _⟩ | ⟨_, h, _⟩
        · rw [h] at hs; exact absurd hs (by decide)
        · rw [h] at hs; exact absurd hs (by decide)
        · exact h
      obtain ⟨v1, v2⟩ := load_leaf hI hi.1 (by omega) hp hs
      rw [← hnr] at v1 v2
      simp -implicitDefEqProofs (disch := (first | omega | (simp only [lenB, Tr.row_len, Rf.cells_len, Nd.cells_len, TOp.cells_len, Tr.bl_len, flat8_len, nats_len] <;> omega) | fail)) only [admQ, lenB, Tr.row_len, Rf.cells_len, Nd.cells_len, TOp.cells_len, Tr.bl_len, flat8_len, nats_len, aFill, AK.cls, implies_true, ↓reduceIte, reduceCtorEq, if_true, if_false, Nat.reduceAdd, Nat.reduceEqDiff, Nat.reduceMod, Nat.reduceLT, Nat.reduceLeDiff, Nat.reduceSub, Nat.reduceMul, Nat.reduceBEq, Int.reduceAdd, Int.reduceSub, Int.reduceMul, Int.reduceNeg, Int.reduceLT, Int.reduceLE, Int.reduceToNat, Int.reduceEq, Int.reduceBEq, rowOf_own hr3, rowOf_own hr4, ep, et, el, ez, hb, rf_at, take_rf, hnb, dec_t, dec_f, beq_self_eq_true]
      refine (ans_page pA4 i).mono ?_
      rintro _ m5 ⟨rfl, k5⟩
      have hr5 := k5.own0 hr4
      have pA5 := k5.own0 pA4
      have pB5 := k5.own0 pB4
      simp -implicitDefEqProofs (disch := (first | omega | (simp only [lenB, Tr.row_len, Rf.cells_len, Nd.cells_len, TOp.cells_len, Tr.bl_len, flat8_len, nats_len] <;> omega) | fail)) only [admQ, lenB, Tr.row_len, Rf.cells_len, Nd.cells_len, TOp.cells_len, Tr.bl_len, flat8_len, nats_len, aFill, AK.cls, implies_true, ↓reduceIte, reduceCtorEq, if_true, if_false, Nat.reduceAdd, Nat.reduceEqDiff, Nat.reduceMod, Nat.reduceLT, Nat.reduceLeDiff, Nat.reduceSub, Nat.reduceMul, Nat.reduceBEq, Int.reduceAdd, Int.reduceSub, Int.reduceMul, Int.reduceNeg, Int.reduceLT, Int.reduceLE, Int.reduceToNat, Int.reduceEq, Int.reduceBEq, rowOf_own hr3, rowOf_own hr4, rowOf_own hr5, rf_at, take_rf, hb, hnb, dec_t, dec_f, beq_self_eq_true]
      refine (ans_load pB5 i (u.pageF i) (u.nodeR i)).mono ?_
      rintro _ m6 ⟨rfl, k6, pB6⟩
      have hr6 := k6.own hr5 (by simp; omega)
      have pA6 := k6.own pA5 (by simp; omega)
      simp -implicitDefEqProofs (disch := (first | omega | (simp only [lenB, Tr.row_len, Rf.cells_len, Nd.cells_len, TOp.cells_len, Tr.bl_len, flat8_len, nats_len] <;> omega) | fail)) only [admQ, lenB, Tr.row_len, Rf.cells_len, Nd.cells_len, TOp.cells_len, Tr.bl_len, flat8_len, nats_len, aFill, AK.cls, implies_true, ↓reduceIte, reduceCtorEq, if_true, if_false, Nat.reduceAdd, Nat.reduceEqDiff, Nat.reduceMod, Nat.reduceLT, Nat.reduceLeDiff, Nat.reduceSub, Nat.reduceMul, Nat.reduceBEq, Int.reduceAdd, Int.reduceSub, Int.reduceMul, Int.reduceNeg, Int.reduceLT, Int.reduceLE, Int.reduceToNat, Int.reduceEq, Int.reduceBEq, rowOf_own hr3, rowOf_own hr4, rowOf_own hr5, rowOf_own hr6, v1, rf_at, take_rf, hb, hnb, dec_t, dec_f, beq_self_eq_true]
      exact hX (i + 1, _) _ _ rfl (by simp; omega) ⟨by simp; omega, pA6, pB6, v2, ((k03.trans k4).trans k5).upon k6 (fun q hq => by simp at hq; omega)⟩
    · rw [decide_eq_false hs] at hnb
      have hnr : u.nodeR i = Rf.zero := by rw [Tr.nodeR, u.node_nat (by omega), if_neg hs]
      have v2 := skip_leaf hI hd hi.1 (by omega) hp hs
      have hnz : (u.nodeR i).at_ = 0 := by rw [hnr]; rfl
      simp -implicitDefEqProofs (disch := (first | omega | (simp only [lenB, Tr.row_len, Rf.cells_len, Nd.cells_len, TOp.cells_len, Tr.bl_len, flat8_len, nats_len] <;> omega) | fail)) only [admQ, lenB, Tr.row_len, Rf.cells_len, Nd.cells_len, TOp.cells_len, Tr.bl_len, flat8_len, nats_len, aFill, AK.cls, implies_true, ↓reduceIte, reduceCtorEq, if_true, if_false, Nat.reduceAdd, Nat.reduceEqDiff, Nat.reduceMod, Nat.reduceLT, Nat.reduceLeDiff, Nat.reduceSub, Nat.reduceMul, Nat.reduceBEq, Int.reduceAdd, Int.reduceSub, Int.reduceMul, Int.reduceNeg, Int.reduceLT, Int.reduceLE, Int.reduceToNat, Int.reduceEq, Int.reduceBEq, rowOf_own hr3, rowOf_own hr4, ep, et, el, ez, hb, rf_at, hnz, take_rf, hnb, dec_t, dec_f, beq_self_eq_true, AK.cls, implies_true]
      exact hX (i + 1, x) _ _ rfl (by simp; omega) ⟨by simp; omega, pA4, pB4, v2, k03.trans k4⟩
  · obtain rfl : i = 9 := by omega
    obtain rfl := part_all hp
    clear hX
    simp -implicitDefEqProofs (disch := (first | omega | (simp only [lenB, Tr.row_len, Rf.cells_len, Nd.cells_len, TOp.cells_len, Tr.bl_len, flat8_len, nats_len] <;> omega) | fail)) only [admQ, lenB, Tr.row_len, Rf.cells_len, Nd.cells_len, TOp.cells_len, Tr.bl_len, flat8_len, nats_len, aFill, AK.cls, implies_true, ↓reduceIte, reduceCtorEq, if_true, if_false, Nat.reduceAdd, Nat.reduceEqDiff, Nat.reduceMod, Nat.reduceLT, Nat.reduceLeDiff, Nat.reduceSub, Nat.reduceMul, Nat.reduceBEq, Int.reduceAdd, Int.reduceSub, Int.reduceMul, Int.reduceNeg, Int.reduceLT, Int.reduceLE, Int.reduceToNat, Int.reduceEq, Int.reduceBEq, dec_t, dec_f]
    refine (ans_refs pB).mono ?_
    rintro y m3 ⟨hy, k3⟩
    have pA3 := k3.own0 pA
    have pB3 := k3.own0 pB
    simp -implicitDefEqProofs (disch := (first | omega | (simp only [lenB, Tr.row_len, Rf.cells_len, Nd.cells_len, TOp.cells_len, Tr.bl_len, flat8_len, nats_len] <;> omega) | fail)) only [admQ, lenB, Tr.row_len, Rf.cells_len, Nd.cells_len, TOp.cells_len, Tr.bl_len, flat8_len, nats_len, aFill, AK.cls, implies_true, ↓reduceIte, reduceCtorEq, if_true, if_false, Nat.reduceAdd, Nat.reduceEqDiff, Nat.reduceMod, Nat.reduceLT, Nat.reduceLeDiff, Nat.reduceSub, Nat.reduceMul, Nat.reduceBEq, Int.reduceAdd, Int.reduceSub, Int.reduceMul, Int.reduceNeg, Int.reduceLT, Int.reduceLE, Int.reduceToNat, Int.reduceEq, Int.reduceBEq]
    refine (ans_refs pA3).mono ?_
    rintro z m4 ⟨hz, k4⟩
    have pA4 := k4.own0 pA3
    have pB4 := k4.own0 pB3
    simp -implicitDefEqProofs (disch := (first | omega | (simp only [lenB, Tr.row_len, Rf.cells_len, Nd.cells_len, TOp.cells_len, Tr.bl_len, flat8_len, nats_len] <;> omega) | fail)) only [admQ, lenB, Tr.row_len, Rf.cells_len, Nd.cells_len, TOp.cells_len, Tr.bl_len, flat8_len, nats_len, aFill, AK.cls, implies_true, ↓reduceIte, reduceCtorEq, if_true, if_false, Nat.reduceAdd, Nat.reduceEqDiff, Nat.reduceMod, Nat.reduceLT, Nat.reduceLeDiff, Nat.reduceSub, Nat.reduceMul, Nat.reduceBEq, Int.reduceAdd, Int.reduceSub, Int.reduceMul, Int.reduceNeg, Int.reduceLT, Int.reduceLE, Int.reduceToNat, Int.reduceEq, Int.reduceBEq]
    refine (ans_samerefs (hy.kept0 k4) hz (by have := refs_len x; omega)).mono ?_
    rintro _ _ ⟨rfl, rfl⟩
    simp -implicitDefEqProofs (disch := (first | omega | (simp only [lenB, Tr.row_len, Rf.cells_len, Nd.cells_len, TOp.cells_len, Tr.bl_len, flat8_len, nats_len] <;> omega) | fail)) only [admQ, lenB, Tr.row_len, Rf.cells_len, Nd.cells_len, TOp.cells_len, Tr.bl_len, flat8_len, nats_len, aFill, AK.cls, implies_true, ↓reduceIte, reduceCtorEq, if_true, if_false, Nat.reduceAdd, Nat.reduceEqDiff, Nat.reduceMod, Nat.reduceLT, Nat.reduceLeDiff, Nat.reduceSub, Nat.reduceMul, Nat.reduceBEq, Int.reduceAdd, Int.reduceSub, Int.reduceMul, Int.reduceNeg, Int.reduceLT, Int.reduceLE, Int.reduceToNat, Int.reduceEq, Int.reduceBEq, dec_t]
    refine (ans_mapped pB4).mono ?_
    rintro _ m5 ⟨rfl, k5⟩
    have pA5 := k5.own0 pA4
    have pB5 := k5.own0 pB4
    simp -implicitDefEqProofs (disch := (first | omega | (simp only [lenB, Tr.row_len, Rf.cells_len, Nd.cells_len, TOp.cells_len, Tr.bl_len, flat8_len, nats_len] <;> omega) | fail)) only [admQ, lenB, Tr.row_len, Rf.cells_len, Nd.cells_len, TOp.cells_len, Tr.bl_len, flat8_len, nats_len, aFill, AK.cls, implies_true, ↓reduceIte, reduceCtorEq, if_true, if_false, Nat.reduceAdd, Nat.reduceEqDiff, Nat.reduceMod, Nat.reduceLT, Nat.reduceLeDiff, Nat.reduceSub, Nat.reduceMul, Nat.reduceBEq, Int.reduceAdd, Int.reduceSub, Int.reduceMul, Int.reduceNeg, Int.reduceLT, Int.reduceLE, Int.reduceToNat, Int.reduceEq, Int.reduceBEq]
    refine (ans_mapped pA5).mono ?_
    rintro _ m6 ⟨rfl, k6⟩
    have pB6 := k6.own0 pB5
    simp -implicitDefEqProofs (disch := (first | omega | (simp only [lenB, Tr.row_len, Rf.cells_len, Nd.cells_len, TOp.cells_len, Tr.bl_len, flat8_len, nats_len] <;> omega) | fail)) only [admQ, lenB, Tr.row_len, Rf.cells_len, Nd.cells_len, TOp.cells_len, Tr.bl_len, flat8_len, nats_len, aFill, AK.cls, implies_true, ↓reduceIte, reduceCtorEq, if_true, if_false, Nat.reduceAdd, Nat.reduceEqDiff, Nat.reduceMod, Nat.reduceLT, Nat.reduceLeDiff, Nat.reduceSub, Nat.reduceMul, Nat.reduceBEq, Int.reduceAdd, Int.reduceSub, Int.reduceMul, Int.reduceNeg, Int.reduceLT, Int.reduceLE, Int.reduceToNat, Int.reduceEq, Int.reduceBEq, beq_self_eq_true]
    refine (ans_dirty pB6).mono ?_
    rintro y2 m7 ⟨hy2, k7⟩
    have hl7 := hy2.len
    rw [hd] at hl7
    simp -implicitDefEqProofs (disch := (first | omega | (simp only [lenB, Tr.row_len, Rf.cells_len, Nd.cells_len, TOp.cells_len, Tr.bl_len, flat8_len, nats_len] <;> omega) | fail)) only [admQ, lenB, Tr.row_len, Rf.cells_len, Nd.cells_len, TOp.cells_len, Tr.bl_len, flat8_len, nats_len, aFill, AK.cls, implies_true, ↓reduceIte, reduceCtorEq, if_true, if_false, Nat.reduceAdd, Nat.reduceEqDiff, Nat.reduceMod, Nat.reduceLT, Nat.reduceLeDiff, Nat.reduceSub, Nat.reduceMul, Nat.reduceBEq, Int.reduceAdd, Int.reduceSub, Int.reduceMul, Int.reduceNeg, Int.reduceLT, Int.reduceLE, Int.reduceToNat, Int.reduceEq, Int.reduceBEq, hl7, beq_self_eq_true]
    refine (ans_trworks m7).mono ?_
    rintro _ m8 ⟨rfl, k8⟩
    simp -implicitDefEqProofs (disch := (first | omega | (simp only [lenB, Tr.row_len, Rf.cells_len, Nd.cells_len, TOp.cells_len, Tr.bl_len, flat8_len, nats_len] <;> omega) | fail)) only [admQ, lenB, Tr.row_len, Rf.cells_len, Nd.cells_len, TOp.cells_len, Tr.bl_len, flat8_len, nats_len, aFill, AK.cls, implies_true, ↓reduceIte, reduceCtorEq, if_true, if_false, Nat.reduceAdd, Nat.reduceEqDiff, Nat.reduceMod, Nat.reduceLT, Nat.reduceLeDiff, Nat.reduceSub, Nat.reduceMul, Nat.reduceBEq, Int.reduceAdd, Int.reduceSub, Int.reduceMul, Int.reduceNeg, Int.reduceLT, Int.reduceLE, Int.reduceToNat, Int.reduceEq, Int.reduceBEq]
    exact (((((hk0.trans k3).trans k4).trans k5).trans k6).trans k7).trans k8
theorem ans_back {m : Mem} {x : AV} {L : List TOp} (hx : RdO m x L) (a : Int) : Ans Try.prog 6 [x, .int .i64 a] m fun y m' => y = .bool true ∧ Kept [] m m' := by
  refine ans_ret mixed ok6 ?_
  have hlx := hx.len
  by_cases h2 : 200 < L.length
  · simp -implicitDefEqProofs (disch := (first | omega | (simp only [lenB, Tr.row_len, Rf.cells_len, Nd.cells_len, TOp.cells_len, Tr.bl_len, flat8_len, nats_len] <;> omega) | fail)) only [admQ, lenB, Tr.row_len, Rf.cells_len, Nd.cells_len, TOp.cells_len, Tr.bl_len, flat8_len, nats_len, aFill, AK.cls, implies_true, ↓reduceIte, reduceCtorEq, if_true, if_false, Nat.reduceAdd, Nat.reduceEqDiff, Nat.reduceMod, Nat.reduceLT, Nat.reduceLeDiff, Nat.reduceSub, Nat.reduceMul, Nat.reduceBEq, Int.reduceAdd, Int.reduceSub, Int.reduceMul, Int.reduceNeg, Int.reduceLT, Int.reduceLE, Int.reduceToNat, Int.reduceEq, Int.reduceBEq, q6, d6_1, d6_2, d6_3, d6_4, d6_5, d6_6, d6_9, d6_10, d6_11, d6_13, d6_14, r6, hlx, dec_t, dec_f]
    refine (ans_trworks _).mono ?_
    rintro _ m1 ⟨rfl, k1⟩
    simp -implicitDefEqProofs (disch := (first | omega | (simp only [lenB, Tr.row_len, Rf.cells_len, Nd.cells_len, TOp.cells_len, Tr.bl_len, flat8_len, nats_len] <;> omega) | fail)) only [admQ, lenB, Tr.row_len, Rf.cells_len, Nd.cells_len, TOp.cells_len, Tr.bl_len, flat8_len, nats_len, aFill, AK.cls, implies_true, ↓reduceIte, reduceCtorEq, if_true, if_false, Nat.reduceAdd, Nat.reduceEqDiff, Nat.reduceMod, Nat.reduceLT, Nat.reduceLeDiff, Nat.reduceSub, Nat.reduceMul, Nat.reduceBEq, Int.reduceAdd, Int.reduceSub, Int.reduceMul, Int.reduceNeg, Int.reduceLT, Int.reduceLE, Int.reduceToNat, Int.reduceEq, Int.reduceBEq]
    exact k1
  · simp -implicitDefEqProofs (disch := (first | omega | (simp only [lenB, Tr.row_len, Rf.cells_len, Nd.cells_len, TOp.cells_len, Tr.bl_len, flat8_len, nats_len] <;> omega) | fail)) only [admQ, lenB, Tr.row_len, Rf.cells_len, Nd.cells_len, TOp.cells_len, Tr.bl_len, flat8_len, nats_len, aFill, AK.cls, implies_true, ↓reduceIte, reduceCtorEq, if_true, if_false, Nat.reduceAdd, Nat.reduceEqDiff, Nat.reduceMod, Nat.reduceLT, Nat.reduceLeDiff, Nat.reduceSub, Nat.reduceMul, Nat.reduceBEq, Int.reduceAdd, Int.reduceSub, Int.reduceMul, Int.reduceNeg, Int.reduceLT, Int.reduceLE, Int.reduceToNat, Int.reduceEq, Int.reduceBEq, q6, d6_1, d6_2, d6_3, d6_4, d6_5, d6_6, d6_9, d6_10, d6_11, d6_13, d6_14, r6, hlx, dec_t, dec_f]
    refine (ans_trnew m).mono ?_
    rintro _ m1 ⟨rfl, k1, p1⟩
    have hl1 := own_lt p1
    simp -implicitDefEqProofs (disch := (first | omega | (simp only [lenB, Tr.row_len, Rf.cells_len, Nd.cells_len, TOp.cells_len, Tr.bl_len, flat8_len, nats_len] <;> omega) | fail)) only [admQ, lenB, Tr.row_len, Rf.cells_len, Nd.cells_len, TOp.cells_len, Tr.bl_len, flat8_len, nats_len, aFill, AK.cls, implies_true, ↓reduceIte, reduceCtorEq, if_true, if_false, Nat.reduceAdd, Nat.reduceEqDiff, Nat.reduceMod, Nat.reduceLT, Nat.reduceLeDiff, Nat.reduceSub, Nat.reduceMul, Nat.reduceBEq, Int.reduceAdd, Int.reduceSub, Int.reduceMul, Int.reduceNeg, Int.reduceLT, Int.reduceLE, Int.reduceToNat, Int.reduceEq, Int.reduceBEq]
    generalize hA : m.length = A at *
    refine LoopW.on (fun s : Nat × Tr => [(0, x), (1, .int .i64 a), (5, .ptr A 0), (6, .int .i64 s.1)]) (fun s => L.length - s.1)
      (fun s m' => s.1 ≤ L.length ∧ Kept [] m m' ∧ own m' A = some s.2.row ∧ s.2.Inv) ?_ (0, Tr.new) _ _ rfl ⟨by omega, k1, p1, new_inv⟩
    clear k1 p1 hl1 m1
    rintro ⟨j, t⟩ m1 X ⟨hj, k1, pA, hI⟩ hX
    dsimp only at hj k1 pA hI hX ⊢
    by_cases hlt : j < L.length
    · obtain ⟨b, cap, c0, rfl, hr, e, el⟩ := (hx.kept0 k1).at_ hlt
      generalize L[j] = o at *
      simp -implicitDefEqProofs (disch := (first | omega | (simp only [lenB, Tr.row_len, Rf.cells_len, Nd.cells_len, TOp.cells_len, Tr.bl_len, flat8_len, nats_len] <;> omega) | fail)) only [admQ, lenB, Tr.row_len, Rf.cells_len, Nd.cells_len, TOp.cells_len, Tr.bl_len, flat8_len, nats_len, aFill, AK.cls, implies_true, ↓reduceIte, reduceCtorEq, if_true, if_false, Nat.reduceAdd, Nat.reduceEqDiff, Nat.reduceMod, Nat.reduceLT, Nat.reduceLeDiff, Nat.reduceSub, Nat.reduceMul, Nat.reduceBEq, Int.reduceAdd, Int.reduceSub, Int.reduceMul, Int.reduceNeg, Int.reduceLT, Int.reduceLE, Int.reduceToNat, Int.reduceEq, Int.reduceBEq, hlx, dec_t, dec_f, hr, e]
      refine (ans_lawrun pA o).mono ?_
      rintro _ m2 ⟨-, k2, pA2⟩
      have kx2 := k1.upon k2 (fun q hq => by simp at hq; omega)
      simp -implicitDefEqProofs (disch := (first | omega | (simp only [lenB, Tr.row_len, Rf.cells_len, Nd.cells_len, TOp.cells_len, Tr.bl_len, flat8_len, nats_len] <;> omega) | fail)) only [admQ, lenB, Tr.row_len, Rf.cells_len, Nd.cells_len, TOp.cells_len, Tr.bl_len, flat8_len, nats_len, aFill, AK.cls, implies_true, ↓reduceIte, reduceCtorEq, if_true, if_false, Nat.reduceAdd, Nat.reduceEqDiff, Nat.reduceMod, Nat.reduceLT, Nat.reduceLeDiff, Nat.reduceSub, Nat.reduceMul, Nat.reduceBEq, Int.reduceAdd, Int.reduceSub, Int.reduceMul, Int.reduceNeg, Int.reduceLT, Int.reduceLE, Int.reduceToNat, Int.reduceEq, Int.reduceBEq]
      exact hX (j + 1, o.runT t) _ _ rfl (by simp; omega) ⟨by simp; omega, kx2, pA2, run_inv hI o⟩
    · obtain rfl : j = L.length := by omega
      clear hX
      simp -implicitDefEqProofs (disch := (first | omega | (simp only [lenB, Tr.row_len, Rf.cells_len, Nd.cells_len, TOp.cells_len, Tr.bl_len, flat8_len, nats_len] <;> omega) | fail)) only [admQ, lenB, Tr.row_len, Rf.cells_len, Nd.cells_len, TOp.cells_len, Tr.bl_len, flat8_len, nats_len, aFill, AK.cls, implies_true, ↓reduceIte, reduceCtorEq, if_true, if_false, Nat.reduceAdd, Nat.reduceEqDiff, Nat.reduceMod, Nat.reduceLT, Nat.reduceLeDiff, Nat.reduceSub, Nat.reduceMul, Nat.reduceBEq, Int.reduceAdd, Int.reduceSub, Int.reduceMul, Int.reduceNeg, Int.reduceLT, Int.reduceLE, Int.reduceToNat, Int.reduceEq, Int.reduceBEq, hlx, dec_t, dec_f]
      refine (ans_pick a _ (by decide) m1).mono ?_
      rintro _ _ ⟨rfl, rfl⟩
      have hpk := pickI_in (k := a) (show (0 : Int) < 1073741824 by decide)
      rename_i m1
      generalize pickI a 1073741824 = v at *
      simp -implicitDefEqProofs (disch := (first | omega | (simp only [lenB, Tr.row_len, Rf.cells_len, Nd.cells_len, TOp.cells_len, Tr.bl_len, flat8_len, nats_len] <;> omega) | fail)) only [admQ, lenB, Tr.row_len, Rf.cells_len, Nd.cells_len, TOp.cells_len, Tr.bl_len, flat8_len, nats_len, aFill, AK.cls, implies_true, ↓reduceIte, reduceCtorEq, if_true, if_false, Nat.reduceAdd, Nat.reduceEqDiff, Nat.reduceMod, Nat.reduceLT, Nat.reduceLeDiff, Nat.reduceSub, Nat.reduceMul, Nat.reduceBEq, Int.reduceAdd, Int.reduceSub, Int.reduceMul, Int.reduceNeg, Int.reduceLT, Int.reduceLE, Int.reduceToNat, Int.reduceEq, Int.reduceBEq]
      refine (ans_dirty pA).mono ?_
      rintro y m2 ⟨hy, k2⟩
      have pA2 := k2.own0 pA
      have hyl := hy.len
      have hdl := t.dirtyIn_len dOrd
      rw [show dOrd.length = 9 from rfl, show t.dirtyIn dOrd = t.dirtyL from rfl] at hdl
      have hyb := own_lt pA
      simp -implicitDefEqProofs (disch := (first | omega | (simp only [lenB, Tr.row_len, Rf.cells_len, Nd.cells_len, TOp.cells_len, Tr.bl_len, flat8_len, nats_len] <;> omega) | fail)) only [admQ, lenB, Tr.row_len, Rf.cells_len, Nd.cells_len, TOp.cells_len, Tr.bl_len, flat8_len, nats_len, aFill, AK.cls, implies_true, ↓reduceIte, reduceCtorEq, if_true, if_false, Nat.reduceAdd, Nat.reduceEqDiff, Nat.reduceMod, Nat.reduceLT, Nat.reduceLeDiff, Nat.reduceSub, Nat.reduceMul, Nat.reduceBEq, Int.reduceAdd, Int.reduceSub, Int.reduceMul, Int.reduceNeg, Int.reduceLT, Int.reduceLE, Int.reduceToNat, Int.reduceEq, Int.reduceBEq]
      obtain ⟨w, rfl⟩ : ∃ w : Int, v = w - 1 := ⟨v + 1, by omega⟩
      rw [show 1 + (w - 1) = w by omega]
      have hw : 1 ≤ w ∧ w ≤ 1073741824 := by omega
      clear hpk
      generalize hd : t.dirtyL = d at *
      refine LoopW.on (fun s : Nat × Tr => [(1, .int .i64 w), (5, .ptr A 0), (7, y), (8, .int .i64 s.1)]) (fun s => d.length - s.1)
        (fun s m' => s.1 ≤ d.length ∧ Kept [A] m2 m' ∧ own m' A = some s.2.row ∧ s.2.Inv ∧ s.2.dirtyL = d.drop s.1) ?_ (0, t) _ _ rfl ⟨by omega, .refl _ _, pA2, hI, by rw [List.drop_zero]; exact hd⟩
      rintro ⟨j, u⟩ m3 X2 ⟨hj, k3, pA3, hI3, hd3⟩ hX
      dsimp only at hj k3 pA3 hI3 hd3 hX ⊢
      by_cases hlt : j < d.length
      · obtain ⟨b, s, rfl, -, ho, hb1⟩ := hy.sl_at hlt
        rw [flat_nats] at ho
        have hbl := own_lt ho
        have ho3 := k3.own ho (by simp; omega)
        have e := nats_get (List.getElem?_eq_getElem hlt)
        rw [List.drop_eq_getElem_cons hlt] at hd3
        have hd9 : d[j] < 9 := Tr.dirty_lt (t := u) (by rw [hd3]; exact List.mem_cons_self ..)
        generalize hkd : d[j] = k at *
        simp -implicitDefEqProofs (disch := (first | omega | (simp only [lenB, Tr.row_len, Rf.cells_len, Nd.cells_len, TOp.cells_len, Tr.bl_len, flat8_len, nats_len] <;> omega) | fail)) only [admQ, lenB, Tr.row_len, Rf.cells_len, Nd.cells_len, TOp.cells_len, Tr.bl_len, flat8_len, nats_len, aFill, AK.cls, implies_true, ↓reduceIte, reduceCtorEq, if_true, if_false, Nat.reduceAdd, Nat.reduceEqDiff, Nat.reduceMod, Nat.reduceLT, Nat.reduceLeDiff, Nat.reduceSub, Nat.reduceMul, Nat.reduceBEq, Int.reduceAdd, Int.reduceSub, Int.reduceMul, Int.reduceNeg, Int.reduceLT, Int.reduceLE, Int.reduceToNat, Int.reduceEq, Int.reduceBEq, hyl, dec_t, dec_f]
        refine (ans_lawref _ m3).mono ?_
        rintro _ m4 ⟨rfl, k4⟩
        have pA4 := k4.own0 pA3
        have ho4 := k4.own0 ho3
        have k4' := k3.trans k4.any
        simp -implicitDefEqProofs (disch := (first | omega | (simp only [lenB, Tr.row_len, Rf.cells_len, Nd.cells_len, TOp.cells_len, Tr.bl_len, flat8_len, nats_len] <;> omega) | fail)) only [admQ, lenB, Tr.row_len, Rf.cells_len, Nd.cells_len, TOp.cells_len, Tr.bl_len, flat8_len, nats_len, aFill, AK.cls, implies_true, ↓reduceIte, reduceCtorEq, if_true, if_false, Nat.reduceAdd, Nat.reduceEqDiff, Nat.reduceMod, Nat.reduceLT, Nat.reduceLeDiff, Nat.reduceSub, Nat.reduceMul, Nat.reduceBEq, Int.reduceAdd, Int.reduceSub, Int.reduceMul, Int.reduceNeg, Int.reduceLT, Int.reduceLE, Int.reduceToNat, Int.reduceEq, Int.reduceBEq, rf_zero, splice_rf]
        have hr5 : own (m4 ++ [.row (refOf (w + j)).cells false]) m4.length = some (refOf (w + j)).cells := by rw [own_app_at0, own_c0]
        have pA5 := own_app pA4 [.row (refOf (w + j)).cells false]
        have ho5 := own_app ho4 [.row (refOf (w + j)).cells false]
        have k5 := k4'.trans (.app [A] m4 [.row (refOf (w + j)).cells false])
        have hl4 := own_lt pA4
        generalize m4 ++ [Blk.row (refOf (w + j)).cells false] = m5 at *
        generalize hR : m4.length = R at *
        have hl2 := own_lt pA2
        have hl4' := k4'.len
        clear k3 k4 k4' pA3 pA4 ho3 ho4
        refine wp_join2 [1, 5, 7, 8, 9] (fun _ : Unit => [(1, .int .i64 w), (5, .ptr A 0), (7, .sl b 0 d.length d.length s), (8, .int .i64 j), (9, .ptr R 0)])
          (fun _ M => Kept [A] m2 M ∧ own M A = some u.row ∧ own M b = some (nats d) ∧ ∃ r, own M R = some (Rf.cells r) ∧ if k = 0 ∧ u.mapped = 0 then r = Rf.zero else 1 ≤ r.at_) rfl ?_ ?_
        · by_cases h0 : k = 0
          · subst h0
            simp -implicitDefEqProofs (disch := (first | omega | (simp only [lenB, Tr.row_len, Rf.cells_len, Nd.cells_len, TOp.cells_len, Tr.bl_len, flat8_len, nats_len] <;> omega) | fail)) only [admQ, lenB, Tr.row_len, Rf.cells_len, Nd.cells_len, TOp.cells_len, Tr.bl_len, flat8_len, nats_len, aFill, AK.cls, implies_true, ↓reduceIte, reduceCtorEq, if_true, if_false, Nat.reduceAdd, Nat.reduceEqDiff, Nat.reduceMod, Nat.reduceLT, Nat.reduceLeDiff, Nat.reduceSub, Nat.reduceMul, Nat.reduceBEq, Int.reduceAdd, Int.reduceSub, Int.reduceMul, Int.reduceNeg, Int.reduceLT, Int.reduceLE, Int.reduceToNat, Int.reduceEq, Int.reduceBEq, d6_7, joins, rowOf_own ho5, e, beq_self_eq_true]
            refine (ans_mapped pA5).mono ?_
            rintro _ m6 ⟨rfl, k6⟩
            have pA6 := k6.own0 pA5
            have ho6 := k6.own0 ho5
            have hr6 := k6.own0 hr5
            have k6' := k5.trans k6.any
            by_cases hm : u.mapped = 0
            · simp -implicitDefEqProofs (disch := (first | omega | (simp only [lenB, Tr.row_len, Rf.cells_len, Nd.cells_len, TOp.cells_len, Tr.bl_len, flat8_len, nats_len] <;> omega) | fail)) only [admQ, lenB, Tr.row_len, Rf.cells_len, Nd.cells_len, TOp.cells_len, Tr.bl_len, flat8_len, nats_len, aFill, AK.cls, implies_true, ↓reduceIte, reduceCtorEq, if_true, if_false, Nat.reduceAdd, Nat.reduceEqDiff, Nat.reduceMod, Nat.reduceLT, Nat.reduceLeDiff, Nat.reduceSub, Nat.reduceMul, Nat.reduceBEq, Int.reduceAdd, Int.reduceSub, Int.reduceMul, Int.reduceNeg, Int.reduceLT, Int.reduceLE, Int.reduceToNat, Int.reduceEq, Int.reduceBEq, joins, hm, beq_self_eq_true, rf_zero, hr6, splice_rf]
              exact ⟨(), k6'.write (.inr (by omega)) _, own_set_ne' pA6 (by omega) _, own_set_ne' ho6 (by omega) _, Rf.zero, own_set (own_lt hr6) _, rfl⟩
            · simp -implicitDefEqProofs (disch := (first | omega | (simp only [lenB, Tr.row_len, Rf.cells_len, Nd.cells_len, TOp.cells_len, Tr.bl_len, flat8_len, nats_len] <;> omega) | fail)) only [admQ, lenB, Tr.row_len, Rf.cells_len, Nd.cells_len, TOp.cells_len, Tr.bl_len, flat8_len, nats_len, aFill, AK.cls, implies_true, ↓reduceIte, reduceCtorEq, if_true, if_false, Nat.reduceAdd, Nat.reduceEqDiff, Nat.reduceMod, Nat.reduceLT, Nat.reduceLeDiff, Nat.reduceSub, Nat.reduceMul, Nat.reduceBEq, Int.reduceAdd, Int.reduceSub, Int.reduceMul, Int.reduceNeg, Int.reduceLT, Int.reduceLE, Int.reduceToNat, Int.reduceEq, Int.reduceBEq, joins, beq_eq_false_iff_ne.mpr (show ¬ ((u.mapped : Nat) : Int) = 0 by omega)]
              exact ⟨(), k6', pA6, ho6, _, hr6, by rw [if_neg hm]; show 1 ≤ w + (j : Int); omega⟩
          · simp -implicitDefEqProofs (disch := (first | omega | (simp only [lenB, Tr.row_len, Rf.cells_len, Nd.cells_len, TOp.cells_len, Tr.bl_len, flat8_len, nats_len] <;> omega) | fail)) only [admQ, lenB, Tr.row_len, Rf.cells_len, Nd.cells_len, TOp.cells_len, Tr.bl_len, flat8_len, nats_len, aFill, AK.cls, implies_true, ↓reduceIte, reduceCtorEq, if_true, if_false, Nat.reduceAdd, Nat.reduceEqDiff, Nat.reduceMod, Nat.reduceLT, Nat.reduceLeDiff, Nat.reduceSub, Nat.reduceMul, Nat.reduceBEq, Int.reduceAdd, Int.reduceSub, Int.reduceMul, Int.reduceNeg, Int.reduceLT, Int.reduceLE, Int.reduceToNat, Int.reduceEq, Int.reduceBEq, d6_7, joins, rowOf_own ho5, e, beq_eq_false_iff_ne.mpr (show ¬ ((k : Nat) : Int) = 0 by omega)]
            exact ⟨(), k5, pA5, ho5, _, hr5, by rw [if_neg (fun h => h0 h.1)]; show 1 ≤ w + (j : Int); omega⟩
        · rintro - M ⟨kM, pM, oM, r, rM, hr⟩
          obtain ⟨v1, v2, v3⟩ := save_first hd3 hr
          simp -implicitDefEqProofs (disch := (first | omega | (simp only [lenB, Tr.row_len, Rf.cells_len, Nd.cells_len, TOp.cells_len, Tr.bl_len, flat8_len, nats_len] <;> omega) | fail)) only [admQ, lenB, Tr.row_len, Rf.cells_len, Nd.cells_len, TOp.cells_len, Tr.bl_len, flat8_len, nats_len, aFill, AK.cls, implies_true, ↓reduceIte, reduceCtorEq, if_true, if_false, Nat.reduceAdd, Nat.reduceEqDiff, Nat.reduceMod, Nat.reduceLT, Nat.reduceLeDiff, Nat.reduceSub, Nat.reduceMul, Nat.reduceBEq, Int.reduceAdd, Int.reduceSub, Int.reduceMul, Int.reduceNeg, Int.reduceLT, Int.reduceLE, Int.reduceToNat, Int.reduceEq, Int.reduceBEq, d6_8, rowOf_own oM, e, rowOf_own rM, take_rf]
          refine (ans_saved pM k r).mono ?_
          rintro _ m6 ⟨rfl, k6, pA6⟩
          have oM6 := k6.own oM (by simp; omega)
          have rM6 := k6.own rM (by simp; omega)
          simp -implicitDefEqProofs (disch := (first | omega | (simp only [lenB, Tr.row_len, Rf.cells_len, Nd.cells_len, TOp.cells_len, Tr.bl_len, flat8_len, nats_len] <;> omega) | fail)) only [admQ, lenB, Tr.row_len, Rf.cells_len, Nd.cells_len, TOp.cells_len, Tr.bl_len, flat8_len, nats_len, aFill, AK.cls, implies_true, ↓reduceIte, reduceCtorEq, if_true, if_false, Nat.reduceAdd, Nat.reduceEqDiff, Nat.reduceMod, Nat.reduceLT, Nat.reduceLeDiff, Nat.reduceSub, Nat.reduceMul, Nat.reduceBEq, Int.reduceAdd, Int.reduceSub, Int.reduceMul, Int.reduceNeg, Int.reduceLT, Int.reduceLE, Int.reduceToNat, Int.reduceEq, Int.reduceBEq, rowOf_own oM, rowOf_own rM, rowOf_own oM6, e, rowOf_own rM6, take_rf, v1, beq_self_eq_true]
          exact hX (j + 1, u.savedT k r) _ _ rfl (by simp; omega) ⟨by simp; omega, kM.trans k6, pA6, saved_inv hI3 _ _, v2⟩
      · obtain rfl : j = d.length := by omega
        clear hX
        rw [List.drop_length] at hd3
        simp -implicitDefEqProofs (disch := (first | omega | (simp only [lenB, Tr.row_len, Rf.cells_len, Nd.cells_len, TOp.cells_len, Tr.bl_len, flat8_len, nats_len] <;> omega) | fail)) only [admQ, lenB, Tr.row_len, Rf.cells_len, Nd.cells_len, TOp.cells_len, Tr.bl_len, flat8_len, nats_len, aFill, AK.cls, implies_true, ↓reduceIte, reduceCtorEq, if_true, if_false, Nat.reduceAdd, Nat.reduceEqDiff, Nat.reduceMod, Nat.reduceLT, Nat.reduceLeDiff, Nat.reduceSub, Nat.reduceMul, Nat.reduceBEq, Int.reduceAdd, Int.reduceSub, Int.reduceMul, Int.reduceNeg, Int.reduceLT, Int.reduceLE, Int.reduceToNat, Int.reduceEq, Int.reduceBEq, hyl, dec_t, dec_f]
        have k03 : Kept [] m m3 := (k1.trans k2).upon k3 (fun q hq => by simp at hq; omega)
        clear hd hy hyl hdl k3 pA2 hyb k1 k2 pA hI
        refine (ans_dirty pA3).mono ?_
        rintro z m4 ⟨hz, k4⟩
        have hzl := hz.len
        rw [hd3] at hzl
        have pA4 := k4.own0 pA3
        simp -implicitDefEqProofs (disch := (first | omega | (simp only [lenB, Tr.row_len, Rf.cells_len, Nd.cells_len, TOp.cells_len, Tr.bl_len, flat8_len, nats_len] <;> omega) | fail)) only [admQ, lenB, Tr.row_len, Rf.cells_len, Nd.cells_len, TOp.cells_len, Tr.bl_len, flat8_len, nats_len, aFill, AK.cls, implies_true, ↓reduceIte, reduceCtorEq, if_true, if_false, Nat.reduceAdd, Nat.reduceEqDiff, Nat.reduceMod, Nat.reduceLT, Nat.reduceLeDiff, Nat.reduceSub, Nat.reduceMul, Nat.reduceBEq, Int.reduceAdd, Int.reduceSub, Int.reduceMul, Int.reduceNeg, Int.reduceLT, Int.reduceLE, Int.reduceToNat, Int.reduceEq, Int.reduceBEq, hzl, beq_self_eq_true]
        have k04 := k03.trans k4
        clear hz hzl k4 pA3 k03
        refine (ans_trnew m4).mono ?_
        rintro _ m5 ⟨rfl, k5, pB5⟩
        have pA5 := k5.own0 pA4
        have hAB := own_lt pA4
        simp -implicitDefEqProofs (disch := (first | omega | (simp only [lenB, Tr.row_len, Rf.cells_len, Nd.cells_len, TOp.cells_len, Tr.bl_len, flat8_len, nats_len] <;> omega) | fail)) only [admQ, lenB, Tr.row_len, Rf.cells_len, Nd.cells_len, TOp.cells_len, Tr.bl_len, flat8_len, nats_len, aFill, AK.cls, implies_true, ↓reduceIte, reduceCtorEq, if_true, if_false, Nat.reduceAdd, Nat.reduceEqDiff, Nat.reduceMod, Nat.reduceLT, Nat.reduceLeDiff, Nat.reduceSub, Nat.reduceMul, Nat.reduceBEq, Int.reduceAdd, Int.reduceSub, Int.reduceMul, Int.reduceNeg, Int.reduceLT, Int.reduceLE, Int.reduceToNat, Int.reduceEq, Int.reduceBEq]
        generalize hB : m4.length = B at *
        refine (ans_node pA5 0).mono ?_
        rintro _ m6 ⟨rfl, k6⟩
        have pA6 := k6.own0 pA5
        have pB6 := k6.own0 pB5
        have st0 : (u.n 0).st = 1 := by
          rcases hI3.root with h | h
          · exact absurd (by rw [h]; rfl) (clean_st hd3 (show 0 < 9 by omega))
          · exact h.1
        have hn0 : u.node 0 = u.n 0 := u.node_nat (k := 0) (by omega)
        rw [Tr.nodeR, Tr.nodeB, hn0, if_pos st0, decide_eq_true st0]
        simp -implicitDefEqProofs (disch := (first | omega | (simp only [lenB, Tr.row_len, Rf.cells_len, Nd.cells_len, TOp.cells_len, Tr.bl_len, flat8_len, nats_len] <;> omega) | fail)) only [admQ, lenB, Tr.row_len, Rf.cells_len, Nd.cells_len, TOp.cells_len, Tr.bl_len, flat8_len, nats_len, aFill, AK.cls, implies_true, ↓reduceIte, reduceCtorEq, if_true, if_false, Nat.reduceAdd, Nat.reduceEqDiff, Nat.reduceMod, Nat.reduceLT, Nat.reduceLeDiff, Nat.reduceSub, Nat.reduceMul, Nat.reduceBEq, Int.reduceAdd, Int.reduceSub, Int.reduceMul, Int.reduceNeg, Int.reduceLT, Int.reduceLE, Int.reduceToNat, Int.reduceEq, Int.reduceBEq, rf_zero, splice_rf]
        have hr7 : own (m6 ++ [.row (u.n 0).ref.cells false]) m6.length = some (u.n 0).ref.cells := by rw [own_app_at0, own_c0]
        have pA7 := own_app pA6 [.row (u.n 0).ref.cells false]
        have pB7 := own_app pB6 [.row (u.n 0).ref.cells false]
        have hl6 := own_lt pB6
        have k07 := ((k04.trans k5).trans k6).trans (.app [] m6 [.row (u.n 0).ref.cells false])
        generalize m6 ++ [Blk.row (u.n 0).ref.cells false] = m7 at *
        generalize m6.length = R at *
        clear pA5 pA6 pB5 pB6 pA4 k5 k6
        have hroot := hI3.root
        by_cases hm : u.mapped = 0
        · have hz : (u.n 0).ref = Rf.zero := by
            rcases hroot with h | ⟨_, h⟩
            · rw [h]; rfl
            · rw [if_pos hm] at h; exact h
          have h0 : (u.n 0).ref.at_ = 0 := by rw [hz]; rfl
          have hpart := part_new hI3 hd3 (by omega)
          simp -implicitDefEqProofs (disch := (first | omega | (simp only [lenB, Tr.row_len, Rf.cells_len, Nd.cells_len, TOp.cells_len, Tr.bl_len, flat8_len, nats_len] <;> omega) | fail)) only [admQ, lenB, Tr.row_len, Rf.cells_len, Nd.cells_len, TOp.cells_len, Tr.bl_len, flat8_len, nats_len, aFill, AK.cls, implies_true, ↓reduceIte, reduceCtorEq, if_true, if_false, Nat.reduceAdd, Nat.reduceEqDiff, Nat.reduceMod, Nat.reduceLT, Nat.reduceLeDiff, Nat.reduceSub, Nat.reduceMul, Nat.reduceBEq, Int.reduceAdd, Int.reduceSub, Int.reduceMul, Int.reduceNeg, Int.reduceLT, Int.reduceLE, Int.reduceToNat, Int.reduceEq, Int.reduceBEq, rowOf_own hr7, rf_at, h0, beq_self_eq_true]
          refine (ans_mapped pA7).mono ?_
          rintro _ m8 ⟨rfl, k8⟩
          have hr8 := k8.own0 hr7
          simp -implicitDefEqProofs (disch := (first | omega | (simp only [lenB, Tr.row_len, Rf.cells_len, Nd.cells_len, TOp.cells_len, Tr.bl_len, flat8_len, nats_len] <;> omega) | fail)) only [admQ, lenB, Tr.row_len, Rf.cells_len, Nd.cells_len, TOp.cells_len, Tr.bl_len, flat8_len, nats_len, aFill, AK.cls, implies_true, ↓reduceIte, reduceCtorEq, if_true, if_false, Nat.reduceAdd, Nat.reduceEqDiff, Nat.reduceMod, Nat.reduceLT, Nat.reduceLeDiff, Nat.reduceSub, Nat.reduceMul, Nat.reduceBEq, Int.reduceAdd, Int.reduceSub, Int.reduceMul, Int.reduceNeg, Int.reduceLT, Int.reduceLE, Int.reduceToNat, Int.reduceEq, Int.reduceBEq, rowOf_own hr7, rowOf_own hr8, rf_at, h0, hm, beq_self_eq_true, dec_t, dec_f, AK.cls, implies_true]
          refine wp_recut [5, 10] (c := d6_12) rfl ?_
          exact back_end (k07.trans k8) (by omega) (k8.own0 pA7) (k8.own0 pB7) hAB hI3 hd3 hpart
        · have h1 : 1 ≤ (u.n 0).ref.at_ := by
            rcases hroot with h | ⟨_, h⟩
            · rw [h] at st0; exact absurd st0 (by decide)
            · rw [if_neg hm] at h; exact h
          obtain ⟨v1, v2⟩ := load_root hI3 hd3 (by omega)
          have b0 : ((u.n 0).ref.at_ == 0) = false := beq_eq_false_iff_ne.mpr (by omega)
          have b1 : (((u.mapped : Nat) : Int) == 0) = false := beq_eq_false_iff_ne.mpr (by omega)
          simp -implicitDefEqProofs (disch := (first | omega | (simp only [lenB, Tr.row_len, Rf.cells_len, Nd.cells_len, TOp.cells_len, Tr.bl_len, flat8_len, nats_len] <;> omega) | fail)) only [admQ, lenB, Tr.row_len, Rf.cells_len, Nd.cells_len, TOp.cells_len, Tr.bl_len, flat8_len, nats_len, aFill, AK.cls, implies_true, ↓reduceIte, reduceCtorEq, if_true, if_false, Nat.reduceAdd, Nat.reduceEqDiff, Nat.reduceMod, Nat.reduceLT, Nat.reduceLeDiff, Nat.reduceSub, Nat.reduceMul, Nat.reduceBEq, Int.reduceAdd, Int.reduceSub, Int.reduceMul, Int.reduceNeg, Int.reduceLT, Int.reduceLE, Int.reduceToNat, Int.reduceEq, Int.reduceBEq, rowOf_own hr7, rf_at, b0]
          refine (ans_mapped pA7).mono ?_
          rintro _ m8 ⟨rfl, k8⟩
          have hr8 := k8.own0 hr7
          have pA8 := k8.own0 pA7
          have pB8 := k8.own0 pB7
          simp -implicitDefEqProofs (disch := (first | omega | (simp only [lenB, Tr.row_len, Rf.cells_len, Nd.cells_len, TOp.cells_len, Tr.bl_len, flat8_len, nats_len] <;> omega) | fail)) only [admQ, lenB, Tr.row_len, Rf.cells_len, Nd.cells_len, TOp.cells_len, Tr.bl_len, flat8_len, nats_len, aFill, AK.cls, implies_true, ↓reduceIte, reduceCtorEq, if_true, if_false, Nat.reduceAdd, Nat.reduceEqDiff, Nat.reduceMod, Nat.reduceLT, Nat.reduceLeDiff, Nat.reduceSub, Nat.reduceMul, Nat.reduceBEq, Int.reduceAdd, Int.reduceSub, Int.reduceMul, Int.reduceNeg, Int.reduceLT, Int.reduceLE, Int.reduceToNat, Int.reduceEq, Int.reduceBEq, rowOf_own hr7, rowOf_own hr8, rf_at, b0, b1, beq_self_eq_true, dec_t, dec_f]
          refine (ans_page pA8 0).mono ?_
          rintro _ m9 ⟨rfl, k9⟩
          have hr9 := k9.own0 hr8
          have pA9 := k9.own0 pA8
          have pB9 := k9.own0 pB8
          simp -implicitDefEqProofs (disch := (first | omega | (simp only [lenB, Tr.row_len, Rf.cells_len, Nd.cells_len, TOp.cells_len, Tr.bl_len, flat8_len, nats_len] <;> omega) | fail)) only [admQ, lenB, Tr.row_len, Rf.cells_len, Nd.cells_len, TOp.cells_len, Tr.bl_len, flat8_len, nats_len, aFill, AK.cls, implies_true, ↓reduceIte, reduceCtorEq, if_true, if_false, Nat.reduceAdd, Nat.reduceEqDiff, Nat.reduceMod, Nat.reduceLT, Nat.reduceLeDiff, Nat.reduceSub, Nat.reduceMul, Nat.reduceBEq, Int.reduceAdd, Int.reduceSub, Int.reduceMul, Int.reduceNeg, Int.reduceLT, Int.reduceLE, Int.reduceToNat, Int.reduceEq, Int.reduceBEq, rowOf_own hr7, rowOf_own hr8, rowOf_own hr9, rf_at, take_rf, b0, b1, beq_self_eq_true, dec_t, dec_f]
          refine (ans_load pB9 0 (u.pageF 0) (u.n 0).ref).mono ?_
          rintro _ m10 ⟨rfl, k10, pB10⟩
          have hr10 := k10.own hr9 (by simp; omega)
          have pA10 := k10.own pA9 (by simp; omega)
          simp -implicitDefEqProofs (disch := (first | omega | (simp only [lenB, Tr.row_len, Rf.cells_len, Nd.cells_len, TOp.cells_len, Tr.bl_len, flat8_len, nats_len] <;> omega) | fail)) only [admQ, lenB, Tr.row_len, Rf.cells_len, Nd.cells_len, TOp.cells_len, Tr.bl_len, flat8_len, nats_len, aFill, AK.cls, implies_true, ↓reduceIte, reduceCtorEq, if_true, if_false, Nat.reduceAdd, Nat.reduceEqDiff, Nat.reduceMod, Nat.reduceLT, Nat.reduceLeDiff, Nat.reduceSub, Nat.reduceMul, Nat.reduceBEq, Int.reduceAdd, Int.reduceSub, Int.reduceMul, Int.reduceNeg, Int.reduceLT, Int.reduceLE, Int.reduceToNat, Int.reduceEq, Int.reduceBEq, rowOf_own hr7, rowOf_own hr8, rowOf_own hr9, rowOf_own hr10, v1, rf_at, take_rf, b0, b1, beq_self_eq_true, dec_t, dec_f]
          refine wp_recut [5, 10] (c := d6_12) rfl ?_
          exact back_end (((k07.trans k8).trans k9).upon k10 (fun q hq => by simp at hq; omega)) (by omega) pA10 pB10 hAB hI3 hd3 v2
end Go.Proofs.Ytmklcealhjmlgaa
end
section
/- The document's tree: lists of blocks and nodes; looked at. -/
namespace Go.Proofs.Ytmklcealhjmlgaa
open Go Go.Adm
set_option linter.unusedSimpArgs false
set_option maxRecDepth 100000
set_option maxHeartbeats 1000000
structure MB where
  k : Int
  r : Rf
def MB.cells (b : MB) : List AV := .int .i64 b.k :: b.r.cells
theorem MB.cells_len (b : MB) : b.cells.length = 34 := by simp [MB.cells, Rf.cells_len]
structure N1 where
  k : Int
  d : Bool
  r : Rf
def N1.cells (b : N1) : List AV := .int .i64 b.k :: .bool b.d :: b.r.cells
theorem N1.cells_len (b : N1) : b.cells.length = 35 := by simp [N1.cells, Rf.cells_len]
/-- The document's tree in memory; its lists lie in none of the blocks D. -/
def RT (m : Mem) (p : Nat) (D : List Nat) (bl : List MB) (nd : List N1) : Prop := ∃ x y, own m p = some [x, y] ∧ GrL MB.cells 34 (p - 1) m x bl ∧ GrL N1.cells 35 (p - 1) m y nd ∧ (∀ b ∈ blkOf x, b ∉ D ∧ b ≠ p) ∧ ∀ b ∈ blkOf y, b ∉ D ∧ b ≠ p
theorem RT.kept {X : List Nat} {m m' : Mem} {p : Nat} {D : List Nat} {bl : List MB} {nd : List N1} (h : RT m p D bl nd) (hk : Kept X m m') (hx : ∀ q ∈ X, q + 1 < p ∨ q ∈ D) (hD : p ∉ D) : RT m' p D bl nd := by
  obtain ⟨x, y, h1, h2, h3, h4, h5⟩ := h
  refine ⟨x, y, hk.own h1 (fun h => ?_), h2.kept hk (fun b hb hX => ?_), h3.kept hk (fun b hb hX => ?_), h4, h5⟩
  · rcases hx p h with h | h
    · omega
    · exact hD h
  · rcases hx b hX with h | h
    · have := h2.blk b hb; omega
    · exact (h4 b hb).1 h
  · rcases hx b hX with h | h
    · have := h3.blk b hb; omega
    · exact (h5 b hb).1 h
theorem RT.kept0 {m m' : Mem} {p : Nat} {D : List Nat} {bl : List MB} {nd : List N1} (h : RT m p D bl nd) (hk : Kept [] m m') : RT m' p D bl nd := by
  obtain ⟨x, y, h1, h2, h3, h4, h5⟩ := h
  exact ⟨x, y, hk.own0 h1, h2.kept0 hk, h3.kept0 hk, h4, h5⟩
theorem RT.low {X : List Nat} {m m' : Mem} {p : Nat} {bl : List MB} {nd : List N1} (h : RT m p [] bl nd) (hk : Kept X m m') (hx : ∀ q ∈ X, q + 1 < p) : RT m' p [] bl nd := h.kept hk (fun q hq => .inl (hx q hq)) (by simp)
theorem RT.lt {m : Mem} {p : Nat} {D : List Nat} {bl : List MB} {nd : List N1} (h : RT m p D bl nd) : p < m.length := by
  obtain ⟨x, y, h1, _⟩ := h; exact own_lt h1
theorem RT.fresh {m : Mem} {p : Nat} {D D' : List Nat} {bl : List MB} {nd : List N1} (h : RT m p D bl nd) (hD : ∀ b ∈ D', b ∈ D ∨ m.length ≤ b) : RT m p D' bl nd := by
  obtain ⟨x, y, h1, h2, h3, h4, h5⟩ := h
  exact ⟨x, y, h1, h2, h3, fun b hb => ⟨fun hd => by
    rcases hD b hd with h | h
    · exact (h4 b hb).1 h
    · have := h2.lt b hb; omega, (h4 b hb).2⟩, fun b hb => ⟨fun hd => by
    rcases hD b hd with h | h
    · exact (h5 b hb).1 h
    · have := h3.lt b hb; omega, (h5 b hb).2⟩⟩
theorem RT.free {m : Mem} {p : Nat} {D : List Nat} {bl : List MB} {nd : List N1} (h : RT m p D bl nd) : RT m p [] bl nd := by
  obtain ⟨x, y, h1, h2, h3, h4, h5⟩ := h
  exact ⟨x, y, h1, h2, h3, fun b hb => ⟨by simp, (h4 b hb).2⟩, fun b hb => ⟨by simp, (h5 b hb).2⟩⟩
theorem RT.anew {X : List Nat} {m m' : Mem} {p : Nat} {D D' : List Nat} {bl : List MB} {nd : List N1} (h : RT m p D bl nd) (hk : Kept X m m') (hx : ∀ q ∈ X, q + 1 < p ∨ q ∈ D) (hD : p ∉ D) (hD' : ∀ b ∈ D', b ∈ D ∨ m.length ≤ b) : RT m' p D' bl nd := by
  obtain ⟨x, y, h1, h2, h3, h4, h5⟩ := h
  obtain ⟨x', y', g1, g2, g3, g4, g5⟩ := RT.kept ⟨x, y, h1, h2, h3, h4, h5⟩ hk hx hD
  have e : own m' p = some [x, y] := hk.own h1 (fun h => by
    rcases hx p h with h | h
    · omega
    · exact hD h)
  rw [e] at g1
  cases g1
  exact ⟨x, y, e, g2, g3, fun b hb => ⟨fun hd => by
    rcases hD' b hd with h | h
    · exact (h4 b hb).1 h
    · have := h2.lt b hb; omega, (h4 b hb).2⟩, fun b hb => ⟨fun hd => by
    rcases hD' b hd with h | h
    · exact (h5 b hb).1 h
    · have := h3.lt b hb; omega, (h5 b hb).2⟩⟩
theorem mb_part {l : List MB} {i : Nat} (h : i < l.length) : ((flatOf MB.cells l).drop (i * 34)).take 34 = (l[i]).cells := flatOf_get MB.cells_len l i h
theorem n1_part {l : List N1} {i : Nat} (h : i < l.length) : ((flatOf N1.cells l).drop (i * 35)).take 35 = (l[i]).cells := flatOf_get N1.cells_len l i h
theorem mb_le {l : List MB} {i : Nat} (h : i < l.length) : i * 34 + 34 ≤ (flatOf MB.cells l).length := by rw [flatOf_length MB.cells_len]; omega
theorem n1_le {l : List N1} {i : Nat} (h : i < l.length) : i * 35 + 35 ≤ (flatOf N1.cells l).length := by rw [flatOf_length N1.cells_len]; omega
theorem mb_k {l : List MB} {i : Nat} (h : i < l.length) : (flatOf MB.cells l)[i * 34]? = some (.int .i64 (l[i]).k) := cell_of_part (j := 0) (mb_part h) (by omega)
theorem n1_k {l : List N1} {i : Nat} (h : i < l.length) : (flatOf N1.cells l)[i * 35]? = some (.int .i64 (l[i]).k) := cell_of_part (j := 0) (n1_part h) (by omega)
theorem n1_d {l : List N1} {i : Nat} (h : i < l.length) : (flatOf N1.cells l)[i * 35 + 1]? = some (.bool (l[i]).d) := cell_of_part (j := 1) (n1_part h) (by omega)
theorem sub_part {l c d : List AV} {o k a n : Nat} (h : (l.drop o).take k = c) (hd : (c.drop a).take n = d) (hk : a + n ≤ k) : (l.drop (o + a)).take n = d := by
  rw [← hd, ← h, List.drop_take, List.take_take, List.drop_drop, Nat.min_eq_left (by omega)]
theorem mb_r {l : List MB} {i : Nat} (h : i < l.length) : ((flatOf MB.cells l).drop (i * 34 + 1)).take 33 = (l[i]).r.cells := sub_part (mb_part h) (take_rf _) (by omega)
theorem n1_r {l : List N1} {i : Nat} (h : i < l.length) : ((flatOf N1.cells l).drop (i * 35 + 2)).take 33 = (l[i]).r.cells := sub_part (n1_part h) (take_rf _) (by omega)
/-- A list's first place where something holds; else -1. -/
def place {α : Type} (p : α → Bool) (l : List α) : Int := match l.findIdx? p with | some i => (i : Int) | none => -1
theorem place_some {α : Type} {p : α → Bool} {l : List α} {j : Nat} (hj : j < l.length) (h : ∀ i (hi : i < j), p (l[i]'(by omega)) = false) (hp : p (l[j]) = true) : place p l = (j : Int) ∧ l.find? p = some (l[j]) := by
  have e : l.findIdx? p = some j := List.findIdx?_eq_some_iff_getElem.mpr ⟨hj, hp, fun i hi => by rw [h i hi]; simp⟩
  refine ⟨by rw [place, e], ?_⟩
  exact List.find?_eq_some_iff_getElem.mpr ⟨hp, j, hj, rfl, fun i hi => by rw [h i hi]; rfl⟩
theorem place_none {α : Type} {p : α → Bool} {l : List α} (h : ∀ i (hi : i < l.length), p (l[i]) = false) : place p l = -1 ∧ l.find? p = none := by
  have e : l.findIdx? p = none := List.findIdx?_eq_none_iff.mpr fun x hx => by
    obtain ⟨i, hi, rfl⟩ := List.getElem_of_mem hx
    exact h i hi
  refine ⟨by rw [place, e], List.find?_eq_none.mpr fun x hx => ?_⟩
  obtain ⟨i, hi, rfl⟩ := List.getElem_of_mem hx
  rw [h i hi]; simp
theorem ans_rat {m : Mem} {p : Nat} {D : List Nat} {bl : List MB} {nd : List N1} (h : RT m p D bl nd) (hl : bl.length < 1000) (k : Int) :
    Ans Try.prog 56 [.ptr p 0, .int .i64 k] m fun x m' => x = .int .i64 (place (fun b => b.k == k) bl) ∧ m' = m := by
  refine ans_ret mixed ok56 ?_
  obtain ⟨x, y, h1, h2, h3, -, -⟩ := h
  have hx := h2.len
  simp -implicitDefEqProofs (disch := (first | omega | (simp only [lenB, MB.cells_len, N1.cells_len, Rf.cells_len] <;> omega) | fail)) only [admQ, lenB, MB.cells_len, N1.cells_len, Rf.cells_len, aFill, AK.cls, implies_true, ↓reduceIte, reduceCtorEq, if_true, if_false, Nat.reduceAdd, Nat.reduceEqDiff, Nat.reduceMod, Nat.reduceLT, Nat.reduceLeDiff, Nat.reduceSub, Nat.reduceMul, Nat.reduceBEq, Int.reduceAdd, Int.reduceSub, Int.reduceMul, Int.reduceNeg, Int.reduceLT, Int.reduceLE, Int.reduceToNat, Int.reduceEq, Int.reduceBEq, c56, r56]
  refine LoopW.on (fun j : Nat => [(0, .ptr p 0), (1, .int .i64 k), (5, .int .i64 j)]) (fun j => bl.length - j)
    (fun j m' => j ≤ bl.length ∧ m' = m ∧ ∀ i (hi : i < bl.length), i < j → ((bl[i]).k == k) = false) ?_ 0 _ _ rfl ⟨by omega, rfl, fun i _ hi => by omega⟩
  rintro j m' X ⟨hj, rfl, hz⟩ hX
  by_cases hlt : j < bl.length
  · obtain ⟨b, s, rfl, -, ho, -⟩ := h2.sl_at hlt
    have e1 := mb_k hlt
    by_cases he : (bl[j]).k = k
    · have hp := place_some (p := fun b : MB => b.k == k) hlt (fun i hi => hz i (by omega) hi) (beq_iff_eq.mpr he)
      simp -implicitDefEqProofs (disch := (first | omega | (simp only [lenB, MB.cells_len, N1.cells_len, Rf.cells_len] <;> omega) | fail)) only [admQ, lenB, MB.cells_len, N1.cells_len, Rf.cells_len, aFill, AK.cls, implies_true, ↓reduceIte, reduceCtorEq, if_true, if_false, Nat.reduceAdd, Nat.reduceEqDiff, Nat.reduceMod, Nat.reduceLT, Nat.reduceLeDiff, Nat.reduceSub, Nat.reduceMul, Nat.reduceBEq, Int.reduceAdd, Int.reduceSub, Int.reduceMul, Int.reduceNeg, Int.reduceLT, Int.reduceLE, Int.reduceToNat, Int.reduceEq, Int.reduceBEq, rowOf_own h1, rowOf_own ho, hx, e1, beq_iff_eq.mpr he, hp.1]
    · simp -implicitDefEqProofs (disch := (first | omega | (simp only [lenB, MB.cells_len, N1.cells_len, Rf.cells_len] <;> omega) | fail)) only [admQ, lenB, MB.cells_len, N1.cells_len, Rf.cells_len, aFill, AK.cls, implies_true, ↓reduceIte, reduceCtorEq, if_true, if_false, Nat.reduceAdd, Nat.reduceEqDiff, Nat.reduceMod, Nat.reduceLT, Nat.reduceLeDiff, Nat.reduceSub, Nat.reduceMul, Nat.reduceBEq, Int.reduceAdd, Int.reduceSub, Int.reduceMul, Int.reduceNeg, Int.reduceLT, Int.reduceLE, Int.reduceToNat, Int.reduceEq, Int.reduceBEq, rowOf_own h1, rowOf_own ho, hx, e1, beq_eq_false_iff_ne.mpr he]
      exact hX (j + 1) _ _ rfl (by omega) ⟨by omega, rfl, fun i hi hij => if e : i = j then by subst e; exact beq_eq_false_iff_ne.mpr he else hz i hi (by omega)⟩
  · obtain rfl : j = bl.length := by omega
    have hp := place_none (p := fun b : MB => b.k == k) (fun i hi => hz i hi hi)
    simp -implicitDefEqProofs (disch := (first | omega | (simp only [lenB, MB.cells_len, N1.cells_len, Rf.cells_len] <;> omega) | fail)) only [admQ, lenB, MB.cells_len, N1.cells_len, Rf.cells_len, aFill, AK.cls, implies_true, ↓reduceIte, reduceCtorEq, if_true, if_false, Nat.reduceAdd, Nat.reduceEqDiff, Nat.reduceMod, Nat.reduceLT, Nat.reduceLeDiff, Nat.reduceSub, Nat.reduceMul, Nat.reduceBEq, Int.reduceAdd, Int.reduceSub, Int.reduceMul, Int.reduceNeg, Int.reduceLT, Int.reduceLE, Int.reduceToNat, Int.reduceEq, Int.reduceBEq, rowOf_own h1, hx, hp.1]
theorem ans_rnodei {m : Mem} {p : Nat} {D : List Nat} {bl : List MB} {nd : List N1} (h : RT m p D bl nd) (hl : nd.length < 1000) (k : Int) :
    Ans Try.prog 55 [.ptr p 0, .int .i64 k] m fun x m' => x = .int .i64 (place (fun b => b.k == k) nd) ∧ m' = m := by
  refine ans_ret mixed ok55 ?_
  obtain ⟨x, y, h1, h2, h3, -, -⟩ := h
  have hx := h3.len
  simp -implicitDefEqProofs (disch := (first | omega | (simp only [lenB, MB.cells_len, N1.cells_len, Rf.cells_len] <;> omega) | fail)) only [admQ, lenB, MB.cells_len, N1.cells_len, Rf.cells_len, aFill, AK.cls, implies_true, ↓reduceIte, reduceCtorEq, if_true, if_false, Nat.reduceAdd, Nat.reduceEqDiff, Nat.reduceMod, Nat.reduceLT, Nat.reduceLeDiff, Nat.reduceSub, Nat.reduceMul, Nat.reduceBEq, Int.reduceAdd, Int.reduceSub, Int.reduceMul, Int.reduceNeg, Int.reduceLT, Int.reduceLE, Int.reduceToNat, Int.reduceEq, Int.reduceBEq, c55, r55]
  refine LoopW.on (fun j : Nat => [(0, .ptr p 0), (1, .int .i64 k), (5, .int .i64 j)]) (fun j => nd.length - j)
    (fun j m' => j ≤ nd.length ∧ m' = m ∧ ∀ i (hi : i < nd.length), i < j → ((nd[i]).k == k) = false) ?_ 0 _ _ rfl ⟨by omega, rfl, fun i _ hi => by omega⟩
  rintro j m' X ⟨hj, rfl, hz⟩ hX
  by_cases hlt : j < nd.length
  · obtain ⟨b, s, rfl, -, ho, -⟩ := h3.sl_at hlt
    have e1 := n1_k hlt
    by_cases he : (nd[j]).k = k
    · have hp := place_some (p := fun b : N1 => b.k == k) hlt (fun i hi => hz i (by omega) hi) (beq_iff_eq.mpr he)
      simp -implicitDefEqProofs (disch := (first | omega | (simp only [lenB, MB.cells_len, N1.cells_len, Rf.cells_len] <;> omega) | fail)) only [admQ, lenB, MB.cells_len, N1.cells_len, Rf.cells_len, aFill, AK.cls, implies_true, ↓reduceIte, reduceCtorEq, if_true, if_false, Nat.reduceAdd, Nat.reduceEqDiff, Nat.reduceMod, Nat.reduceLT, Nat.reduceLeDiff, Nat.reduceSub, Nat.reduceMul, Nat.reduceBEq, Int.reduceAdd, Int.reduceSub, Int.reduceMul, Int.reduceNeg, Int.reduceLT, Int.reduceLE, Int.reduceToNat, Int.reduceEq, Int.reduceBEq, rowOf_own h1, rowOf_own ho, hx, e1, beq_iff_eq.mpr he, hp.1]
    · simp -implicitDefEqProofs (disch := (first | omega | (simp only [lenB, MB.cells_len, N1.cells_len, Rf.cells_len] <;> omega) | fail)) only [admQ, lenB, MB.cells_len, N1.cells_len, Rf.cells_len, aFill, AK.cls, implies_true, ↓reduceIte, reduceCtorEq, if_true, if_false, Nat.reduceAdd, Nat.reduceEqDiff, Nat.reduceMod, Nat.reduceLT, Nat.reduceLeDiff, Nat.reduceSub, Nat.reduceMul, Nat.reduceBEq, Int.reduceAdd, Int.reduceSub, Int.reduceMul, Int.reduceNeg, Int.reduceLT, Int.reduceLE, Int.reduceToNat, Int.reduceEq, Int.reduceBEq, rowOf_own h1, rowOf_own ho, hx, e1, beq_eq_false_iff_ne.mpr he]
      exact hX (j + 1) _ _ rfl (by omega) ⟨by omega, rfl, fun i hi hij => if e : i = j then by subst e; exact beq_eq_false_iff_ne.mpr he else hz i hi (by omega)⟩
  · obtain rfl : j = nd.length := by omega
    have hp := place_none (p := fun b : N1 => b.k == k) (fun i hi => hz i hi hi)
    simp -implicitDefEqProofs (disch := (first | omega | (simp only [lenB, MB.cells_len, N1.cells_len, Rf.cells_len] <;> omega) | fail)) only [admQ, lenB, MB.cells_len, N1.cells_len, Rf.cells_len, aFill, AK.cls, implies_true, ↓reduceIte, reduceCtorEq, if_true, if_false, Nat.reduceAdd, Nat.reduceEqDiff, Nat.reduceMod, Nat.reduceLT, Nat.reduceLeDiff, Nat.reduceSub, Nat.reduceMul, Nat.reduceBEq, Int.reduceAdd, Int.reduceSub, Int.reduceMul, Int.reduceNeg, Int.reduceLT, Int.reduceLE, Int.reduceToNat, Int.reduceEq, Int.reduceBEq, rowOf_own h1, hx, hp.1]
theorem place_cases {α : Type} (p : α → Bool) (l : List α) : (place p l = -1 ∧ l.find? p = none) ∨ ∃ j, ∃ hj : j < l.length, place p l = (j : Int) ∧ l.find? p = some (l[j]) := by
  cases h : l.findIdx? p with
  | none =>
    refine .inl ⟨by rw [place, h], List.find?_eq_none.mpr fun x hx => ?_⟩
    have := List.findIdx?_eq_none_iff.mp h x hx
    rw [this]; simp
  | some j =>
    obtain ⟨hj, h1, h2⟩ := List.findIdx?_eq_some_iff_getElem.mp h
    exact .inr ⟨j, hj, place_some hj (fun i hi => by have := h2 i hi; simpa using this) h1⟩
def rGet (bl : List MB) (k : Int) : Option Rf := (bl.find? fun b => b.k == k).map (·.r)
def rNode (nd : List N1) (k : Int) : Option Rf := (nd.find? fun b => b.k == k).bind fun n => if n.d then none else some n.r
theorem ans_rget {m : Mem} {p : Nat} {D : List Nat} {bl : List MB} {nd : List N1} (h : RT m p D bl nd) (hl : bl.length < 1000) (k : Int) :
    Ans Try.prog 44 [.ptr p 0, .int .i64 k] m fun x m' => x = .tup [.agg ((rGet bl k).getD Rf.zero).cells, .bool (rGet bl k).isSome] ∧ Kept [] m m' := by
  refine ans_ret mixed ok44 ?_
  simp -implicitDefEqProofs (disch := (first | omega | (simp only [lenB, MB.cells_len, N1.cells_len, Rf.cells_len] <;> omega) | fail)) only [admQ, lenB, MB.cells_len, N1.cells_len, Rf.cells_len, aFill, AK.cls, implies_true, ↓reduceIte, reduceCtorEq, if_true, if_false, Nat.reduceAdd, Nat.reduceEqDiff, Nat.reduceMod, Nat.reduceLT, Nat.reduceLeDiff, Nat.reduceSub, Nat.reduceMul, Nat.reduceBEq, Int.reduceAdd, Int.reduceSub, Int.reduceMul, Int.reduceNeg, Int.reduceLT, Int.reduceLE, Int.reduceToNat, Int.reduceEq, Int.reduceBEq, c44, r44, rf_zero]
  refine (ans_rat (h.kept0 (.app [] m [.row Rf.zero.cells false])) hl k).mono ?_
  rintro _ _ ⟨rfl, rfl⟩
  rcases place_cases (fun b : MB => b.k == k) bl with ⟨e, f⟩ | ⟨j, hj, e, f⟩
  · simp only [rGet, e, f]
    simp -implicitDefEqProofs (disch := (first | omega | (simp only [lenB, MB.cells_len, N1.cells_len, Rf.cells_len] <;> omega) | fail)) only [admQ, lenB, MB.cells_len, N1.cells_len, Rf.cells_len, aFill, AK.cls, implies_true, ↓reduceIte, reduceCtorEq, if_true, if_false, Nat.reduceAdd, Nat.reduceEqDiff, Nat.reduceMod, Nat.reduceLT, Nat.reduceLeDiff, Nat.reduceSub, Nat.reduceMul, Nat.reduceBEq, Int.reduceAdd, Int.reduceSub, Int.reduceMul, Int.reduceNeg, Int.reduceLT, Int.reduceLE, Int.reduceToNat, Int.reduceEq, Int.reduceBEq, rf_zero, splice_rf, take_rf]
    exact ⟨rfl, .app _ _ _⟩
  · obtain ⟨x, y, h1, h2, h3, -, -⟩ := h
    simp only [rGet, e, f]
    obtain ⟨b, s, rfl, -, ho, -⟩ := h2.sl_at hj
    have e1 := mb_r hj
    have e2 := mb_le hj
    have h1' := own_app h1 [.row Rf.zero.cells false]
    have ho' := own_app ho [.row Rf.zero.cells false]
    simp -implicitDefEqProofs (disch := (first | omega | (simp only [lenB, MB.cells_len, N1.cells_len, Rf.cells_len] <;> omega) | fail)) only [admQ, lenB, MB.cells_len, N1.cells_len, Rf.cells_len, aFill, AK.cls, implies_true, ↓reduceIte, reduceCtorEq, if_true, if_false, Nat.reduceAdd, Nat.reduceEqDiff, Nat.reduceMod, Nat.reduceLT, Nat.reduceLeDiff, Nat.reduceSub, Nat.reduceMul, Nat.reduceBEq, Int.reduceAdd, Int.reduceSub, Int.reduceMul, Int.reduceNeg, Int.reduceLT, Int.reduceLE, Int.reduceToNat, Int.reduceEq, Int.reduceBEq, rf_zero, splice_rf, take_rf, rowOf_own h1', rowOf_own ho', e1]
    exact ⟨rfl, .app _ _ _⟩
theorem ans_rnode {m : Mem} {p : Nat} {D : List Nat} {bl : List MB} {nd : List N1} (h : RT m p D bl nd) (hl : nd.length < 1000) (k : Int) :
    Ans Try.prog 42 [.ptr p 0, .int .i64 k] m fun x m' => x = .tup [.agg ((rNode nd k).getD Rf.zero).cells, .bool (rNode nd k).isSome] ∧ Kept [] m m' := by
  refine ans_ret mixed ok42 ?_
  simp -implicitDefEqProofs (disch := (first | omega | (simp only [lenB, MB.cells_len, N1.cells_len, Rf.cells_len] <;> omega) | fail)) only [admQ, lenB, MB.cells_len, N1.cells_len, Rf.cells_len, aFill, AK.cls, implies_true, ↓reduceIte, reduceCtorEq, if_true, if_false, Nat.reduceAdd, Nat.reduceEqDiff, Nat.reduceMod, Nat.reduceLT, Nat.reduceLeDiff, Nat.reduceSub, Nat.reduceMul, Nat.reduceBEq, Int.reduceAdd, Int.reduceSub, Int.reduceMul, Int.reduceNeg, Int.reduceLT, Int.reduceLE, Int.reduceToNat, Int.reduceEq, Int.reduceBEq, c42, r42, rf_zero]
  refine (ans_rnodei (h.kept0 (.app [] m [.row Rf.zero.cells false])) hl k).mono ?_
  rintro _ _ ⟨rfl, rfl⟩
  rcases place_cases (fun b : N1 => b.k == k) nd with ⟨e, f⟩ | ⟨j, hj, e, f⟩
  · simp only [rNode, e, f]
    simp -implicitDefEqProofs (disch := (first | omega | (simp only [lenB, MB.cells_len, N1.cells_len, Rf.cells_len] <;> omega) | fail)) only [admQ, lenB, MB.cells_len, N1.cells_len, Rf.cells_len, aFill, AK.cls, implies_true, ↓reduceIte, reduceCtorEq, if_true, if_false, Nat.reduceAdd, Nat.reduceEqDiff, Nat.reduceMod, Nat.reduceLT, Nat.reduceLeDiff, Nat.reduceSub, Nat.reduceMul, Nat.reduceBEq, Int.reduceAdd, Int.reduceSub, Int.reduceMul, Int.reduceNeg, Int.reduceLT, Int.reduceLE, Int.reduceToNat, Int.reduceEq, Int.reduceBEq, rf_zero, splice_rf, take_rf, dec_t, dec_f]
    exact ⟨rfl, .app _ _ _⟩
  · obtain ⟨x, y, h1, h2, h3, -, -⟩ := h
    simp only [rNode, e, f]
    obtain ⟨b, s, rfl, -, ho, -⟩ := h3.sl_at hj
    have e1 := n1_r hj
    have e2 := n1_le hj
    have e3 := n1_d hj
    have h1' := own_app h1 [.row Rf.zero.cells false]
    have ho' := own_app ho [.row Rf.zero.cells false]
    cases hd : (nd[j]).d
    · rw [hd] at e3
      simp -implicitDefEqProofs (disch := (first | omega | (simp only [lenB, MB.cells_len, N1.cells_len, Rf.cells_len] <;> omega) | fail)) only [admQ, lenB, MB.cells_len, N1.cells_len, Rf.cells_len, aFill, AK.cls, implies_true, ↓reduceIte, reduceCtorEq, if_true, if_false, Nat.reduceAdd, Nat.reduceEqDiff, Nat.reduceMod, Nat.reduceLT, Nat.reduceLeDiff, Nat.reduceSub, Nat.reduceMul, Nat.reduceBEq, Int.reduceAdd, Int.reduceSub, Int.reduceMul, Int.reduceNeg, Int.reduceLT, Int.reduceLE, Int.reduceToNat, Int.reduceEq, Int.reduceBEq, rf_zero, splice_rf, take_rf, rowOf_own h1', rowOf_own ho', e1, e3, dec_t, dec_f]
      simp [hd, Kept.app]
    · rw [hd] at e3
      simp -implicitDefEqProofs (disch := (first | omega | (simp only [lenB, MB.cells_len, N1.cells_len, Rf.cells_len] <;> omega) | fail)) only [admQ, lenB, MB.cells_len, N1.cells_len, Rf.cells_len, aFill, AK.cls, implies_true, ↓reduceIte, reduceCtorEq, if_true, if_false, Nat.reduceAdd, Nat.reduceEqDiff, Nat.reduceMod, Nat.reduceLT, Nat.reduceLeDiff, Nat.reduceSub, Nat.reduceMul, Nat.reduceBEq, Int.reduceAdd, Int.reduceSub, Int.reduceMul, Int.reduceNeg, Int.reduceLT, Int.reduceLE, Int.reduceToNat, Int.reduceEq, Int.reduceBEq, rf_zero, splice_rf, take_rf, rowOf_own h1', rowOf_own ho', e1, e3, dec_t, dec_f]
      simp [hd, Kept.app]
theorem ans_rmapped {m : Mem} {p : Nat} {D : List Nat} {bl : List MB} {nd : List N1} (h : RT m p D bl nd) :
    Ans Try.prog 39 [.ptr p 0] m fun x m' => x = .int .i64 bl.length ∧ m' = m := by
  refine ans_ret mixed ok39 ?_
  obtain ⟨x, y, h1, h2, h3, -, -⟩ := h
  have hx := h2.len
  simp -implicitDefEqProofs (disch := (first | omega | (simp only [lenB, MB.cells_len, N1.cells_len, Rf.cells_len] <;> omega) | fail)) only [admQ, lenB, MB.cells_len, N1.cells_len, Rf.cells_len, aFill, AK.cls, implies_true, ↓reduceIte, reduceCtorEq, if_true, if_false, Nat.reduceAdd, Nat.reduceEqDiff, Nat.reduceMod, Nat.reduceLT, Nat.reduceLeDiff, Nat.reduceSub, Nat.reduceMul, Nat.reduceBEq, Int.reduceAdd, Int.reduceSub, Int.reduceMul, Int.reduceNeg, Int.reduceLT, Int.reduceLE, Int.reduceToNat, Int.reduceEq, Int.reduceBEq, c39, r39, rowOf_own h1, hx]
def rDirty (nd : List N1) (k : Int) : Bool := ((nd.find? fun b => b.k == k).map (·.d)).getD false
theorem ans_risdirty {m : Mem} {p : Nat} {D : List Nat} {bl : List MB} {nd : List N1} (h : RT m p D bl nd) (hl : nd.length < 1000) (k : Int) :
    Ans Try.prog 54 [.ptr p 0, .int .i64 k] m fun x m' => x = .bool (rDirty nd k) ∧ m' = m := by
  refine ans_ret mixed ok54 ?_
  simp -implicitDefEqProofs (disch := (first | omega | (simp only [lenB, MB.cells_len, N1.cells_len, Rf.cells_len] <;> omega) | fail)) only [admQ, lenB, MB.cells_len, N1.cells_len, Rf.cells_len, aFill, AK.cls, implies_true, ↓reduceIte, reduceCtorEq, if_true, if_false, Nat.reduceAdd, Nat.reduceEqDiff, Nat.reduceMod, Nat.reduceLT, Nat.reduceLeDiff, Nat.reduceSub, Nat.reduceMul, Nat.reduceBEq, Int.reduceAdd, Int.reduceSub, Int.reduceMul, Int.reduceNeg, Int.reduceLT, Int.reduceLE, Int.reduceToNat, Int.reduceEq, Int.reduceBEq, c54, r54]
  refine (ans_rnodei h hl k).mono ?_
  rintro _ _ ⟨rfl, rfl⟩
  rcases place_cases (fun b : N1 => b.k == k) nd with ⟨e, f⟩ | ⟨j, hj, e, f⟩
  · simp only [rDirty, e, f]
    simp -implicitDefEqProofs (disch := (first | omega | (simp only [lenB, MB.cells_len, N1.cells_len, Rf.cells_len] <;> omega) | fail)) only [admQ, lenB, MB.cells_len, N1.cells_len, Rf.cells_len, aFill, AK.cls, implies_true, ↓reduceIte, reduceCtorEq, if_true, if_false, Nat.reduceAdd, Nat.reduceEqDiff, Nat.reduceMod, Nat.reduceLT, Nat.reduceLeDiff, Nat.reduceSub, Nat.reduceMul, Nat.reduceBEq, Int.reduceAdd, Int.reduceSub, Int.reduceMul, Int.reduceNeg, Int.reduceLT, Int.reduceLE, Int.reduceToNat, Int.reduceEq, Int.reduceBEq, dec_t, dec_f]
    rfl
  · obtain ⟨x, y, h1, h2, h3, -, -⟩ := h
    simp only [rDirty, e, f]
    obtain ⟨b, s, rfl, -, ho, -⟩ := h3.sl_at hj
    have e3 := n1_d hj
    have e2 := n1_le hj
    simp -implicitDefEqProofs (disch := (first | omega | (simp only [lenB, MB.cells_len, N1.cells_len, Rf.cells_len] <;> omega) | fail)) only [admQ, lenB, MB.cells_len, N1.cells_len, Rf.cells_len, aFill, AK.cls, implies_true, ↓reduceIte, reduceCtorEq, if_true, if_false, Nat.reduceAdd, Nat.reduceEqDiff, Nat.reduceMod, Nat.reduceLT, Nat.reduceLeDiff, Nat.reduceSub, Nat.reduceMul, Nat.reduceBEq, Int.reduceAdd, Int.reduceSub, Int.reduceMul, Int.reduceNeg, Int.reduceLT, Int.reduceLE, Int.reduceToNat, Int.reduceEq, Int.reduceBEq, rowOf_own h1, rowOf_own ho, e3, dec_t, dec_f]
    rfl
theorem ans_rleaf (k : Nat) (hk : k < 64) (m : Mem) : Ans Try.prog 59 [.int .i64 k] m fun x m' => x = .int .i64 ((k / 8 + 1 : Nat) : Int) ∧ m' = m := by
  refine ans_ret mixed ok59 ?_
  simp -implicitDefEqProofs (disch := (first | omega | (simp only [lenB, MB.cells_len, N1.cells_len, Rf.cells_len] <;> omega) | fail)) only [admQ, lenB, MB.cells_len, N1.cells_len, Rf.cells_len, aFill, AK.cls, implies_true, ↓reduceIte, reduceCtorEq, if_true, if_false, Nat.reduceAdd, Nat.reduceEqDiff, Nat.reduceMod, Nat.reduceLT, Nat.reduceLeDiff, Nat.reduceSub, Nat.reduceMul, Nat.reduceBEq, Int.reduceAdd, Int.reduceSub, Int.reduceMul, Int.reduceNeg, Int.reduceLT, Int.reduceLE, Int.reduceToNat, Int.reduceEq, Int.reduceBEq, c59, r59]
theorem mb_first : AV.int .i64 0 :: Rf.zero.cells = (MB.mk 0 Rf.zero).cells := rfl
theorem n1_first : AV.int .i64 0 :: .bool false :: Rf.zero.cells = (N1.mk 0 false Rf.zero).cells := rfl
end Go.Proofs.Ytmklcealhjmlgaa
end
section
/- The document's tree: nodes and blocks changed. -/
namespace Go.Proofs.Ytmklcealhjmlgaa
open Go Go.Adm
set_option linter.unusedSimpArgs false
set_option maxRecDepth 100000
set_option maxHeartbeats 1000000
theorem GrL_one {α : Type} {f : α → List AV} {sz m0 : Nat} {m : Mem} {x : AV} {l : List α} (h : GrL f sz m0 m x l) : cellsV x = [x] ∧ x.solid = true ∧ x.flat = true := by
  rcases h with ⟨_, rfl⟩ | ⟨b, s, _, rfl, _⟩ <;> exact ⟨rfl, rfl, rfl⟩
theorem take_n1 (a : N1) : a.cells.take 35 = a.cells := List.take_of_length_le (by rw [a.cells_len]; exact Nat.le_refl _)
theorem take_mb (a : MB) : a.cells.take 34 = a.cells := List.take_of_length_le (by rw [a.cells_len]; exact Nat.le_refl _)
theorem splice_n1 (a b : N1) : splice a.cells 0 b.cells = b.cells := by simp [splice, N1.cells_len, List.drop_of_length_le]
theorem splice_mb (a b : MB) : splice a.cells 0 b.cells = b.cells := by simp [splice, MB.cells_len, List.drop_of_length_le]
theorem n1_key (a : N1) : a.cells[0]? = some (.int .i64 a.k) := rfl
def rWithout (nd : List N1) (k : Int) : List N1 := nd.filter fun n => !(n.k == k)
theorem filter_snoc {α : Type} (p : α → Bool) {l : List α} {j : Nat} (h : j < l.length) : (l.take (j + 1)).filter p = (l.take j).filter p ++ if p l[j] then [l[j]] else [] := by
  rw [take_snoc h, List.filter_append, List.filter_cons, List.filter_nil]
theorem ans_rwithout {m : Mem} {p : Nat} {D : List Nat} {bl : List MB} {nd : List N1} (h : RT m p D bl nd) (hl : nd.length < 1000) (k : Int) :
    Ans Try.prog 61 [.ptr p 0, .int .i64 k] m fun x m' => GrL N1.cells 35 m.length m' x (rWithout nd k) ∧ Kept [] m m' := by
  refine ans_ret mixed ok61 ?_
  obtain ⟨x, y, h1, h2, h3, -, -⟩ := h
  have hy := h3.len
  simp -implicitDefEqProofs (disch := (first | omega | (simp only [lenB, MB.cells_len, N1.cells_len, Rf.cells_len] <;> omega) | fail)) only [admQ, lenB, MB.cells_len, N1.cells_len, Rf.cells_len, aFill, AK.cls, implies_true, ↓reduceIte, reduceCtorEq, if_true, if_false, Nat.reduceAdd, Nat.reduceEqDiff, Nat.reduceMod, Nat.reduceLT, Nat.reduceLeDiff, Nat.reduceSub, Nat.reduceMul, Nat.reduceBEq, Int.reduceAdd, Int.reduceSub, Int.reduceMul, Int.reduceNeg, Int.reduceLT, Int.reduceLE, Int.reduceToNat, Int.reduceEq, Int.reduceBEq, c61, r61]
  refine LoopW.on (fun s : Nat × AV => [(0, .ptr p 0), (1, .int .i64 k), (5, s.2), (6, .int .i64 s.1)]) (fun s => nd.length - s.1)
    (fun s m' => s.1 ≤ nd.length ∧ Kept [] m m' ∧ GrL N1.cells 35 m.length m' s.2 ((nd.take s.1).filter fun n => !(n.k == k))) ?_ (0, .nils) _ _ rfl ⟨by omega, .refl _ _, .nils ..⟩
  rintro ⟨j, z⟩ m' X ⟨hj, hk, hz⟩ hX
  dsimp only at hj hk hz hX ⊢
  have h1' := hk.own0 h1
  by_cases hlt : j < nd.length
  · obtain ⟨b, s, rfl, -, ho, -⟩ := (h3.kept0 hk).sl_at hlt
    have e1 := n1_k hlt
    have e2 := n1_part hlt
    have e3 := n1_le hlt
    have hfl := List.length_filter_le (fun n : N1 => !(n.k == k)) (nd.take j)
    have htl : (nd.take j).length ≤ nd.length := by simp; omega
    have hfs := filter_snoc (fun n : N1 => !(n.k == k)) hlt
    have hml := hk.len
    by_cases he : (nd[j]).k = k
    · rw [beq_iff_eq.mpr he] at hfs
      simp -implicitDefEqProofs (disch := (first | omega | (simp only [lenB, MB.cells_len, N1.cells_len, Rf.cells_len] <;> omega) | fail)) only [admQ, lenB, MB.cells_len, N1.cells_len, Rf.cells_len, aFill, AK.cls, implies_true, ↓reduceIte, reduceCtorEq, if_true, if_false, Nat.reduceAdd, Nat.reduceEqDiff, Nat.reduceMod, Nat.reduceLT, Nat.reduceLeDiff, Nat.reduceSub, Nat.reduceMul, Nat.reduceBEq, Int.reduceAdd, Int.reduceSub, Int.reduceMul, Int.reduceNeg, Int.reduceLT, Int.reduceLE, Int.reduceToNat, Int.reduceEq, Int.reduceBEq, rowOf_own h1', rowOf_own ho, hy, e1, beq_iff_eq.mpr he, dec_t, dec_f]
      exact hX (j + 1, z) _ _ rfl (by simp; omega) ⟨by simp; omega, hk, by simp only; rw [hfs]; simpa using hz⟩
    · have hb : ((nd[j]).k == k) = false := beq_eq_false_iff_ne.mpr he
      rw [hb] at hfs
      obtain ⟨z', m2, ha, hg2, hk2, hf2, hb2⟩ := hz.push (bytes := 56) N1.cells_len (by omega) nd[j] (by omega) (by omega)
      simp -implicitDefEqProofs (disch := (first | omega | (simp only [lenB, MB.cells_len, N1.cells_len, Rf.cells_len] <;> omega) | fail)) only [admQ, lenB, MB.cells_len, N1.cells_len, Rf.cells_len, aFill, AK.cls, implies_true, ↓reduceIte, reduceCtorEq, if_true, if_false, Nat.reduceAdd, Nat.reduceEqDiff, Nat.reduceMod, Nat.reduceLT, Nat.reduceLeDiff, Nat.reduceSub, Nat.reduceMul, Nat.reduceBEq, Int.reduceAdd, Int.reduceSub, Int.reduceMul, Int.reduceNeg, Int.reduceLT, Int.reduceLE, Int.reduceToNat, Int.reduceEq, Int.reduceBEq, rowOf_own h1', rowOf_own ho, hy, e1, e2, hb, dec_t, dec_f, rf_zero, n1_first, splice_n1, take_n1, ha]
      exact hX (j + 1, z') _ _ rfl (by simp; omega) ⟨by simp; omega, hf2 _ _ hk (by omega), by simp only; rw [hfs]; exact hg2⟩
  · obtain rfl : j = nd.length := by omega
    rw [List.take_length] at hz
    simp -implicitDefEqProofs (disch := (first | omega | (simp only [lenB, MB.cells_len, N1.cells_len, Rf.cells_len] <;> omega) | fail)) only [admQ, lenB, MB.cells_len, N1.cells_len, Rf.cells_len, aFill, AK.cls, implies_true, ↓reduceIte, reduceCtorEq, if_true, if_false, Nat.reduceAdd, Nat.reduceEqDiff, Nat.reduceMod, Nat.reduceLT, Nat.reduceLeDiff, Nat.reduceSub, Nat.reduceMul, Nat.reduceBEq, Int.reduceAdd, Int.reduceSub, Int.reduceMul, Int.reduceNeg, Int.reduceLT, Int.reduceLE, Int.reduceToNat, Int.reduceEq, Int.reduceBEq, rowOf_own h1', hy, dec_t, dec_f]
    exact ⟨hz, hk⟩
def rIs (nd : List N1) (n : N1) : List N1 := rWithout nd n.k ++ [n]
theorem ans_ris {m : Mem} {p : Nat} {D : List Nat} {bl : List MB} {nd : List N1} (h : RT m p D bl nd) (hl : nd.length < 900) (hD : ∀ b ∈ D, b < m.length) (n : N1) :
    Ans Try.prog 62 [.ptr p 0, .agg n.cells] m fun _ m' => Kept [p] m m' ∧ RT m' p D bl (rIs nd n) := by
  refine ans_ret mixed ok62 ?_
  simp -implicitDefEqProofs (disch := (first | omega | (simp only [lenB, MB.cells_len, N1.cells_len, Rf.cells_len] <;> omega) | fail)) only [admQ, lenB, MB.cells_len, N1.cells_len, Rf.cells_len, aFill, AK.cls, implies_true, ↓reduceIte, reduceCtorEq, if_true, if_false, Nat.reduceAdd, Nat.reduceEqDiff, Nat.reduceMod, Nat.reduceLT, Nat.reduceLeDiff, Nat.reduceSub, Nat.reduceMul, Nat.reduceBEq, Int.reduceAdd, Int.reduceSub, Int.reduceMul, Int.reduceNeg, Int.reduceLT, Int.reduceLE, Int.reduceToNat, Int.reduceEq, Int.reduceBEq, c62, r62, n1_key]
  have hM := h.kept0 (.app [] m [.row n.cells false])
  have hq : own (m ++ [.row n.cells false]) m.length = some n.cells := by rw [own_app_at0, own_c0]
  have hk0 : Kept [p] m (m ++ [.row n.cells false]) := .app _ _ _
  have hlM : (m ++ [Blk.row n.cells false]).length = m.length + 1 := by simp
  have hpl := h.lt
  clear h
  generalize m ++ [Blk.row n.cells false] = M at *
  refine (ans_rwithout hM (by omega) n.k).mono ?_
  rintro z m2 ⟨hz, hk⟩
  have hq2 := hk.own0 hq
  have hfl := List.length_filter_le (fun a : N1 => !(a.k == n.k)) nd
  have hml := hk.len
  obtain ⟨z', m3, ha, hg3, hk3, hf3, hb3⟩ := hz.push (bytes := 56) N1.cells_len (by omega) n (by unfold rWithout; omega) (by omega)
  have hk03 := hf3 [] M hk (Nat.le_refl _)
  obtain ⟨x, y, h1, h2, h3, h4, h5⟩ := hM
  have h13 := hk03.own0 h1
  have h23 := h2.kept0 hk03
  obtain ⟨o1, o2, o3⟩ := GrL_one hg3
  simp -implicitDefEqProofs (disch := (first | omega | (simp only [lenB, MB.cells_len, N1.cells_len, Rf.cells_len] <;> omega) | fail)) only [admQ, lenB, MB.cells_len, N1.cells_len, Rf.cells_len, aFill, AK.cls, implies_true, ↓reduceIte, reduceCtorEq, if_true, if_false, Nat.reduceAdd, Nat.reduceEqDiff, Nat.reduceMod, Nat.reduceLT, Nat.reduceLeDiff, Nat.reduceSub, Nat.reduceMul, Nat.reduceBEq, Int.reduceAdd, Int.reduceSub, Int.reduceMul, Int.reduceNeg, Int.reduceLT, Int.reduceLE, Int.reduceToNat, Int.reduceEq, Int.reduceBEq, rowOf_own hq2, take_n1, rf_zero, n1_first, splice_n1, ha, h13, o1, o2, o3]
  have hk4 : Kept [p] m (m3.set p (.row [x, z'] false)) := (hk0.trans hk03.any).trans (.set1 _ _ _)
  have hs : splice [x, y] 1 [z'] = [x, z'] := rfl
  refine ⟨hk4, x, z', own_set (own_lt h13) _, h23.kept (.set1 _ _ _) (fun b hb => ?_), (hg3.low (by omega)).kept (.set1 _ _ _) (fun b hb => ?_), h4, fun b hb => ⟨fun hd => ?_, ?_⟩⟩
  · have := (h4 b hb).2; simp; omega
  · have := hg3.blk b hb; simp; omega
  · have := hg3.blk b hb; have := hD b hd; omega
  · have := hg3.blk b hb; omega
def rGone (nd : List N1) (k : Int) : List Rf := match rNode nd k with
  | some r => if 0 < r.at_ then [r] else []
  | none => []
theorem n1_setk (k : Int) (r : Rf) : splice (N1.mk 0 false r).cells 0 [.int .i64 k] = (N1.mk k false r).cells := rfl
theorem n1_setd (k : Int) (r : Rf) : splice (N1.mk k false r).cells 1 [.bool true] = (N1.mk k true r).cells := rfl
theorem n1_dirty (k : Int) : AV.int .i64 k :: .bool true :: Rf.zero.cells = (N1.mk k true Rf.zero).cells := rfl
theorem ans_rspoil {m : Mem} {p m0 : Nat} {bl : List MB} {nd : List N1} {d : AV} {dl : List Rf} {D : List Nat} (h : RT m p (D ++ blkOf d) bl nd) (hDl : ∀ b ∈ D, b < m.length) (hpD : p ∉ D) (hl : nd.length < 900) (hd : RfL m0 m d dl) (hdl : dl.length < 100) (hp : p < m0) (hm0 : m0 ≤ m.length)
    {M0 : Mem} (hk0 : Kept [p] M0 m) (hM : M0.length ≤ m0) (k : Int) :
    Ans Try.prog 58 [.ptr p 0, d, .int .i64 k] m fun x m' => RfL m0 m' x (dl ++ rGone nd k) ∧ Kept [p] M0 m' ∧ RT m' p (D ++ blkOf x) bl (rIs nd ⟨k, true, Rf.zero⟩) ∧ m0 ≤ m'.length := by
  refine ans_ret mixed ok58 ?_
  simp -implicitDefEqProofs (disch := (first | omega | (simp only [lenB, MB.cells_len, N1.cells_len, Rf.cells_len] <;> omega) | fail)) only [admQ, lenB, MB.cells_len, N1.cells_len, Rf.cells_len, aFill, AK.cls, implies_true, ↓reduceIte, reduceCtorEq, if_true, if_false, Nat.reduceAdd, Nat.reduceEqDiff, Nat.reduceMod, Nat.reduceLT, Nat.reduceLeDiff, Nat.reduceSub, Nat.reduceMul, Nat.reduceBEq, Int.reduceAdd, Int.reduceSub, Int.reduceMul, Int.reduceNeg, Int.reduceLT, Int.reduceLE, Int.reduceToNat, Int.reduceEq, Int.reduceBEq, p58, r58]
  refine (ans_rnode h (by omega) k).mono ?_
  rintro _ m1 ⟨rfl, hk1⟩
  have hd1 := hd.kept0 hk1
  have h1 := h.kept0 hk1
  have hk01 := hk0.trans hk1.any
  have hml := hk1.len
  simp -implicitDefEqProofs (disch := (first | omega | (simp only [lenB, MB.cells_len, N1.cells_len, Rf.cells_len] <;> omega) | fail)) only [admQ, lenB, MB.cells_len, N1.cells_len, Rf.cells_len, aFill, AK.cls, implies_true, ↓reduceIte, reduceCtorEq, if_true, if_false, Nat.reduceAdd, Nat.reduceEqDiff, Nat.reduceMod, Nat.reduceLT, Nat.reduceLeDiff, Nat.reduceSub, Nat.reduceMul, Nat.reduceBEq, Int.reduceAdd, Int.reduceSub, Int.reduceMul, Int.reduceNeg, Int.reduceLT, Int.reduceLE, Int.reduceToNat, Int.reduceEq, Int.reduceBEq, rf_zero, splice_rf]
  have hq : own (m1 ++ [.row ((rNode nd k).getD Rf.zero).cells false]) m1.length = some ((rNode nd k).getD Rf.zero).cells := by rw [own_app_at0, own_c0]
  have hd2 := hd1.kept0 (.app [] m1 [.row ((rNode nd k).getD Rf.zero).cells false])
  have h2 := h1.kept0 (.app [] m1 [.row ((rNode nd k).getD Rf.zero).cells false])
  have hk02 := hk01.more_app [.row ((rNode nd k).getD Rf.zero).cells false]
  have hl2 : m1.length < (m1 ++ [Blk.row ((rNode nd k).getD Rf.zero).cells false]).length := by simp
  generalize m1 ++ [Blk.row ((rNode nd k).getD Rf.zero).cells false] = m2 at *
  generalize m1.length = R at *
  clear hk0 hk1 hd hd1 h h1 hk01 m1 
  refine wp_join2 [0, 1, 2] (fun x : AV => [(0, .ptr p 0), (1, x), (2, .int .i64 k)])
    (fun x M => RfL m0 M x (dl ++ rGone nd k) ∧ Kept [p] M0 M ∧ RT M p (D ++ blkOf x) bl nd ∧ m0 ≤ M.length ∧ m2.length ≤ M.length) rfl ?_ ?_
  · have stay : rGone nd k = [] → ∃ x : AV, ([(0, .ptr p 0), (1, d), (2, .int .i64 k)] : AFr) = [(0, .ptr p 0), (1, x), (2, .int .i64 k)] ∧ RfL m0 m2 x (dl ++ rGone nd k) ∧ Kept [p] M0 m2 ∧ RT m2 p (D ++ blkOf x) bl nd ∧ m0 ≤ m2.length := fun e => ⟨d, rfl, by rw [e, List.append_nil]; exact hd2, hk02, h2, by omega⟩
    cases hn : rNode nd k with
    | none =>
      simp -implicitDefEqProofs (disch := (first | omega | (simp only [lenB, MB.cells_len, N1.cells_len, Rf.cells_len] <;> omega) | fail)) only [admQ, lenB, MB.cells_len, N1.cells_len, Rf.cells_len, aFill, AK.cls, implies_true, ↓reduceIte, reduceCtorEq, if_true, if_false, Nat.reduceAdd, Nat.reduceEqDiff, Nat.reduceMod, Nat.reduceLT, Nat.reduceLeDiff, Nat.reduceSub, Nat.reduceMul, Nat.reduceBEq, Int.reduceAdd, Int.reduceSub, Int.reduceMul, Int.reduceNeg, Int.reduceLT, Int.reduceLE, Int.reduceToNat, Int.reduceEq, Int.reduceBEq, c58_1, joins, hn, Option.isSome_none, Option.isSome_some, Option.getD_some]
      exact stay (by rw [rGone, hn])
    | some r =>
      rw [hn] at hq
      by_cases ha : 0 < r.at_
      · obtain ⟨z', m3, hap, hg3, hk3, hf3, hb3⟩ := hd2.push (bytes := 40) Rf.cells_len (by omega) r (by omega) (by omega)
        simp -implicitDefEqProofs (disch := (first | omega | (simp only [lenB, MB.cells_len, N1.cells_len, Rf.cells_len] <;> omega) | fail)) only [admQ, lenB, MB.cells_len, N1.cells_len, Rf.cells_len, aFill, AK.cls, implies_true, ↓reduceIte, reduceCtorEq, if_true, if_false, Nat.reduceAdd, Nat.reduceEqDiff, Nat.reduceMod, Nat.reduceLT, Nat.reduceLeDiff, Nat.reduceSub, Nat.reduceMul, Nat.reduceBEq, Int.reduceAdd, Int.reduceSub, Int.reduceMul, Int.reduceNeg, Int.reduceLT, Int.reduceLE, Int.reduceToNat, Int.reduceEq, Int.reduceBEq, c58_1, joins, hn, rowOf_own hq, rf_at, dec_t ha, take_rf, rf_zero, splice_rf, hap, Option.isSome_some, Option.getD_some]
        have eg : rGone nd k = [r] := by rw [rGone, hn]; exact if_pos ha
        have hl3 := hk3.len
        have hpd : p ∉ D ++ blkOf d := fun h => by
          rcases List.mem_append.mp h with h | h
          · exact hpD h
          · have := hd2.blk _ h; omega
        exact ⟨z', rfl, by rw [eg]; exact hg3, hf3 _ _ hk02 hM, h2.anew hk3 (fun q hq => .inr (List.mem_append_right _ hq)) hpd (fun b hb => by
          rcases List.mem_append.mp hb with h | h
          · exact .inl (List.mem_append_left _ h)
          · exact .inr (by have := hb3 b h; omega)), by omega, by omega⟩
      · simp -implicitDefEqProofs (disch := (first | omega | (simp only [lenB, MB.cells_len, N1.cells_len, Rf.cells_len] <;> omega) | fail)) only [admQ, lenB, MB.cells_len, N1.cells_len, Rf.cells_len, aFill, AK.cls, implies_true, ↓reduceIte, reduceCtorEq, if_true, if_false, Nat.reduceAdd, Nat.reduceEqDiff, Nat.reduceMod, Nat.reduceLT, Nat.reduceLeDiff, Nat.reduceSub, Nat.reduceMul, Nat.reduceBEq, Int.reduceAdd, Int.reduceSub, Int.reduceMul, Int.reduceNeg, Int.reduceLT, Int.reduceLE, Int.reduceToNat, Int.reduceEq, Int.reduceBEq, c58_1, joins, hn, rowOf_own hq, rf_at, dec_f ha, Option.isSome_some, Option.getD_some]
        exact stay (by rw [rGone, hn]; exact if_neg ha)
  · rintro x M ⟨hx, kM, hT, hlM, hlM2⟩
    simp -implicitDefEqProofs (disch := (first | omega | (simp only [lenB, MB.cells_len, N1.cells_len, Rf.cells_len] <;> omega) | fail)) only [admQ, lenB, MB.cells_len, N1.cells_len, Rf.cells_len, aFill, AK.cls, implies_true, ↓reduceIte, reduceCtorEq, if_true, if_false, Nat.reduceAdd, Nat.reduceEqDiff, Nat.reduceMod, Nat.reduceLT, Nat.reduceLeDiff, Nat.reduceSub, Nat.reduceMul, Nat.reduceBEq, Int.reduceAdd, Int.reduceSub, Int.reduceMul, Int.reduceNeg, Int.reduceLT, Int.reduceLE, Int.reduceToNat, Int.reduceEq, Int.reduceBEq, c58_2, rf_zero, n1_first, n1_setk, n1_setd]
    refine (ans_ris hT hl (fun b hb => by
      rcases List.mem_append.mp hb with h | h
      · have := hDl b h; omega
      · exact hx.lt b h) ⟨k, true, Rf.zero⟩).mono ?_
    rintro y M2 ⟨hk2, hT2⟩
    simp -implicitDefEqProofs (disch := (first | omega | (simp only [lenB, MB.cells_len, N1.cells_len, Rf.cells_len] <;> omega) | fail)) only [admQ, lenB, MB.cells_len, N1.cells_len, Rf.cells_len, aFill, AK.cls, implies_true, ↓reduceIte, reduceCtorEq, if_true, if_false, Nat.reduceAdd, Nat.reduceEqDiff, Nat.reduceMod, Nat.reduceLT, Nat.reduceLeDiff, Nat.reduceSub, Nat.reduceMul, Nat.reduceBEq, Int.reduceAdd, Int.reduceSub, Int.reduceMul, Int.reduceNeg, Int.reduceLT, Int.reduceLE, Int.reduceToNat, Int.reduceEq, Int.reduceBEq]
    exact ⟨hx.kept hk2 (fun b hb => by have := hx.blk b hb; simp; omega), kM.trans hk2, hT2, Nat.le_trans hlM hk2.len⟩
/-- A block's ref is put into a list. -/
def putB (k : Int) (r : Rf) : Bool → List MB → List MB
  | laid, [] => if laid then [] else [⟨k, r⟩]
  | laid, b :: l => (if laid = false ∧ k ≤ b.k then [⟨k, r⟩] else []) ++ ((if b.k = k then [] else [b]) ++ putB k r (laid || decide (k ≤ b.k)) l)
def rPut (bl : List MB) (k : Int) (r : Rf) : List MB := putB k r (decide (r.at_ < 1)) bl
theorem mb_key (a : MB) : a.cells[0]? = some (.int .i64 a.k) := rfl
theorem mb_setk (k : Int) (r : Rf) : splice (MB.mk 0 r).cells 0 [.int .i64 k] = (MB.mk k r).cells := rfl
theorem mb_setr (k : Int) (r r' : Rf) : splice (MB.mk k r).cells 1 r'.cells = (MB.mk k r').cells := by
  simp only [splice, MB.cells, List.take_succ_cons, List.take_zero, List.singleton_append, List.cons.injEq, true_and, List.cons_append]
  simp [Rf.cells_len, List.drop_of_length_le]
theorem ans_rput {m : Mem} {p : Nat} {D : List Nat} {bl : List MB} {nd : List N1} (h : RT m p D bl nd) (hl : bl.length < 900) (hD : ∀ b ∈ D, b < m.length) (k : Int) (r : Rf) :
    Ans Try.prog 57 [.ptr p 0, .int .i64 k, .agg r.cells] m fun _ m' => Kept [p] m m' ∧ RT m' p D (rPut bl k r) nd := by
  refine ans_ret mixed ok57 ?_
  simp -implicitDefEqProofs (disch := (first | omega | (simp only [lenB, MB.cells_len, N1.cells_len, Rf.cells_len] <;> omega) | fail)) only [admQ, lenB, MB.cells_len, N1.cells_len, Rf.cells_len, aFill, AK.cls, implies_true, ↓reduceIte, reduceCtorEq, if_true, if_false, Nat.reduceAdd, Nat.reduceEqDiff, Nat.reduceMod, Nat.reduceLT, Nat.reduceLeDiff, Nat.reduceSub, Nat.reduceMul, Nat.reduceBEq, Int.reduceAdd, Int.reduceSub, Int.reduceMul, Int.reduceNeg, Int.reduceLT, Int.reduceLE, Int.reduceToNat, Int.reduceEq, Int.reduceBEq, p57, r57, rf_at]
  have hM := h.kept0 (.app [] m [.row r.cells false])
  have hq : own (m ++ [.row r.cells false]) m.length = some r.cells := by rw [own_app_at0, own_c0]
  have hk0 : Kept [p] m (m ++ [.row r.cells false]) := .app _ _ _
  have hlM : (m ++ [Blk.row r.cells false]).length = m.length + 1 := by simp
  have hpl := h.lt
  clear h
  generalize m ++ [Blk.row r.cells false] = M at *
  have hM' := hM
  obtain ⟨x, y, h1, h2, h3, h4, h5⟩ := hM'
  have hx := h2.len
  refine LoopW.on (fun s : Nat × Bool × AV × List MB => [(0, .ptr p 0), (1, .int .i64 k), (5, .ptr m.length 0), (6, s.2.2.1), (7, .bool s.2.1), (8, .int .i64 s.1)]) (fun s => bl.length - s.1)
    (fun s m' => s.1 ≤ bl.length ∧ Kept [] M m' ∧ GrL MB.cells 34 M.length m' s.2.2.1 s.2.2.2 ∧ s.2.2.2 ++ putB k r s.2.1 (bl.drop s.1) = rPut bl k r ∧ s.2.2.2.length ≤ 2 * s.1) ?_ (0, decide (r.at_ < 1), .nils, []) _ _ rfl ⟨by omega, .refl _ _, .nils .., rfl, by simp⟩
  rintro ⟨j, laid, z, acc⟩ m' X ⟨hj, hk, hz, hp, ha⟩ hX
  dsimp only at hj hk hz hp ha hX ⊢
  have h1' := hk.own0 h1
  have hq' := hk.own0 hq
  have hml := hk.len
  by_cases hlt : j < bl.length
  · obtain ⟨b, s, rfl, -, ho, -⟩ := (h2.kept0 hk).sl_at hlt
    have e1 := mb_k hlt
    have e2 := mb_part hlt
    have e3 := mb_le hlt
    rw [List.drop_eq_getElem_cons hlt] at hp
    simp only [putB] at hp
    generalize bl[j] = B at *
    simp -implicitDefEqProofs (disch := (first | omega | (simp only [lenB, MB.cells_len, N1.cells_len, Rf.cells_len] <;> omega) | fail)) only [admQ, lenB, MB.cells_len, N1.cells_len, Rf.cells_len, aFill, AK.cls, implies_true, ↓reduceIte, reduceCtorEq, if_true, if_false, Nat.reduceAdd, Nat.reduceEqDiff, Nat.reduceMod, Nat.reduceLT, Nat.reduceLeDiff, Nat.reduceSub, Nat.reduceMul, Nat.reduceBEq, Int.reduceAdd, Int.reduceSub, Int.reduceMul, Int.reduceNeg, Int.reduceLT, Int.reduceLE, Int.reduceToNat, Int.reduceEq, Int.reduceBEq, rowOf_own h1', hx, dec_t, dec_f]
    refine wp_join2 [0, 1, 5, 6, 7, 8] (fun s : Bool × AV => [(0, .ptr p 0), (1, .int .i64 k), (5, .ptr m.length 0), (6, s.2), (7, .bool s.1), (8, .int .i64 j)])
      (fun s M2 => ∃ acc2, Kept [] M M2 ∧ GrL MB.cells 34 M.length M2 s.2 acc2 ∧ acc2 ++ ((if B.k = k then [] else [B]) ++ putB k r s.1 (bl.drop (j + 1))) = rPut bl k r ∧ acc2.length ≤ 2 * j + 1) rfl ?_ ?_
    · cases laid with
      | true =>
        simp -implicitDefEqProofs (disch := (first | omega | (simp only [lenB, MB.cells_len, N1.cells_len, Rf.cells_len] <;> omega) | fail)) only [admQ, lenB, MB.cells_len, N1.cells_len, Rf.cells_len, aFill, AK.cls, implies_true, ↓reduceIte, reduceCtorEq, if_true, if_false, Nat.reduceAdd, Nat.reduceEqDiff, Nat.reduceMod, Nat.reduceLT, Nat.reduceLeDiff, Nat.reduceSub, Nat.reduceMul, Nat.reduceBEq, Int.reduceAdd, Int.reduceSub, Int.reduceMul, Int.reduceNeg, Int.reduceLT, Int.reduceLE, Int.reduceToNat, Int.reduceEq, Int.reduceBEq, c57_1, joins, Bool.not_true]
        exact ⟨(true, z), rfl, acc, hk, hz, by simpa using hp, by omega⟩
      | false =>
        by_cases hc : k ≤ B.k
        · obtain ⟨z', m2, hap, hg2, hk2, hf2, hb2⟩ := hz.push (bytes := 48) MB.cells_len (by omega) ⟨k, r⟩ (by omega) (by omega)
          rw [if_pos ⟨rfl, hc⟩, decide_eq_true hc] at hp
          simp -implicitDefEqProofs (disch := (first | omega | (simp only [lenB, MB.cells_len, N1.cells_len, Rf.cells_len] <;> omega) | fail)) only [admQ, lenB, MB.cells_len, N1.cells_len, Rf.cells_len, aFill, AK.cls, implies_true, ↓reduceIte, reduceCtorEq, if_true, if_false, Nat.reduceAdd, Nat.reduceEqDiff, Nat.reduceMod, Nat.reduceLT, Nat.reduceLeDiff, Nat.reduceSub, Nat.reduceMul, Nat.reduceBEq, Int.reduceAdd, Int.reduceSub, Int.reduceMul, Int.reduceNeg, Int.reduceLT, Int.reduceLE, Int.reduceToNat, Int.reduceEq, Int.reduceBEq, c57_1, joins, Bool.not_false, rowOf_own h1', rowOf_own ho, e1, dec_t hc, rowOf_own hq', take_rf, rf_zero, mb_first, mb_setk, mb_setr, splice_mb, take_mb, hap]
          exact ⟨(true, z'), rfl, acc ++ [⟨k, r⟩], hf2 _ _ hk (Nat.le_refl _), hg2, by simpa using hp, by simp; omega⟩
        · rw [if_neg (fun h => hc h.2), decide_eq_false hc] at hp
          simp -implicitDefEqProofs (disch := (first | omega | (simp only [lenB, MB.cells_len, N1.cells_len, Rf.cells_len] <;> omega) | fail)) only [admQ, lenB, MB.cells_len, N1.cells_len, Rf.cells_len, aFill, AK.cls, implies_true, ↓reduceIte, reduceCtorEq, if_true, if_false, Nat.reduceAdd, Nat.reduceEqDiff, Nat.reduceMod, Nat.reduceLT, Nat.reduceLeDiff, Nat.reduceSub, Nat.reduceMul, Nat.reduceBEq, Int.reduceAdd, Int.reduceSub, Int.reduceMul, Int.reduceNeg, Int.reduceLT, Int.reduceLE, Int.reduceToNat, Int.reduceEq, Int.reduceBEq, c57_1, joins, Bool.not_false, rowOf_own h1', rowOf_own ho, e1, dec_f hc]
          exact ⟨(false, z), rfl, acc, hk, hz, by simpa using hp, by omega⟩
    · rintro ⟨laid2, z2⟩ M2 ⟨acc2, kM, gM, hp2, ha2⟩
      dsimp only at gM hp2 ⊢
      have h1'' := kM.own0 h1
      have hrow := (h2.kept0 kM).sl_at hlt
      obtain ⟨b', s', hbs, -, ho', -⟩ := hrow
      cases hbs
      have hml2 := kM.len
      by_cases he : B.k = k
      · rw [if_pos he, List.nil_append] at hp2
        simp -implicitDefEqProofs (disch := (first | omega | (simp only [lenB, MB.cells_len, N1.cells_len, Rf.cells_len] <;> omega) | fail)) only [admQ, lenB, MB.cells_len, N1.cells_len, Rf.cells_len, aFill, AK.cls, implies_true, ↓reduceIte, reduceCtorEq, if_true, if_false, Nat.reduceAdd, Nat.reduceEqDiff, Nat.reduceMod, Nat.reduceLT, Nat.reduceLeDiff, Nat.reduceSub, Nat.reduceMul, Nat.reduceBEq, Int.reduceAdd, Int.reduceSub, Int.reduceMul, Int.reduceNeg, Int.reduceLT, Int.reduceLE, Int.reduceToNat, Int.reduceEq, Int.reduceBEq, c57_2, rowOf_own h1'', rowOf_own ho', e1, beq_iff_eq.mpr he]
        exact hX (j + 1, laid2, z2, acc2) _ _ rfl (by simp; omega) ⟨by simp; omega, kM, gM, hp2, by simp; omega⟩
      · rw [if_neg he] at hp2
        obtain ⟨z', m3, hap, hg3, hk3, hf3, hb3⟩ := gM.push (bytes := 48) MB.cells_len (by omega) B (by omega) (by omega)
        simp -implicitDefEqProofs (disch := (first | omega | (simp only [lenB, MB.cells_len, N1.cells_len, Rf.cells_len] <;> omega) | fail)) only [admQ, lenB, MB.cells_len, N1.cells_len, Rf.cells_len, aFill, AK.cls, implies_true, ↓reduceIte, reduceCtorEq, if_true, if_false, Nat.reduceAdd, Nat.reduceEqDiff, Nat.reduceMod, Nat.reduceLT, Nat.reduceLeDiff, Nat.reduceSub, Nat.reduceMul, Nat.reduceBEq, Int.reduceAdd, Int.reduceSub, Int.reduceMul, Int.reduceNeg, Int.reduceLT, Int.reduceLE, Int.reduceToNat, Int.reduceEq, Int.reduceBEq, c57_2, rowOf_own h1'', rowOf_own ho', e1, e2, beq_eq_false_iff_ne.mpr he, rf_zero, mb_first, splice_mb, take_mb, hap]
        exact hX (j + 1, laid2, z', acc2 ++ [B]) _ _ rfl (by simp; omega) ⟨by simp; omega, hf3 _ _ kM (Nat.le_refl _), hg3, by simpa using hp2, by simp; omega⟩
  · obtain rfl : j = bl.length := by omega
    rw [List.drop_length] at hp
    simp only [putB] at hp
    have fin : ∀ (z2 : AV) (M2 : Mem), Kept [] M M2 → GrL MB.cells 34 M.length M2 z2 (rPut bl k r) → Kept [p] m (M2.set p (.row [z2, y] false)) ∧ RT (M2.set p (.row [z2, y] false)) p D (rPut bl k r) nd := fun z2 M2 kM gM => by
      have h13 := kM.own0 h1
      have h33 := h3.kept0 kM
      refine ⟨(hk0.trans kM.any).trans (.set1 _ _ _), z2, y, own_set (own_lt h13) _, (gM.low (by omega)).kept (.set1 _ _ _) (fun b hb => ?_), h33.kept (.set1 _ _ _) (fun b hb => ?_), fun b hb => ⟨fun hd => ?_, ?_⟩, h5⟩
      · have := gM.blk b hb; simp; omega
      · have := (h5 b hb).2; simp; omega
      · have := gM.blk b hb; have := hD b hd; omega
      · have := gM.blk b hb; omega
    cases laid with
    | true =>
      simp only [if_true, List.append_nil] at hp
      rw [hp] at hz
      obtain ⟨o1, o2, o3⟩ := GrL_one hz
      simp -implicitDefEqProofs (disch := (first | omega | (simp only [lenB, MB.cells_len, N1.cells_len, Rf.cells_len] <;> omega) | fail)) only [admQ, lenB, MB.cells_len, N1.cells_len, Rf.cells_len, aFill, AK.cls, implies_true, ↓reduceIte, reduceCtorEq, if_true, if_false, Nat.reduceAdd, Nat.reduceEqDiff, Nat.reduceMod, Nat.reduceLT, Nat.reduceLeDiff, Nat.reduceSub, Nat.reduceMul, Nat.reduceBEq, Int.reduceAdd, Int.reduceSub, Int.reduceMul, Int.reduceNeg, Int.reduceLT, Int.reduceLE, Int.reduceToNat, Int.reduceEq, Int.reduceBEq, rowOf_own h1', hx, dec_t, dec_f, Bool.not_true, h1', o1, o2, o3]
      exact fin z m' hk hz
    | false =>
      simp only [Bool.false_eq_true, if_false] at hp
      obtain ⟨z', m2, hap, hg2, hk2, hf2, hb2⟩ := hz.push (bytes := 48) MB.cells_len (by omega) ⟨k, r⟩ (by omega) (by omega)
      rw [hp] at hg2
      obtain ⟨o1, o2, o3⟩ := GrL_one hg2
      have k2 := hf2 _ _ hk (Nat.le_refl _)
      have h12 := k2.own0 h1
      simp -implicitDefEqProofs (disch := (first | omega | (simp only [lenB, MB.cells_len, N1.cells_len, Rf.cells_len] <;> omega) | fail)) only [admQ, lenB, MB.cells_len, N1.cells_len, Rf.cells_len, aFill, AK.cls, implies_true, ↓reduceIte, reduceCtorEq, if_true, if_false, Nat.reduceAdd, Nat.reduceEqDiff, Nat.reduceMod, Nat.reduceLT, Nat.reduceLeDiff, Nat.reduceSub, Nat.reduceMul, Nat.reduceBEq, Int.reduceAdd, Int.reduceSub, Int.reduceMul, Int.reduceNeg, Int.reduceLT, Int.reduceLE, Int.reduceToNat, Int.reduceEq, Int.reduceBEq, rowOf_own h1', hx, dec_t, dec_f, Bool.not_false, rowOf_own hq', take_rf, rf_zero, mb_first, mb_setk, mb_setr, splice_mb, take_mb, hap, h12, o1, o2, o3]
      exact fin z' m2 k2 hg2
end Go.Proofs.Ytmklcealhjmlgaa
end
section
/- The document's tree: Set, Del, Touch. -/
namespace Go.Proofs.Ytmklcealhjmlgaa
open Go Go.Adm
set_option linter.unusedSimpArgs false
set_option maxRecDepth 100000
set_option maxHeartbeats 1000000
def rSpN (nd : List N1) (k : Nat) : List N1 := rIs (rIs nd ⟨((k / 8 + 1 : Nat) : Int), true, Rf.zero⟩) ⟨0, true, Rf.zero⟩
def rSpR (nd : List N1) (k : Nat) : List Rf := rGone nd ((k / 8 + 1 : Nat) : Int) ++ rGone (rIs nd ⟨((k / 8 + 1 : Nat) : Int), true, Rf.zero⟩) 0
theorem rIs_len (nd : List N1) (n : N1) : (rIs nd n).length ≤ nd.length + 1 := by
  have := List.length_filter_le (fun a : N1 => !(a.k == n.k)) nd
  simp only [rIs, rWithout, List.length_append, List.length_singleton]; omega
theorem rGone_len (nd : List N1) (k : Int) : (rGone nd k).length ≤ 1 := by
  unfold rGone; split
  · split <;> simp
  · simp
def rSetB (bl : List MB) (k : Int) (r : Rf) : List MB := if Tr.setOk k r then rPut bl k r else bl
def rSetN (nd : List N1) (k : Int) (r : Rf) : List N1 := if Tr.setOk k r then rSpN nd k.toNat else nd
def rSetR (bl : List MB) (nd : List N1) (k : Int) (r : Rf) : List Rf := if Tr.setOk k r then (rGet bl k).toList ++ rSpR nd k.toNat else []
theorem ans_rset {m : Mem} {p : Nat} {D : List Nat} {bl : List MB} {nd : List N1} (h : RT m p D bl nd) (hDl : ∀ b ∈ D, b < m.length) (hpD : p ∉ D) (hb : bl.length < 800) (hl : nd.length < 800) (k : Int) (r : Rf) :
    Ans Try.prog 45 [.ptr p 0, .int .i64 k, .agg r.cells] m fun x m' => RfL m.length m' x (rSetR bl nd k r) ∧ Kept [p] m m' ∧ RT m' p D (rSetB bl k r) (rSetN nd k r) := by
  refine ans_ret mixed ok45 ?_
  have hM := h.kept0 (.app [] m [.row r.cells false])
  have hq : own (m ++ [.row r.cells false]) m.length = some r.cells := by rw [own_app_at0, own_c0]
  have hk0 : Kept [p] m (m ++ [.row r.cells false]) := .app _ _ _
  have hlM : (m ++ [Blk.row r.cells false]).length = m.length + 1 := by simp
  have hpl := h.lt
  by_cases ho : Tr.setOk k r
  · rw [rSetR, rSetB, rSetN, if_pos ho, if_pos ho, if_pos ho]
    obtain ⟨⟨g1, g2⟩, g3⟩ := ho
    obtain ⟨k, rfl⟩ := Int.eq_ofNat_of_zero_le g1
    rw [Int.toNat_natCast]
    have hk : k < 64 := by omega
    simp -implicitDefEqProofs (disch := (first | omega | (simp only [lenB, MB.cells_len, N1.cells_len, Rf.cells_len] <;> omega) | fail)) only [admQ, lenB, MB.cells_len, N1.cells_len, Rf.cells_len, aFill, AK.cls, implies_true, ↓reduceIte, reduceCtorEq, if_true, if_false, Nat.reduceAdd, Nat.reduceEqDiff, Nat.reduceMod, Nat.reduceLT, Nat.reduceLeDiff, Nat.reduceSub, Nat.reduceMul, Nat.reduceBEq, Int.reduceAdd, Int.reduceSub, Int.reduceMul, Int.reduceNeg, Int.reduceLT, Int.reduceLE, Int.reduceToNat, Int.reduceEq, Int.reduceBEq, p45, r45, rf_at, dec_t, dec_f]
    clear h
    generalize m ++ [Blk.row r.cells false] = M at *
    refine (ans_rget hM (by omega) k).mono ?_
    rintro _ M1 ⟨rfl, hk1⟩
    have h1 := hM.kept0 hk1
    have hq1 := hk1.own0 hq
    have hk01 := hk0.trans hk1.any
    have hml := hk1.len
    simp -implicitDefEqProofs (disch := (first | omega | (simp only [lenB, MB.cells_len, N1.cells_len, Rf.cells_len] <;> omega) | fail)) only [admQ, lenB, MB.cells_len, N1.cells_len, Rf.cells_len, aFill, AK.cls, implies_true, ↓reduceIte, reduceCtorEq, if_true, if_false, Nat.reduceAdd, Nat.reduceEqDiff, Nat.reduceMod, Nat.reduceLT, Nat.reduceLeDiff, Nat.reduceSub, Nat.reduceMul, Nat.reduceBEq, Int.reduceAdd, Int.reduceSub, Int.reduceMul, Int.reduceNeg, Int.reduceLT, Int.reduceLE, Int.reduceToNat, Int.reduceEq, Int.reduceBEq, rf_zero, splice_rf]
    have h2 := h1.kept0 (.app [] M1 [.row ((rGet bl k).getD Rf.zero).cells false])
    have hq2 := own_app hq1 [.row ((rGet bl k).getD Rf.zero).cells false]
    have hg2 : own (M1 ++ [.row ((rGet bl k).getD Rf.zero).cells false]) M1.length = some ((rGet bl k).getD Rf.zero).cells := by rw [own_app_at0, own_c0]
    have hk02 := hk01.more_app [.row ((rGet bl k).getD Rf.zero).cells false]
    have hl2 : M1.length < (M1 ++ [Blk.row ((rGet bl k).getD Rf.zero).cells false]).length := by simp
    generalize M1 ++ [Blk.row ((rGet bl k).getD Rf.zero).cells false] = M2 at *
    generalize M1.length = R at *
    clear hk1 h1 hq1 hk01 hM hk0 hq
    refine wp_join2 [0, 1, 5, 7] (fun x : AV => [(0, .ptr p 0), (1, .int .i64 k), (5, .ptr m.length 0), (7, x)])
      (fun x M => RfL M2.length M x (rGet bl k).toList ∧ Kept [p] m M ∧ RT M p (D ++ blkOf x) bl nd ∧ own M m.length = some r.cells ∧ M2.length ≤ M.length) rfl ?_ ?_
    · cases hn : rGet bl (k : Int) with
      | none =>
        simp -implicitDefEqProofs (disch := (first | omega | (simp only [lenB, MB.cells_len, N1.cells_len, Rf.cells_len] <;> omega) | fail)) only [admQ, lenB, MB.cells_len, N1.cells_len, Rf.cells_len, aFill, AK.cls, implies_true, ↓reduceIte, reduceCtorEq, if_true, if_false, Nat.reduceAdd, Nat.reduceEqDiff, Nat.reduceMod, Nat.reduceLT, Nat.reduceLeDiff, Nat.reduceSub, Nat.reduceMul, Nat.reduceBEq, Int.reduceAdd, Int.reduceSub, Int.reduceMul, Int.reduceNeg, Int.reduceLT, Int.reduceLE, Int.reduceToNat, Int.reduceEq, Int.reduceBEq, c45_1, joins, hn, Option.isSome_none, Option.isSome_some, Option.getD_some]
        exact ⟨.nils, rfl, .nils .., hk02, h2.fresh (by simp [blkOf]; exact fun b h => .inl h), hq2⟩
      | some v =>
        rw [hn] at hg2
        obtain ⟨z', m3, hap, hg3, hk3, hf3, hb3⟩ := (GrL.nils Rf.cells 33 M2.length M2).push (bytes := 40) Rf.cells_len (by omega) v (by simp) (by omega)
        simp -implicitDefEqProofs (disch := (first | omega | (simp only [lenB, MB.cells_len, N1.cells_len, Rf.cells_len] <;> omega) | fail)) only [admQ, lenB, MB.cells_len, N1.cells_len, Rf.cells_len, aFill, AK.cls, implies_true, ↓reduceIte, reduceCtorEq, if_true, if_false, Nat.reduceAdd, Nat.reduceEqDiff, Nat.reduceMod, Nat.reduceLT, Nat.reduceLeDiff, Nat.reduceSub, Nat.reduceMul, Nat.reduceBEq, Int.reduceAdd, Int.reduceSub, Int.reduceMul, Int.reduceNeg, Int.reduceLT, Int.reduceLE, Int.reduceToNat, Int.reduceEq, Int.reduceBEq, c45_1, joins, hn, rowOf_own hg2, take_rf, rf_zero, splice_rf, hap, Option.isSome_some, Option.getD_some]
        have hk3' : Kept [] M2 m3 := hk3
        have := hk3.len
        exact ⟨z', rfl, hg3, hk02.trans hk3'.any, h2.anew hk3' (by simp) hpD (fun b hb => by
          rcases List.mem_append.mp hb with h | h
          · exact .inl h
          · exact .inr (by have := hb3 b h; omega)), hk3'.own0 hq2, by omega⟩
    · rintro x M ⟨hx, kM, hT, hqM, hlM2⟩
      simp -implicitDefEqProofs (disch := (first | omega | (simp only [lenB, MB.cells_len, N1.cells_len, Rf.cells_len] <;> omega) | fail)) only [admQ, lenB, MB.cells_len, N1.cells_len, Rf.cells_len, aFill, AK.cls, implies_true, ↓reduceIte, reduceCtorEq, if_true, if_false, Nat.reduceAdd, Nat.reduceEqDiff, Nat.reduceMod, Nat.reduceLT, Nat.reduceLeDiff, Nat.reduceSub, Nat.reduceMul, Nat.reduceBEq, Int.reduceAdd, Int.reduceSub, Int.reduceMul, Int.reduceNeg, Int.reduceLT, Int.reduceLE, Int.reduceToNat, Int.reduceEq, Int.reduceBEq, c45_2, rowOf_own hqM, take_rf]
      refine (ans_rput hT (by omega) (fun b hb => by
        rcases List.mem_append.mp hb with h | h
        · have := hDl b h; omega
        · exact hx.lt b h) k r).mono ?_
      rintro _ M3 ⟨hk3, hT3⟩
      have hx3 := hx.kept hk3 (fun b hb => by have := hx.blk b hb; simp; omega)
      have kM3 := kM.trans hk3
      have hml3 := hk3.len
      simp -implicitDefEqProofs (disch := (first | omega | (simp only [lenB, MB.cells_len, N1.cells_len, Rf.cells_len] <;> omega) | fail)) only [admQ, lenB, MB.cells_len, N1.cells_len, Rf.cells_len, aFill, AK.cls, implies_true, ↓reduceIte, reduceCtorEq, if_true, if_false, Nat.reduceAdd, Nat.reduceEqDiff, Nat.reduceMod, Nat.reduceLT, Nat.reduceLeDiff, Nat.reduceSub, Nat.reduceMul, Nat.reduceBEq, Int.reduceAdd, Int.reduceSub, Int.reduceMul, Int.reduceNeg, Int.reduceLT, Int.reduceLE, Int.reduceToNat, Int.reduceEq, Int.reduceBEq]
      refine (ans_rleaf k hk M3).mono ?_
      rintro _ _ ⟨rfl, rfl⟩
      simp -implicitDefEqProofs (disch := (first | omega | (simp only [lenB, MB.cells_len, N1.cells_len, Rf.cells_len] <;> omega) | fail)) only [admQ, lenB, MB.cells_len, N1.cells_len, Rf.cells_len, aFill, AK.cls, implies_true, ↓reduceIte, reduceCtorEq, if_true, if_false, Nat.reduceAdd, Nat.reduceEqDiff, Nat.reduceMod, Nat.reduceLT, Nat.reduceLeDiff, Nat.reduceSub, Nat.reduceMul, Nat.reduceBEq, Int.reduceAdd, Int.reduceSub, Int.reduceMul, Int.reduceNeg, Int.reduceLT, Int.reduceLE, Int.reduceToNat, Int.reduceEq, Int.reduceBEq]
      have htl : (rGet bl (k : Int)).toList.length ≤ 1 := by cases rGet bl (k : Int) <;> simp
      refine (ans_rspoil hT3 (fun b hb => by have := hDl b hb; omega) hpD (by omega) hx3 (by omega) (by omega) (by omega) kM3 (by omega) _).mono ?_
      rintro x4 M4 ⟨hx4, kM4, hT4, hl4⟩
      have hml4 := kM4.len
      simp -implicitDefEqProofs (disch := (first | omega | (simp only [lenB, MB.cells_len, N1.cells_len, Rf.cells_len] <;> omega) | fail)) only [admQ, lenB, MB.cells_len, N1.cells_len, Rf.cells_len, aFill, AK.cls, implies_true, ↓reduceIte, reduceCtorEq, if_true, if_false, Nat.reduceAdd, Nat.reduceEqDiff, Nat.reduceMod, Nat.reduceLT, Nat.reduceLeDiff, Nat.reduceSub, Nat.reduceMul, Nat.reduceBEq, Int.reduceAdd, Int.reduceSub, Int.reduceMul, Int.reduceNeg, Int.reduceLT, Int.reduceLE, Int.reduceToNat, Int.reduceEq, Int.reduceBEq]
      have hi1 := rIs_len nd ⟨((k / 8 + 1 : Nat) : Int), true, Rf.zero⟩
      have hg1 := rGone_len nd ((k / 8 + 1 : Nat) : Int)
      refine (ans_rspoil hT4 (fun b hb => by have := hDl b hb; omega) hpD (by omega) hx4 (by rw [List.length_append]; omega) (by omega) (by omega) kM4 (by omega) _).mono ?_
      rintro x5 M5 ⟨hx5, kM5, hT5, -⟩
      simp -implicitDefEqProofs (disch := (first | omega | (simp only [lenB, MB.cells_len, N1.cells_len, Rf.cells_len] <;> omega) | fail)) only [admQ, lenB, MB.cells_len, N1.cells_len, Rf.cells_len, aFill, AK.cls, implies_true, ↓reduceIte, reduceCtorEq, if_true, if_false, Nat.reduceAdd, Nat.reduceEqDiff, Nat.reduceMod, Nat.reduceLT, Nat.reduceLeDiff, Nat.reduceSub, Nat.reduceMul, Nat.reduceBEq, Int.reduceAdd, Int.reduceSub, Int.reduceMul, Int.reduceNeg, Int.reduceLT, Int.reduceLE, Int.reduceToNat, Int.reduceEq, Int.reduceBEq]
      rw [List.append_assoc] at hx5
      exact ⟨hx5.low (by omega), kM5, hT5.fresh (fun b hb => .inl (List.mem_append_left _ hb))⟩
  · rw [rSetR, rSetB, rSetN, if_neg ho, if_neg ho, if_neg ho]
    by_cases g1 : k < 0
    · simp -implicitDefEqProofs (disch := (first | omega | (simp only [lenB, MB.cells_len, N1.cells_len, Rf.cells_len] <;> omega) | fail)) only [admQ, lenB, MB.cells_len, N1.cells_len, Rf.cells_len, aFill, AK.cls, implies_true, ↓reduceIte, reduceCtorEq, if_true, if_false, Nat.reduceAdd, Nat.reduceEqDiff, Nat.reduceMod, Nat.reduceLT, Nat.reduceLeDiff, Nat.reduceSub, Nat.reduceMul, Nat.reduceBEq, Int.reduceAdd, Int.reduceSub, Int.reduceMul, Int.reduceNeg, Int.reduceLT, Int.reduceLE, Int.reduceToNat, Int.reduceEq, Int.reduceBEq, p45, r45, rf_at, dec_t, dec_f]
      exact ⟨.nils .., hk0, hM⟩
    · by_cases g2 : 63 < k
      · simp -implicitDefEqProofs (disch := (first | omega | (simp only [lenB, MB.cells_len, N1.cells_len, Rf.cells_len] <;> omega) | fail)) only [admQ, lenB, MB.cells_len, N1.cells_len, Rf.cells_len, aFill, AK.cls, implies_true, ↓reduceIte, reduceCtorEq, if_true, if_false, Nat.reduceAdd, Nat.reduceEqDiff, Nat.reduceMod, Nat.reduceLT, Nat.reduceLeDiff, Nat.reduceSub, Nat.reduceMul, Nat.reduceBEq, Int.reduceAdd, Int.reduceSub, Int.reduceMul, Int.reduceNeg, Int.reduceLT, Int.reduceLE, Int.reduceToNat, Int.reduceEq, Int.reduceBEq, p45, r45, rf_at, dec_t, dec_f]
        exact ⟨.nils .., hk0, hM⟩
      · have g3 : r.at_ < 1 := Int.not_le.mp fun h => ho ⟨⟨by omega, by omega⟩, h⟩
        simp -implicitDefEqProofs (disch := (first | omega | (simp only [lenB, MB.cells_len, N1.cells_len, Rf.cells_len] <;> omega) | fail)) only [admQ, lenB, MB.cells_len, N1.cells_len, Rf.cells_len, aFill, AK.cls, implies_true, ↓reduceIte, reduceCtorEq, if_true, if_false, Nat.reduceAdd, Nat.reduceEqDiff, Nat.reduceMod, Nat.reduceLT, Nat.reduceLeDiff, Nat.reduceSub, Nat.reduceMul, Nat.reduceBEq, Int.reduceAdd, Int.reduceSub, Int.reduceMul, Int.reduceNeg, Int.reduceLT, Int.reduceLE, Int.reduceToNat, Int.reduceEq, Int.reduceBEq, p45, r45, rf_at, dec_t, dec_f]
        exact ⟨.nils .., hk0, hM⟩
def BlOk (bl : List MB) : Prop := ∀ b ∈ bl, ∃ n : Nat, n < 64 ∧ b.k = n
theorem rGet_lt {bl : List MB} (h : BlOk bl) {k : Int} {r : Rf} (e : rGet bl k = some r) : ∃ n : Nat, n < 64 ∧ k = n := by
  unfold rGet at e
  obtain ⟨b, h1, h2⟩ := Option.map_eq_some_iff.mp e
  have := List.find?_some h1
  have hk : b.k = k := by simpa using this
  rw [← hk]; exact h b (List.mem_of_find?_eq_some h1)
def rThere (bl : List MB) (i : Nat) : Bool := bl.any fun b => b.k.toNat / 8 + 1 == i
theorem ans_rthere {m : Mem} {p : Nat} {D : List Nat} {bl : List MB} {nd : List N1} (h : RT m p D bl nd) (hl : bl.length < 1000) (hb : BlOk bl) (i : Nat) :
    Ans Try.prog 60 [.ptr p 0, .int .i64 i] m fun x m' => x = .bool (rThere bl i) ∧ m' = m := by
  refine ans_ret mixed ok60 ?_
  obtain ⟨x, y, h1, h2, h3, -, -⟩ := h
  have hx := h2.len
  simp -implicitDefEqProofs (disch := (first | omega | (simp only [lenB, MB.cells_len, N1.cells_len, Rf.cells_len] <;> omega) | fail)) only [admQ, lenB, MB.cells_len, N1.cells_len, Rf.cells_len, aFill, AK.cls, implies_true, ↓reduceIte, reduceCtorEq, if_true, if_false, Nat.reduceAdd, Nat.reduceEqDiff, Nat.reduceMod, Nat.reduceLT, Nat.reduceLeDiff, Nat.reduceSub, Nat.reduceMul, Nat.reduceBEq, Int.reduceAdd, Int.reduceSub, Int.reduceMul, Int.reduceNeg, Int.reduceLT, Int.reduceLE, Int.reduceToNat, Int.reduceEq, Int.reduceBEq, c60, r60]
  refine LoopW.on (fun j : Nat => [(0, .ptr p 0), (1, .int .i64 i), (5, .int .i64 j)]) (fun j => bl.length - j)
    (fun j m' => j ≤ bl.length ∧ m' = m ∧ (bl.take j).any (fun b => b.k.toNat / 8 + 1 == i) = false) ?_ 0 _ _ rfl ⟨by omega, rfl, rfl⟩
  rintro j m' X ⟨hj, rfl, hz⟩ hX
  by_cases hlt : j < bl.length
  · obtain ⟨b, s, rfl, -, ho, -⟩ := h2.sl_at hlt
    have e1 := mb_k hlt
    have e2 := mb_le hlt
    obtain ⟨n, hn, hkn⟩ := hb bl[j] (List.getElem_mem hlt)
    rw [hkn] at e1
    have hts : (bl.take (j + 1)).any (fun b => b.k.toNat / 8 + 1 == i) = (n / 8 + 1 == i) := by
      rw [take_snoc hlt, List.any_append, hz, Bool.false_or, List.any_cons, List.any_nil, Bool.or_false, hkn, Int.toNat_natCast]
    simp -implicitDefEqProofs (disch := (first | omega | (simp only [lenB, MB.cells_len, N1.cells_len, Rf.cells_len] <;> omega) | fail)) only [admQ, lenB, MB.cells_len, N1.cells_len, Rf.cells_len, aFill, AK.cls, implies_true, ↓reduceIte, reduceCtorEq, if_true, if_false, Nat.reduceAdd, Nat.reduceEqDiff, Nat.reduceMod, Nat.reduceLT, Nat.reduceLeDiff, Nat.reduceSub, Nat.reduceMul, Nat.reduceBEq, Int.reduceAdd, Int.reduceSub, Int.reduceMul, Int.reduceNeg, Int.reduceLT, Int.reduceLE, Int.reduceToNat, Int.reduceEq, Int.reduceBEq, rowOf_own h1, rowOf_own ho, hx, e1, dec_t, dec_f]
    refine (ans_rleaf n hn m').mono ?_
    rintro _ _ ⟨rfl, rfl⟩
    by_cases he : n / 8 + 1 = i
    · have hr : rThere bl i = true := by
        rw [rThere, List.any_eq_true]
        exact ⟨bl[j], List.getElem_mem hlt, by rw [hkn, Int.toNat_natCast]; exact beq_iff_eq.mpr he⟩
      rw [hr]
      simp -implicitDefEqProofs (disch := (first | omega | (simp only [lenB, MB.cells_len, N1.cells_len, Rf.cells_len] <;> omega) | fail)) only [admQ, lenB, MB.cells_len, N1.cells_len, Rf.cells_len, aFill, AK.cls, implies_true, ↓reduceIte, reduceCtorEq, if_true, if_false, Nat.reduceAdd, Nat.reduceEqDiff, Nat.reduceMod, Nat.reduceLT, Nat.reduceLeDiff, Nat.reduceSub, Nat.reduceMul, Nat.reduceBEq, Int.reduceAdd, Int.reduceSub, Int.reduceMul, Int.reduceNeg, Int.reduceLT, Int.reduceLE, Int.reduceToNat, Int.reduceEq, Int.reduceBEq, he, beq_self_eq_true]
    · have hb : (((n / 8 + 1 : Nat) : Int) == (i : Int)) = false := beq_eq_false_iff_ne.mpr (by omega)
      simp -implicitDefEqProofs (disch := (first | omega | (simp only [lenB, MB.cells_len, N1.cells_len, Rf.cells_len] <;> omega) | fail)) only [admQ, lenB, MB.cells_len, N1.cells_len, Rf.cells_len, aFill, AK.cls, implies_true, ↓reduceIte, reduceCtorEq, if_true, if_false, Nat.reduceAdd, Nat.reduceEqDiff, Nat.reduceMod, Nat.reduceLT, Nat.reduceLeDiff, Nat.reduceSub, Nat.reduceMul, Nat.reduceBEq, Int.reduceAdd, Int.reduceSub, Int.reduceMul, Int.reduceNeg, Int.reduceLT, Int.reduceLE, Int.reduceToNat, Int.reduceEq, Int.reduceBEq, hb]
      exact hX (j + 1) _ _ rfl (by omega) ⟨by omega, rfl, by rw [hts]; exact beq_eq_false_iff_ne.mpr he⟩
  · obtain rfl : j = bl.length := by omega
    rw [List.take_length] at hz
    rw [rThere, hz]
    simp -implicitDefEqProofs (disch := (first | omega | (simp only [lenB, MB.cells_len, N1.cells_len, Rf.cells_len] <;> omega) | fail)) only [admQ, lenB, MB.cells_len, N1.cells_len, Rf.cells_len, aFill, AK.cls, implies_true, ↓reduceIte, reduceCtorEq, if_true, if_false, Nat.reduceAdd, Nat.reduceEqDiff, Nat.reduceMod, Nat.reduceLT, Nat.reduceLeDiff, Nat.reduceSub, Nat.reduceMul, Nat.reduceBEq, Int.reduceAdd, Int.reduceSub, Int.reduceMul, Int.reduceNeg, Int.reduceLT, Int.reduceLE, Int.reduceToNat, Int.reduceEq, Int.reduceBEq, rowOf_own h1, hx, dec_t, dec_f]
def rDelB (bl : List MB) (k : Int) : List MB := if (rGet bl k).isSome then rPut bl k Rf.zero else bl
def rDelN (bl : List MB) (nd : List N1) (k : Int) : List N1 := if (rGet bl k).isSome then (if rThere (rPut bl k Rf.zero) (k.toNat / 8 + 1) then rSpN nd k.toNat else rWithout (rSpN nd k.toNat) ((k.toNat / 8 + 1 : Nat) : Int)) else nd
def rDelR (bl : List MB) (nd : List N1) (k : Int) : List Rf := match rGet bl k with
  | some r => r :: rSpR nd k.toNat
  | none => []
theorem putB_mem {k : Int} {r : Rf} : ∀ (l : List MB) (laid : Bool), ∀ b ∈ putB k r laid l, b.k = k ∨ b ∈ l := by
  intro l
  induction l with
  | nil => intro laid b hb; cases laid <;> simp [putB] at hb; exact .inl (by rw [hb])
  | cons a l ih =>
    intro laid b hb
    simp only [putB, List.mem_append] at hb
    rcases hb with h | h | h
    · split at h
      · simp at h; exact .inl (by rw [h])
      · simp at h
    · split at h
      · simp at h
      · simp at h; exact .inr (by rw [h]; exact List.mem_cons_self ..)
    · rcases ih _ b h with h | h
      · exact .inl h
      · exact .inr (List.mem_cons_of_mem _ h)
theorem putB_len {k : Int} {r : Rf} : ∀ (l : List MB) (laid : Bool), (putB k r laid l).length ≤ l.length + if laid then 0 else 1 := by
  intro l
  induction l with
  | nil => intro laid; cases laid <;> simp [putB]
  | cons a l ih =>
    intro laid
    have := ih (laid || decide (k ≤ a.k))
    simp only [putB, List.length_append, List.length_cons]
    have h2 : (if a.k = k then ([] : List MB) else [a]).length ≤ 1 := by split <;> simp
    cases laid with
    | true => simp at this ⊢; omega
    | false =>
      by_cases hc : k ≤ a.k
      · simp [hc] at this ⊢; omega
      · simp [hc] at this ⊢; omega
theorem rPut_len (bl : List MB) (k : Int) (r : Rf) : (rPut bl k r).length ≤ bl.length + 1 := by
  have := putB_len (k := k) (r := r) bl (decide (r.at_ < 1))
  unfold rPut
  split at this <;> omega
theorem rPut_ok {bl : List MB} (h : BlOk bl) {k : Nat} (hk : k < 64) (r : Rf) : BlOk (rPut bl k r) := fun b hb => by
  rcases putB_mem _ _ b hb with h' | h'
  · exact ⟨k, hk, h'⟩
  · exact h b h'
theorem ans_rdel {m : Mem} {p : Nat} {D : List Nat} {bl : List MB} {nd : List N1} (h : RT m p D bl nd) (hDl : ∀ b ∈ D, b < m.length) (hpD : p ∉ D) (hb : bl.length < 700) (hl : nd.length < 700) (hok : BlOk bl) (k : Int) :
    Ans Try.prog 46 [.ptr p 0, .int .i64 k] m fun x m' => RfL m.length m' x (rDelR bl nd k) ∧ Kept [p] m m' ∧ RT m' p D (rDelB bl k) (rDelN bl nd k) := by
  refine ans_ret mixed ok46 ?_
  have hpl := h.lt
  simp -implicitDefEqProofs (disch := (first | omega | (simp only [lenB, MB.cells_len, N1.cells_len, Rf.cells_len] <;> omega) | fail)) only [admQ, lenB, MB.cells_len, N1.cells_len, Rf.cells_len, aFill, AK.cls, implies_true, ↓reduceIte, reduceCtorEq, if_true, if_false, Nat.reduceAdd, Nat.reduceEqDiff, Nat.reduceMod, Nat.reduceLT, Nat.reduceLeDiff, Nat.reduceSub, Nat.reduceMul, Nat.reduceBEq, Int.reduceAdd, Int.reduceSub, Int.reduceMul, Int.reduceNeg, Int.reduceLT, Int.reduceLE, Int.reduceToNat, Int.reduceEq, Int.reduceBEq, c46, r46]
  refine (ans_rget h (by omega) k).mono ?_
  rintro _ M1 ⟨rfl, hk1⟩
  have h1 := h.kept0 hk1
  have hml := hk1.len
  simp -implicitDefEqProofs (disch := (first | omega | (simp only [lenB, MB.cells_len, N1.cells_len, Rf.cells_len] <;> omega) | fail)) only [admQ, lenB, MB.cells_len, N1.cells_len, Rf.cells_len, aFill, AK.cls, implies_true, ↓reduceIte, reduceCtorEq, if_true, if_false, Nat.reduceAdd, Nat.reduceEqDiff, Nat.reduceMod, Nat.reduceLT, Nat.reduceLeDiff, Nat.reduceSub, Nat.reduceMul, Nat.reduceBEq, Int.reduceAdd, Int.reduceSub, Int.reduceMul, Int.reduceNeg, Int.reduceLT, Int.reduceLE, Int.reduceToNat, Int.reduceEq, Int.reduceBEq, rf_zero, splice_rf]
  rw [rDelR, rDelB, rDelN]
  cases hn : rGet bl k with
  | none =>
    simp -implicitDefEqProofs (disch := (first | omega | (simp only [lenB, MB.cells_len, N1.cells_len, Rf.cells_len] <;> omega) | fail)) only [admQ, lenB, MB.cells_len, N1.cells_len, Rf.cells_len, aFill, AK.cls, implies_true, ↓reduceIte, reduceCtorEq, if_true, if_false, Nat.reduceAdd, Nat.reduceEqDiff, Nat.reduceMod, Nat.reduceLT, Nat.reduceLeDiff, Nat.reduceSub, Nat.reduceMul, Nat.reduceBEq, Int.reduceAdd, Int.reduceSub, Int.reduceMul, Int.reduceNeg, Int.reduceLT, Int.reduceLE, Int.reduceToNat, Int.reduceEq, Int.reduceBEq, hn, Option.isSome_none, Option.isSome_some, Option.getD_some, Option.getD_none]
    exact ⟨.nils .., (hk1.trans (.app _ _ _)).any, h1.kept0 (.app _ _ _)⟩
  | some v =>
    obtain ⟨k, hk, rfl⟩ := rGet_lt hok hn
    have h2 := h1.kept0 (.app [] M1 [.row v.cells false])
    have hg2 : own (M1 ++ [.row v.cells false]) M1.length = some v.cells := by rw [own_app_at0, own_c0]
    have hk02 : Kept [p] m (M1 ++ [.row v.cells false]) := (hk1.trans (.app _ _ _)).any
    have hl2 : M1.length < (M1 ++ [Blk.row v.cells false]).length := by simp
    simp only [Option.getD_some, Option.isSome_some, if_true, Int.toNat_natCast]
    generalize M1 ++ [Blk.row v.cells false] = M2 at *
    generalize M1.length = R at *
    simp -implicitDefEqProofs (disch := (first | omega | (simp only [lenB, MB.cells_len, N1.cells_len, Rf.cells_len] <;> omega) | fail)) only [admQ, lenB, MB.cells_len, N1.cells_len, Rf.cells_len, aFill, AK.cls, implies_true, ↓reduceIte, reduceCtorEq, if_true, if_false, Nat.reduceAdd, Nat.reduceEqDiff, Nat.reduceMod, Nat.reduceLT, Nat.reduceLeDiff, Nat.reduceSub, Nat.reduceMul, Nat.reduceBEq, Int.reduceAdd, Int.reduceSub, Int.reduceMul, Int.reduceNeg, Int.reduceLT, Int.reduceLE, Int.reduceToNat, Int.reduceEq, Int.reduceBEq, hn, Option.isSome_some, Option.getD_some, rowOf_own hg2, take_rf, rf_zero, splice_rf]
    have hx3 : RfL M2.length (M2 ++ [.row v.cells false]) (.sl M2.length 0 1 1 0) [v] := .mk (l := [v]) (by simp) (.inl rfl) (by rw [own_app_at0, flatOf_one]; rfl) (Nat.le_refl _)
    have h3 : RT (M2 ++ [.row v.cells false]) p (D ++ blkOf (.sl M2.length 0 1 1 0)) bl nd := h2.anew (.app [] _ _) (by simp) hpD (fun b hb => by
      rcases List.mem_append.mp hb with h | h
      · exact .inl h
      · exact .inr (by simp [blkOf] at h; omega))
    have hk03 := hk02.more_app [.row v.cells false]
    have hl3 : M2.length < (M2 ++ [Blk.row v.cells false]).length := by simp
    generalize M2 ++ [Blk.row v.cells false] = M3 at *
    refine (ans_rput h3 (by omega) (fun b hb => by
      rcases List.mem_append.mp hb with h | h
      · have := hDl b h; omega
      · exact hx3.lt b h) k Rf.zero).mono ?_
    rintro _ M4 ⟨hk4, hT4⟩
    have hx4 := hx3.kept hk4 (fun b hb => by have := hx3.blk b hb; simp; omega)
    have kM4 := hk03.trans hk4
    have hml4 := hk4.len
    simp -implicitDefEqProofs (disch := (first | omega | (simp only [lenB, MB.cells_len, N1.cells_len, Rf.cells_len] <;> omega) | fail)) only [admQ, lenB, MB.cells_len, N1.cells_len, Rf.cells_len, aFill, AK.cls, implies_true, ↓reduceIte, reduceCtorEq, if_true, if_false, Nat.reduceAdd, Nat.reduceEqDiff, Nat.reduceMod, Nat.reduceLT, Nat.reduceLeDiff, Nat.reduceSub, Nat.reduceMul, Nat.reduceBEq, Int.reduceAdd, Int.reduceSub, Int.reduceMul, Int.reduceNeg, Int.reduceLT, Int.reduceLE, Int.reduceToNat, Int.reduceEq, Int.reduceBEq]
    refine (ans_rleaf k hk M4).mono ?_
    rintro _ _ ⟨rfl, rfl⟩
    simp -implicitDefEqProofs (disch := (first | omega | (simp only [lenB, MB.cells_len, N1.cells_len, Rf.cells_len] <;> omega) | fail)) only [admQ, lenB, MB.cells_len, N1.cells_len, Rf.cells_len, aFill, AK.cls, implies_true, ↓reduceIte, reduceCtorEq, if_true, if_false, Nat.reduceAdd, Nat.reduceEqDiff, Nat.reduceMod, Nat.reduceLT, Nat.reduceLeDiff, Nat.reduceSub, Nat.reduceMul, Nat.reduceBEq, Int.reduceAdd, Int.reduceSub, Int.reduceMul, Int.reduceNeg, Int.reduceLT, Int.reduceLE, Int.reduceToNat, Int.reduceEq, Int.reduceBEq]
    refine (ans_rspoil hT4 (fun b hb => by have := hDl b hb; omega) hpD (by omega) hx4 (by simp) (by omega) (by omega) kM4 (by omega) _).mono ?_
    rintro x5 M5 ⟨hx5, kM5, hT5, hl5⟩
    simp -implicitDefEqProofs (disch := (first | omega | (simp only [lenB, MB.cells_len, N1.cells_len, Rf.cells_len] <;> omega) | fail)) only [admQ, lenB, MB.cells_len, N1.cells_len, Rf.cells_len, aFill, AK.cls, implies_true, ↓reduceIte, reduceCtorEq, if_true, if_false, Nat.reduceAdd, Nat.reduceEqDiff, Nat.reduceMod, Nat.reduceLT, Nat.reduceLeDiff, Nat.reduceSub, Nat.reduceMul, Nat.reduceBEq, Int.reduceAdd, Int.reduceSub, Int.reduceMul, Int.reduceNeg, Int.reduceLT, Int.reduceLE, Int.reduceToNat, Int.reduceEq, Int.reduceBEq]
    have hi1 := rIs_len nd ⟨((k / 8 + 1 : Nat) : Int), true, Rf.zero⟩
    have hg1 := rGone_len nd ((k / 8 + 1 : Nat) : Int)
    refine (ans_rspoil hT5 (fun b hb => by have := hDl b hb; omega) hpD (by omega) hx5 (by simp only [List.length_append, List.length_cons, List.length_nil]; omega) (by omega) (by omega) kM5 (by omega) _).mono ?_
    rintro x6 M6 ⟨hx6, kM6, hT6, hl6⟩
    rw [List.append_assoc] at hx6
    have hx6' : RfL M2.length M6 x6 (v :: rSpR nd k) := hx6
    have hT6' : RT M6 p (D ++ blkOf x6) (rPut bl k Rf.zero) (rSpN nd k) := hT6
    have hi2 := rIs_len (rIs nd ⟨((k / 8 + 1 : Nat) : Int), true, Rf.zero⟩) ⟨0, true, Rf.zero⟩
    have hsl : (rSpN nd k).length < 710 := by unfold rSpN; omega
    simp -implicitDefEqProofs (disch := (first | omega | (simp only [lenB, MB.cells_len, N1.cells_len, Rf.cells_len] <;> omega) | fail)) only [admQ, lenB, MB.cells_len, N1.cells_len, Rf.cells_len, aFill, AK.cls, implies_true, ↓reduceIte, reduceCtorEq, if_true, if_false, Nat.reduceAdd, Nat.reduceEqDiff, Nat.reduceMod, Nat.reduceLT, Nat.reduceLeDiff, Nat.reduceSub, Nat.reduceMul, Nat.reduceBEq, Int.reduceAdd, Int.reduceSub, Int.reduceMul, Int.reduceNeg, Int.reduceLT, Int.reduceLE, Int.reduceToNat, Int.reduceEq, Int.reduceBEq]
    refine (ans_rleaf k hk M6).mono ?_
    rintro _ _ ⟨rfl, rfl⟩
    rename_i M6
    simp -implicitDefEqProofs (disch := (first | omega | (simp only [lenB, MB.cells_len, N1.cells_len, Rf.cells_len] <;> omega) | fail)) only [admQ, lenB, MB.cells_len, N1.cells_len, Rf.cells_len, aFill, AK.cls, implies_true, ↓reduceIte, reduceCtorEq, if_true, if_false, Nat.reduceAdd, Nat.reduceEqDiff, Nat.reduceMod, Nat.reduceLT, Nat.reduceLeDiff, Nat.reduceSub, Nat.reduceMul, Nat.reduceBEq, Int.reduceAdd, Int.reduceSub, Int.reduceMul, Int.reduceNeg, Int.reduceLT, Int.reduceLE, Int.reduceToNat, Int.reduceEq, Int.reduceBEq]
    refine (ans_rthere hT6' (by have := rPut_len bl k Rf.zero; omega) (rPut_ok hok hk _) (k / 8 + 1)).mono ?_
    rintro _ _ ⟨rfl, rfl⟩
    rename_i M6
    cases hth : rThere (rPut bl k Rf.zero) (k / 8 + 1)
    · simp -implicitDefEqProofs (disch := (first | omega | (simp only [lenB, MB.cells_len, N1.cells_len, Rf.cells_len] <;> omega) | fail)) only [admQ, lenB, MB.cells_len, N1.cells_len, Rf.cells_len, aFill, AK.cls, implies_true, ↓reduceIte, reduceCtorEq, if_true, if_false, Nat.reduceAdd, Nat.reduceEqDiff, Nat.reduceMod, Nat.reduceLT, Nat.reduceLeDiff, Nat.reduceSub, Nat.reduceMul, Nat.reduceBEq, Int.reduceAdd, Int.reduceSub, Int.reduceMul, Int.reduceNeg, Int.reduceLT, Int.reduceLE, Int.reduceToNat, Int.reduceEq, Int.reduceBEq, Bool.not_false]
      refine (ans_rleaf k hk M6).mono ?_
      rintro _ _ ⟨rfl, rfl⟩
      rename_i M6
      simp -implicitDefEqProofs (disch := (first | omega | (simp only [lenB, MB.cells_len, N1.cells_len, Rf.cells_len] <;> omega) | fail)) only [admQ, lenB, MB.cells_len, N1.cells_len, Rf.cells_len, aFill, AK.cls, implies_true, ↓reduceIte, reduceCtorEq, if_true, if_false, Nat.reduceAdd, Nat.reduceEqDiff, Nat.reduceMod, Nat.reduceLT, Nat.reduceLeDiff, Nat.reduceSub, Nat.reduceMul, Nat.reduceBEq, Int.reduceAdd, Int.reduceSub, Int.reduceMul, Int.reduceNeg, Int.reduceLT, Int.reduceLE, Int.reduceToNat, Int.reduceEq, Int.reduceBEq]
      refine (ans_rwithout hT6' (by omega) _).mono ?_
      rintro z M7 ⟨hz, hk7⟩
      obtain ⟨o1, o2, o3⟩ := GrL_one hz
      obtain ⟨xx, yy, q1, q2, q3, q4, q5⟩ := hT6'.kept0 hk7
      have hml7 := hk7.len
      have hpl6 := hT6'.lt
      simp -implicitDefEqProofs (disch := (first | omega | (simp only [lenB, MB.cells_len, N1.cells_len, Rf.cells_len] <;> omega) | fail)) only [admQ, lenB, MB.cells_len, N1.cells_len, Rf.cells_len, aFill, AK.cls, implies_true, ↓reduceIte, reduceCtorEq, if_true, if_false, Nat.reduceAdd, Nat.reduceEqDiff, Nat.reduceMod, Nat.reduceLT, Nat.reduceLeDiff, Nat.reduceSub, Nat.reduceMul, Nat.reduceBEq, Int.reduceAdd, Int.reduceSub, Int.reduceMul, Int.reduceNeg, Int.reduceLT, Int.reduceLE, Int.reduceToNat, Int.reduceEq, Int.reduceBEq, q1, o1, o2, o3]
      refine ⟨((hx6'.kept0 hk7).kept (.set1 _ _ _) (fun b hb => by have := hx6'.blk b hb; simp; omega)).low (by omega), (kM6.trans hk7.any).trans (.set1 _ _ _), xx, z, own_set (own_lt q1) _, q2.kept (.set1 _ _ _) (fun b hb => by have := (q4 b hb).2; simp; omega), (hz.low (by omega)).kept (.set1 _ _ _) (fun b hb => by have := hz.blk b hb; simp; omega), fun b hb => ⟨fun h => (q4 b hb).1 (List.mem_append_left _ h), (q4 b hb).2⟩, fun b hb => ⟨fun h => by have := hz.blk b hb; have := hDl b h; omega, by have := hz.blk b hb; omega⟩⟩
    · simp -implicitDefEqProofs (disch := (first | omega | (simp only [lenB, MB.cells_len, N1.cells_len, Rf.cells_len] <;> omega) | fail)) only [admQ, lenB, MB.cells_len, N1.cells_len, Rf.cells_len, aFill, AK.cls, implies_true, ↓reduceIte, reduceCtorEq, if_true, if_false, Nat.reduceAdd, Nat.reduceEqDiff, Nat.reduceMod, Nat.reduceLT, Nat.reduceLeDiff, Nat.reduceSub, Nat.reduceMul, Nat.reduceBEq, Int.reduceAdd, Int.reduceSub, Int.reduceMul, Int.reduceNeg, Int.reduceLT, Int.reduceLE, Int.reduceToNat, Int.reduceEq, Int.reduceBEq, Bool.not_true]
      exact ⟨hx6'.low (by omega), kM6, hT6'.fresh (fun b hb => .inl (List.mem_append_left _ hb))⟩
def rTouchOk (nd : List N1) (k : Int) : Option Rf := (rNode nd k).filter fun r => decide (1 ≤ r.at_)
def rTouchN (nd : List N1) (k : Int) : List N1 := if (rTouchOk nd k).isSome then (if k = 0 then rIs nd ⟨0, true, Rf.zero⟩ else rIs (rIs nd ⟨k, true, Rf.zero⟩) ⟨0, true, Rf.zero⟩) else nd
def rTouchR (nd : List N1) (k : Int) : List Rf := if (rTouchOk nd k).isSome then (if k = 0 then rGone nd 0 else rGone nd k ++ rGone (rIs nd ⟨k, true, Rf.zero⟩) 0) else []
theorem ans_rtouch {m : Mem} {p : Nat} {D : List Nat} {bl : List MB} {nd : List N1} (h : RT m p D bl nd) (hDl : ∀ b ∈ D, b < m.length) (hpD : p ∉ D) (hl : nd.length < 700) (k : Int) :
    Ans Try.prog 47 [.ptr p 0, .int .i64 k] m fun x m' => RfL m.length m' x (rTouchR nd k) ∧ Kept [p] m m' ∧ RT m' p D bl (rTouchN nd k) := by
  refine ans_ret mixed ok47 ?_
  have hpl := h.lt
  simp -implicitDefEqProofs (disch := (first | omega | (simp only [lenB, MB.cells_len, N1.cells_len, Rf.cells_len] <;> omega) | fail)) only [admQ, lenB, MB.cells_len, N1.cells_len, Rf.cells_len, aFill, AK.cls, implies_true, ↓reduceIte, reduceCtorEq, if_true, if_false, Nat.reduceAdd, Nat.reduceEqDiff, Nat.reduceMod, Nat.reduceLT, Nat.reduceLeDiff, Nat.reduceSub, Nat.reduceMul, Nat.reduceBEq, Int.reduceAdd, Int.reduceSub, Int.reduceMul, Int.reduceNeg, Int.reduceLT, Int.reduceLE, Int.reduceToNat, Int.reduceEq, Int.reduceBEq, c47, r47]
  refine (ans_rnode h (by omega) k).mono ?_
  rintro _ M1 ⟨rfl, hk1⟩
  have h1 := h.kept0 hk1
  have hml := hk1.len
  simp -implicitDefEqProofs (disch := (first | omega | (simp only [lenB, MB.cells_len, N1.cells_len, Rf.cells_len] <;> omega) | fail)) only [admQ, lenB, MB.cells_len, N1.cells_len, Rf.cells_len, aFill, AK.cls, implies_true, ↓reduceIte, reduceCtorEq, if_true, if_false, Nat.reduceAdd, Nat.reduceEqDiff, Nat.reduceMod, Nat.reduceLT, Nat.reduceLeDiff, Nat.reduceSub, Nat.reduceMul, Nat.reduceBEq, Int.reduceAdd, Int.reduceSub, Int.reduceMul, Int.reduceNeg, Int.reduceLT, Int.reduceLE, Int.reduceToNat, Int.reduceEq, Int.reduceBEq, rf_zero, splice_rf]
  have h2 := h1.kept0 (.app [] M1 [.row ((rNode nd k).getD Rf.zero).cells false])
  have hg2 : own (M1 ++ [.row ((rNode nd k).getD Rf.zero).cells false]) M1.length = some ((rNode nd k).getD Rf.zero).cells := by rw [own_app_at0, own_c0]
  have hk02 : Kept [p] m (M1 ++ [.row ((rNode nd k).getD Rf.zero).cells false]) := (hk1.trans (.app _ _ _)).any
  have hl2 : M1.length < (M1 ++ [Blk.row ((rNode nd k).getD Rf.zero).cells false]).length := by simp
  generalize M1 ++ [Blk.row ((rNode nd k).getD Rf.zero).cells false] = M2 at *
  generalize M1.length = R at *
  rw [rTouchR, rTouchN, rTouchOk]
  cases hn : rNode nd k with
  | none =>
    simp -implicitDefEqProofs (disch := (first | omega | (simp only [lenB, MB.cells_len, N1.cells_len, Rf.cells_len] <;> omega) | fail)) only [admQ, lenB, MB.cells_len, N1.cells_len, Rf.cells_len, aFill, AK.cls, implies_true, ↓reduceIte, reduceCtorEq, if_true, if_false, Nat.reduceAdd, Nat.reduceEqDiff, Nat.reduceMod, Nat.reduceLT, Nat.reduceLeDiff, Nat.reduceSub, Nat.reduceMul, Nat.reduceBEq, Int.reduceAdd, Int.reduceSub, Int.reduceMul, Int.reduceNeg, Int.reduceLT, Int.reduceLE, Int.reduceToNat, Int.reduceEq, Int.reduceBEq, hn, Option.isSome_none, Option.isSome_some, Option.getD_some, Option.getD_none]
    exact ⟨.nils .., hk02, h2⟩
  | some v =>
    rw [hn] at hg2
    by_cases ha : v.at_ < 1
    · have hf : (some v).filter (fun r => decide (1 ≤ r.at_)) = none := by rw [Option.filter_some, decide_eq_false (by omega)]; rfl
      rw [hf]
      simp -implicitDefEqProofs (disch := (first | omega | (simp only [lenB, MB.cells_len, N1.cells_len, Rf.cells_len] <;> omega) | fail)) only [admQ, lenB, MB.cells_len, N1.cells_len, Rf.cells_len, aFill, AK.cls, implies_true, ↓reduceIte, reduceCtorEq, if_true, if_false, Nat.reduceAdd, Nat.reduceEqDiff, Nat.reduceMod, Nat.reduceLT, Nat.reduceLeDiff, Nat.reduceSub, Nat.reduceMul, Nat.reduceBEq, Int.reduceAdd, Int.reduceSub, Int.reduceMul, Int.reduceNeg, Int.reduceLT, Int.reduceLE, Int.reduceToNat, Int.reduceEq, Int.reduceBEq, hn, Option.isSome_none, Option.isSome_some, Option.getD_some, rowOf_own hg2, rf_at, dec_t ha]
      exact ⟨.nils .., hk02, h2⟩
    · have hf : (some v).filter (fun r => decide (1 ≤ r.at_)) = some v := by rw [Option.filter_some, decide_eq_true (by omega)]; rfl
      rw [hf]
      simp -implicitDefEqProofs (disch := (first | omega | (simp only [lenB, MB.cells_len, N1.cells_len, Rf.cells_len] <;> omega) | fail)) only [admQ, lenB, MB.cells_len, N1.cells_len, Rf.cells_len, aFill, AK.cls, implies_true, ↓reduceIte, reduceCtorEq, if_true, if_false, Nat.reduceAdd, Nat.reduceEqDiff, Nat.reduceMod, Nat.reduceLT, Nat.reduceLeDiff, Nat.reduceSub, Nat.reduceMul, Nat.reduceBEq, Int.reduceAdd, Int.reduceSub, Int.reduceMul, Int.reduceNeg, Int.reduceLT, Int.reduceLE, Int.reduceToNat, Int.reduceEq, Int.reduceBEq, hn, Option.isSome_none, Option.isSome_some, Option.getD_some, rowOf_own hg2, rf_at, dec_f ha]
      refine (ans_rspoil (m0 := M2.length) (d := .nils) (dl := []) (D := D) (h2.fresh (by simp [blkOf]; exact fun b h => .inl h)) (fun b hb => by have := hDl b hb; omega) hpD (by omega) (.nils ..) (by simp) (by omega) (by omega) hk02 (by omega) k).mono ?_
      rintro x5 M5 ⟨hx5, kM5, hT5, hl5⟩
      rw [List.nil_append] at hx5
      by_cases h0 : k = 0
      · subst h0
        simp -implicitDefEqProofs (disch := (first | omega | (simp only [lenB, MB.cells_len, N1.cells_len, Rf.cells_len] <;> omega) | fail)) only [admQ, lenB, MB.cells_len, N1.cells_len, Rf.cells_len, aFill, AK.cls, implies_true, ↓reduceIte, reduceCtorEq, if_true, if_false, Nat.reduceAdd, Nat.reduceEqDiff, Nat.reduceMod, Nat.reduceLT, Nat.reduceLeDiff, Nat.reduceSub, Nat.reduceMul, Nat.reduceBEq, Int.reduceAdd, Int.reduceSub, Int.reduceMul, Int.reduceNeg, Int.reduceLT, Int.reduceLE, Int.reduceToNat, Int.reduceEq, Int.reduceBEq, beq_self_eq_true]
        exact ⟨hx5.low (by omega), kM5, hT5.fresh (fun b hb => .inl (List.mem_append_left _ hb))⟩
      · simp -implicitDefEqProofs (disch := (first | omega | (simp only [lenB, MB.cells_len, N1.cells_len, Rf.cells_len] <;> omega) | fail)) only [admQ, lenB, MB.cells_len, N1.cells_len, Rf.cells_len, aFill, AK.cls, implies_true, ↓reduceIte, reduceCtorEq, if_true, if_false, Nat.reduceAdd, Nat.reduceEqDiff, Nat.reduceMod, Nat.reduceLT, Nat.reduceLeDiff, Nat.reduceSub, Nat.reduceMul, Nat.reduceBEq, Int.reduceAdd, Int.reduceSub, Int.reduceMul, Int.reduceNeg, Int.reduceLT, Int.reduceLE, Int.reduceToNat, Int.reduceEq, Int.reduceBEq, beq_eq_false_iff_ne.mpr h0]
        have hi1 := rIs_len nd ⟨k, true, Rf.zero⟩
        have hg1 := rGone_len nd k
        refine (ans_rspoil hT5 (fun b hb => by have := hDl b hb; omega) hpD (by omega) hx5 (by omega) (by omega) (by omega) kM5 (by omega) _).mono ?_
        rintro x6 M6 ⟨hx6, kM6, hT6, -⟩
        rw [if_neg h0, if_neg h0]
        simp -implicitDefEqProofs (disch := (first | omega | (simp only [lenB, MB.cells_len, N1.cells_len, Rf.cells_len] <;> omega) | fail)) only [admQ, lenB, MB.cells_len, N1.cells_len, Rf.cells_len, aFill, AK.cls, implies_true, ↓reduceIte, reduceCtorEq, if_true, if_false, Nat.reduceAdd, Nat.reduceEqDiff, Nat.reduceMod, Nat.reduceLT, Nat.reduceLeDiff, Nat.reduceSub, Nat.reduceMul, Nat.reduceBEq, Int.reduceAdd, Int.reduceSub, Int.reduceMul, Int.reduceNeg, Int.reduceLT, Int.reduceLE, Int.reduceToNat, Int.reduceEq, Int.reduceBEq]
        exact ⟨hx6.low (by omega), kM6, hT6.fresh (fun b hb => .inl (List.mem_append_left _ hb))⟩
end Go.Proofs.Ytmklcealhjmlgaa
end
section
/- The document's tree: what it tells; Saved, Load, New. -/
namespace Go.Proofs.Ytmklcealhjmlgaa
open Go Go.Adm
set_option linter.unusedSimpArgs false
set_option maxRecDepth 100000
set_option maxHeartbeats 1000000
theorem ans_qnew (m : Mem) : Ans Try.prog 26 [] m fun x m' => x = .ptr (m.length + 1) 0 ∧ Kept [] m m' ∧ RT m' (m.length + 1) [] [] [⟨0, false, Rf.zero⟩] := by
  refine ans_ret mixed ok26 ?_
  simp -implicitDefEqProofs (disch := (first | omega | (simp only [lenB, MB.cells_len, N1.cells_len, Rf.cells_len, flat8_len, flatU_len] <;> omega) | fail)) only [admQ, lenB, MB.cells_len, N1.cells_len, Rf.cells_len, flat8_len, flatU_len, aFill, AK.cls, implies_true, ↓reduceIte, reduceCtorEq, if_true, if_false, Nat.reduceAdd, Nat.reduceEqDiff, Nat.reduceMod, Nat.reduceLT, Nat.reduceLeDiff, Nat.reduceSub, Nat.reduceMul, Nat.reduceBEq, Int.reduceAdd, Int.reduceSub, Int.reduceMul, Int.reduceNeg, Int.reduceLT, Int.reduceLE, Int.reduceToNat, Int.reduceEq, Int.reduceBEq, c26, r26, rf_zero, n1_first, n1_setk, splice_n1]
  refine ⟨.app _ _ _, .nils, .sl m.length 0 1 1 0, by rw [own_app_at, own_c, own_c0], .nils .., .mk (l := [N1.mk 0 false Rf.zero]) (by simp) (.inl rfl) (by rw [own_app_at0, own_c0, flatOf_one]) (by omega), by simp [blkOf], by simp [blkOf]⟩
def rGones (nd : List N1) (n : Nat) : List Rf := (List.range n).flatMap fun i : Nat => rGone nd (i : Int)
theorem rGones_succ (nd : List N1) (n : Nat) : rGones nd (n + 1) = rGones nd n ++ rGone nd (n : Int) := by simp [rGones, List.range_succ]
theorem rGones_len (nd : List N1) (n : Nat) : (rGones nd n).length ≤ n := by
  induction n with
  | zero => simp [rGones]
  | succ n ih => have := rGone_len nd (n : Int); rw [rGones_succ, List.length_append]; omega
def rRefs (bl : List MB) (nd : List N1) : List Rf := bl.map (·.r) ++ rGones nd 9
theorem ans_rrefs {m : Mem} {p : Nat} {bl : List MB} {nd : List N1} (h : RT m p [] bl nd) (hb : bl.length < 800) (hl : nd.length < 800) :
    Ans Try.prog 37 [.ptr p 0] m fun x m' => RfL m.length m' x (rRefs bl nd) ∧ Kept [] m m' := by
  refine ans_ret mixed ok37 ?_
  simp -implicitDefEqProofs (disch := (first | omega | (simp only [lenB, MB.cells_len, N1.cells_len, Rf.cells_len, flat8_len, flatU_len] <;> omega) | fail)) only [admQ, lenB, MB.cells_len, N1.cells_len, Rf.cells_len, flat8_len, flatU_len, aFill, AK.cls, implies_true, ↓reduceIte, reduceCtorEq, if_true, if_false, Nat.reduceAdd, Nat.reduceEqDiff, Nat.reduceMod, Nat.reduceLT, Nat.reduceLeDiff, Nat.reduceSub, Nat.reduceMul, Nat.reduceBEq, Int.reduceAdd, Int.reduceSub, Int.reduceMul, Int.reduceNeg, Int.reduceLT, Int.reduceLE, Int.reduceToNat, Int.reduceEq, Int.reduceBEq, c37, r37]
  have h' := h
  obtain ⟨x, y, h1, h2, h3, h4, h5⟩ := h'
  have hx := h2.len
  refine LoopW.on (fun s : Nat × AV => [(0, .ptr p 0), (3, s.2), (4, .int .i64 s.1)]) (fun s => bl.length - s.1)
    (fun s m' => s.1 ≤ bl.length ∧ Kept [] m m' ∧ RfL m.length m' s.2 ((bl.take s.1).map (·.r))) ?_ (0, .nils) _ _ rfl ⟨by omega, .refl _ _, .nils ..⟩
  rintro ⟨j, z⟩ m' X ⟨hj, hk, hz⟩ hX
  dsimp only at hj hk hz hX ⊢
  have h1' := hk.own0 h1
  have hml := hk.len
  by_cases hlt : j < bl.length
  · obtain ⟨b, s, rfl, -, ho, -⟩ := (h2.kept0 hk).sl_at hlt
    have e1 := mb_r hlt
    have e2 := mb_le hlt
    have htl : (bl.take j).length ≤ bl.length := by simp; omega
    have hts : (bl.take (j + 1)).map (·.r) = (bl.take j).map (·.r) ++ [(bl[j]).r] := by rw [take_snoc hlt, List.map_append, List.map_cons, List.map_nil]
    obtain ⟨z', m2, hap, hg2, hk2, hf2, hb2⟩ := hz.push (bytes := 40) Rf.cells_len (by omega) (bl[j]).r (by rw [List.length_map]; omega) (by omega)
    simp -implicitDefEqProofs (disch := (first | omega | (simp only [lenB, MB.cells_len, N1.cells_len, Rf.cells_len, flat8_len, flatU_len] <;> omega) | fail)) only [admQ, lenB, MB.cells_len, N1.cells_len, Rf.cells_len, flat8_len, flatU_len, aFill, AK.cls, implies_true, ↓reduceIte, reduceCtorEq, if_true, if_false, Nat.reduceAdd, Nat.reduceEqDiff, Nat.reduceMod, Nat.reduceLT, Nat.reduceLeDiff, Nat.reduceSub, Nat.reduceMul, Nat.reduceBEq, Int.reduceAdd, Int.reduceSub, Int.reduceMul, Int.reduceNeg, Int.reduceLT, Int.reduceLE, Int.reduceToNat, Int.reduceEq, Int.reduceBEq, rowOf_own h1', rowOf_own ho, hx, e1, dec_t, dec_f, rf_zero, splice_rf, take_rf, hap]
    exact hX (j + 1, z') _ _ rfl (by simp; omega) ⟨by simp; omega, hf2 _ _ hk (Nat.le_refl _), by simp only; rw [hts]; exact hg2⟩
  · obtain rfl : j = bl.length := by omega
    rw [List.take_length] at hz
    clear hX
    simp -implicitDefEqProofs (disch := (first | omega | (simp only [lenB, MB.cells_len, N1.cells_len, Rf.cells_len, flat8_len, flatU_len] <;> omega) | fail)) only [admQ, lenB, MB.cells_len, N1.cells_len, Rf.cells_len, flat8_len, flatU_len, aFill, AK.cls, implies_true, ↓reduceIte, reduceCtorEq, if_true, if_false, Nat.reduceAdd, Nat.reduceEqDiff, Nat.reduceMod, Nat.reduceLT, Nat.reduceLeDiff, Nat.reduceSub, Nat.reduceMul, Nat.reduceBEq, Int.reduceAdd, Int.reduceSub, Int.reduceMul, Int.reduceNeg, Int.reduceLT, Int.reduceLE, Int.reduceToNat, Int.reduceEq, Int.reduceBEq, rowOf_own h1', hx, dec_t, dec_f]
    refine LoopW.on (fun s : Nat × AV => [(0, .ptr p 0), (3, s.2), (5, .int .i64 s.1)]) (fun s => 9 - s.1)
      (fun s m' => s.1 ≤ 9 ∧ Kept [] m m' ∧ RfL m.length m' s.2 (bl.map (·.r) ++ rGones nd s.1)) ?_ (0, z) _ _ rfl ⟨by omega, hk, by simpa [rGones] using hz⟩
    clear hk hz h1' hml m' z
    rintro ⟨j, z⟩ m' X ⟨hj, hk, hz⟩ hX
    dsimp only at hj hk hz hX ⊢
    by_cases hlt : j < 9
    · simp -implicitDefEqProofs (disch := (first | omega | (simp only [lenB, MB.cells_len, N1.cells_len, Rf.cells_len, flat8_len, flatU_len] <;> omega) | fail)) only [admQ, lenB, MB.cells_len, N1.cells_len, Rf.cells_len, flat8_len, flatU_len, aFill, AK.cls, implies_true, ↓reduceIte, reduceCtorEq, if_true, if_false, Nat.reduceAdd, Nat.reduceEqDiff, Nat.reduceMod, Nat.reduceLT, Nat.reduceLeDiff, Nat.reduceSub, Nat.reduceMul, Nat.reduceBEq, Int.reduceAdd, Int.reduceSub, Int.reduceMul, Int.reduceNeg, Int.reduceLT, Int.reduceLE, Int.reduceToNat, Int.reduceEq, Int.reduceBEq, dec_t, dec_f]
      refine (ans_rnode (h.kept0 hk) (by omega) j).mono ?_
      rintro _ m2 ⟨rfl, hk2⟩
      have k2 := hk.trans hk2
      have hz2 := hz.kept0 hk2
      simp -implicitDefEqProofs (disch := (first | omega | (simp only [lenB, MB.cells_len, N1.cells_len, Rf.cells_len, flat8_len, flatU_len] <;> omega) | fail)) only [admQ, lenB, MB.cells_len, N1.cells_len, Rf.cells_len, flat8_len, flatU_len, aFill, AK.cls, implies_true, ↓reduceIte, reduceCtorEq, if_true, if_false, Nat.reduceAdd, Nat.reduceEqDiff, Nat.reduceMod, Nat.reduceLT, Nat.reduceLeDiff, Nat.reduceSub, Nat.reduceMul, Nat.reduceBEq, Int.reduceAdd, Int.reduceSub, Int.reduceMul, Int.reduceNeg, Int.reduceLT, Int.reduceLE, Int.reduceToNat, Int.reduceEq, Int.reduceBEq, rf_zero, splice_rf]
      have hq : own (m2 ++ [.row ((rNode nd j).getD Rf.zero).cells false]) m2.length = some ((rNode nd j).getD Rf.zero).cells := by rw [own_app_at0, own_c0]
      have hz3 := hz2.kept0 (.app [] m2 [.row ((rNode nd j).getD Rf.zero).cells false])
      have k3 := k2.trans (.app [] m2 [.row ((rNode nd j).getD Rf.zero).cells false])
      generalize m2 ++ [Blk.row ((rNode nd j).getD Rf.zero).cells false] = m3 at *
      generalize m2.length = R at *
      have hml := k3.len
      have hgs := rGones_succ nd j
      have hgl := rGones_len nd j
      cases hn : rNode nd (j : Int) with
      | none =>
        have hg : rGone nd (j : Int) = [] := by rw [rGone, hn]
        simp -implicitDefEqProofs (disch := (first | omega | (simp only [lenB, MB.cells_len, N1.cells_len, Rf.cells_len, flat8_len, flatU_len] <;> omega) | fail)) only [admQ, lenB, MB.cells_len, N1.cells_len, Rf.cells_len, flat8_len, flatU_len, aFill, AK.cls, implies_true, ↓reduceIte, reduceCtorEq, if_true, if_false, Nat.reduceAdd, Nat.reduceEqDiff, Nat.reduceMod, Nat.reduceLT, Nat.reduceLeDiff, Nat.reduceSub, Nat.reduceMul, Nat.reduceBEq, Int.reduceAdd, Int.reduceSub, Int.reduceMul, Int.reduceNeg, Int.reduceLT, Int.reduceLE, Int.reduceToNat, Int.reduceEq, Int.reduceBEq, hn, Option.isSome_none, Option.isSome_some, Option.getD_some, Option.getD_none]
        exact hX (j + 1, z) _ _ rfl (by simp; omega) ⟨by simp; omega, k3, by simp only; rw [hgs, hg, List.append_nil]; exact hz3⟩
      | some v =>
        rw [hn] at hq
        by_cases ha : 0 < v.at_
        · have hg : rGone nd (j : Int) = [v] := by rw [rGone, hn]; exact if_pos ha
          obtain ⟨z', m4, hap, hg2, hk4, hf2, hb2⟩ := hz3.push (bytes := 40) Rf.cells_len (by omega) v (by simp only [List.length_append, List.length_map]; omega) (by omega)
          simp -implicitDefEqProofs (disch := (first | omega | (simp only [lenB, MB.cells_len, N1.cells_len, Rf.cells_len, flat8_len, flatU_len] <;> omega) | fail)) only [admQ, lenB, MB.cells_len, N1.cells_len, Rf.cells_len, flat8_len, flatU_len, aFill, AK.cls, implies_true, ↓reduceIte, reduceCtorEq, if_true, if_false, Nat.reduceAdd, Nat.reduceEqDiff, Nat.reduceMod, Nat.reduceLT, Nat.reduceLeDiff, Nat.reduceSub, Nat.reduceMul, Nat.reduceBEq, Int.reduceAdd, Int.reduceSub, Int.reduceMul, Int.reduceNeg, Int.reduceLT, Int.reduceLE, Int.reduceToNat, Int.reduceEq, Int.reduceBEq, hn, Option.isSome_none, Option.isSome_some, Option.getD_some, rowOf_own hq, rf_at, dec_t ha, take_rf, rf_zero, splice_rf, hap]
          exact hX (j + 1, z') _ _ rfl (by simp; omega) ⟨by simp; omega, hf2 _ _ k3 (Nat.le_refl _), by simp only; rw [hgs, hg, ← List.append_assoc]; exact hg2⟩
        · have hg : rGone nd (j : Int) = [] := by rw [rGone, hn]; exact if_neg ha
          simp -implicitDefEqProofs (disch := (first | omega | (simp only [lenB, MB.cells_len, N1.cells_len, Rf.cells_len, flat8_len, flatU_len] <;> omega) | fail)) only [admQ, lenB, MB.cells_len, N1.cells_len, Rf.cells_len, flat8_len, flatU_len, aFill, AK.cls, implies_true, ↓reduceIte, reduceCtorEq, if_true, if_false, Nat.reduceAdd, Nat.reduceEqDiff, Nat.reduceMod, Nat.reduceLT, Nat.reduceLeDiff, Nat.reduceSub, Nat.reduceMul, Nat.reduceBEq, Int.reduceAdd, Int.reduceSub, Int.reduceMul, Int.reduceNeg, Int.reduceLT, Int.reduceLE, Int.reduceToNat, Int.reduceEq, Int.reduceBEq, hn, Option.isSome_none, Option.isSome_some, Option.getD_some, rowOf_own hq, rf_at, dec_f ha]
          exact hX (j + 1, z) _ _ rfl (by simp; omega) ⟨by simp; omega, k3, by simp only; rw [hgs, hg, List.append_nil]; exact hz3⟩
    · obtain rfl : j = 9 := by omega
      simp -implicitDefEqProofs (disch := (first | omega | (simp only [lenB, MB.cells_len, N1.cells_len, Rf.cells_len, flat8_len, flatU_len] <;> omega) | fail)) only [admQ, lenB, MB.cells_len, N1.cells_len, Rf.cells_len, flat8_len, flatU_len, aFill, AK.cls, implies_true, ↓reduceIte, reduceCtorEq, if_true, if_false, Nat.reduceAdd, Nat.reduceEqDiff, Nat.reduceMod, Nat.reduceLT, Nat.reduceLeDiff, Nat.reduceSub, Nat.reduceMul, Nat.reduceBEq, Int.reduceAdd, Int.reduceSub, Int.reduceMul, Int.reduceNeg, Int.reduceLT, Int.reduceLE, Int.reduceToNat, Int.reduceEq, Int.reduceBEq, dec_t, dec_f]
      exact ⟨hz, hk⟩
def rDirtyL (nd : List N1) : List Nat := dOrd.filter fun i : Nat => rDirty nd (i : Int)
theorem ans_rdirtyl {m : Mem} {p : Nat} {D : List Nat} {bl : List MB} {nd : List N1} (h : RT m p D bl nd) (hl : nd.length < 1000) :
    Ans Try.prog 38 [.ptr p 0] m fun x m' => NatL m.length m' x (rDirtyL nd) ∧ Kept [] m m' := by
  refine ans_ret mixed ok38 ?_
  simp -implicitDefEqProofs (disch := (first | omega | (simp only [lenB, MB.cells_len, N1.cells_len, Rf.cells_len, flat8_len, flatU_len] <;> omega) | fail)) only [admQ, lenB, MB.cells_len, N1.cells_len, Rf.cells_len, flat8_len, flatU_len, aFill, AK.cls, implies_true, ↓reduceIte, reduceCtorEq, if_true, if_false, Nat.reduceAdd, Nat.reduceEqDiff, Nat.reduceMod, Nat.reduceLT, Nat.reduceLeDiff, Nat.reduceSub, Nat.reduceMul, Nat.reduceBEq, Int.reduceAdd, Int.reduceSub, Int.reduceMul, Int.reduceNeg, Int.reduceLT, Int.reduceLE, Int.reduceToNat, Int.reduceEq, Int.reduceBEq, c38, r38]
  refine LoopW.on (fun s : Nat × AV => [(0, .ptr p 0), (3, s.2), (4, .int .i64 s.1)]) (fun s => 10 - s.1)
    (fun s m' => (1 ≤ s.1 ∧ s.1 ≤ 9) ∧ Kept [] m m' ∧ NatL m.length m' s.2 ((dOrd.take (s.1 - 1)).filter fun i : Nat => rDirty nd (i : Int))) ?_ (1, .nils) _ _ rfl ⟨by omega, .refl _ _, .nils ..⟩
  rintro ⟨j, z⟩ m' X ⟨hj, hk, hz⟩ hX
  dsimp only at hj hk hz hX ⊢
  have hml := hk.len
  have hfl := List.length_filter_le (fun i : Nat => rDirty nd (i : Int)) (dOrd.take (j - 1))
  have hl2 : (dOrd.take (j - 1)).length ≤ 9 := by simp [dOrd]; omega
  have hs := dOrd_take hj.1 hj.2
  by_cases hlt : j < 9
  · rw [show j % 9 = j by omega] at hs
    simp -implicitDefEqProofs (disch := (first | omega | (simp only [lenB, MB.cells_len, N1.cells_len, Rf.cells_len, flat8_len, flatU_len] <;> omega) | fail)) only [admQ, lenB, MB.cells_len, N1.cells_len, Rf.cells_len, flat8_len, flatU_len, aFill, AK.cls, implies_true, ↓reduceIte, reduceCtorEq, if_true, if_false, Nat.reduceAdd, Nat.reduceEqDiff, Nat.reduceMod, Nat.reduceLT, Nat.reduceLeDiff, Nat.reduceSub, Nat.reduceMul, Nat.reduceBEq, Int.reduceAdd, Int.reduceSub, Int.reduceMul, Int.reduceNeg, Int.reduceLT, Int.reduceLE, Int.reduceToNat, Int.reduceEq, Int.reduceBEq, dec_t, dec_f]
    refine (ans_risdirty (h.kept0 hk) hl j).mono ?_
    rintro _ _ ⟨rfl, rfl⟩
    rename_i m'
    have hfs : (dOrd.take j).filter (fun i : Nat => rDirty nd (i : Int)) = (dOrd.take (j - 1)).filter (fun i : Nat => rDirty nd (i : Int)) ++ if rDirty nd (j : Int) then [j] else [] := by
      rw [hs, List.filter_append, List.filter_cons, List.filter_nil]
    cases hd : rDirty nd (j : Int)
    · rw [hd] at hfs
      simp -implicitDefEqProofs (disch := (first | omega | (simp only [lenB, MB.cells_len, N1.cells_len, Rf.cells_len, flat8_len, flatU_len] <;> omega) | fail)) only [admQ, lenB, MB.cells_len, N1.cells_len, Rf.cells_len, flat8_len, flatU_len, aFill, AK.cls, implies_true, ↓reduceIte, reduceCtorEq, if_true, if_false, Nat.reduceAdd, Nat.reduceEqDiff, Nat.reduceMod, Nat.reduceLT, Nat.reduceLeDiff, Nat.reduceSub, Nat.reduceMul, Nat.reduceBEq, Int.reduceAdd, Int.reduceSub, Int.reduceMul, Int.reduceNeg, Int.reduceLT, Int.reduceLE, Int.reduceToNat, Int.reduceEq, Int.reduceBEq]
      exact hX (j + 1, z) _ _ rfl (by simp; omega) ⟨by simp; omega, hk, by show NatL _ _ _ ((dOrd.take j).filter _); rw [hfs]; simpa using hz⟩
    · rw [hd] at hfs
      obtain ⟨z', m2, ha, hg2, hk2, hf2, hb2⟩ := hz.push (bytes := 8) natC_len (by omega) j (by omega) (by omega)
      simp only [natC] at ha
      simp -implicitDefEqProofs (disch := (first | omega | (simp only [lenB, MB.cells_len, N1.cells_len, Rf.cells_len, flat8_len, flatU_len] <;> omega) | fail)) only [admQ, lenB, MB.cells_len, N1.cells_len, Rf.cells_len, flat8_len, flatU_len, aFill, AK.cls, implies_true, ↓reduceIte, reduceCtorEq, if_true, if_false, Nat.reduceAdd, Nat.reduceEqDiff, Nat.reduceMod, Nat.reduceLT, Nat.reduceLeDiff, Nat.reduceSub, Nat.reduceMul, Nat.reduceBEq, Int.reduceAdd, Int.reduceSub, Int.reduceMul, Int.reduceNeg, Int.reduceLT, Int.reduceLE, Int.reduceToNat, Int.reduceEq, Int.reduceBEq, ha]
      exact hX (j + 1, z') _ _ rfl (by simp; omega) ⟨by simp; omega, hf2 _ _ hk (Nat.le_refl _), by show NatL _ _ _ ((dOrd.take j).filter _); rw [hfs]; exact hg2⟩
  · obtain rfl : j = 9 := by omega
    have hfs : rDirtyL nd = (dOrd.take (9 - 1)).filter (fun i : Nat => rDirty nd (i : Int)) ++ if rDirty nd ((0 : Nat) : Int) then [0] else [] := by
      rw [rDirtyL, show dOrd = dOrd.take (9 - 1) ++ [0] from rfl, List.filter_append, List.filter_cons, List.filter_nil]; rfl
    rw [hfs]
    simp -implicitDefEqProofs (disch := (first | omega | (simp only [lenB, MB.cells_len, N1.cells_len, Rf.cells_len, flat8_len, flatU_len] <;> omega) | fail)) only [admQ, lenB, MB.cells_len, N1.cells_len, Rf.cells_len, flat8_len, flatU_len, aFill, AK.cls, implies_true, ↓reduceIte, reduceCtorEq, if_true, if_false, Nat.reduceAdd, Nat.reduceEqDiff, Nat.reduceMod, Nat.reduceLT, Nat.reduceLeDiff, Nat.reduceSub, Nat.reduceMul, Nat.reduceBEq, Int.reduceAdd, Int.reduceSub, Int.reduceMul, Int.reduceNeg, Int.reduceLT, Int.reduceLE, Int.reduceToNat, Int.reduceEq, Int.reduceBEq, dec_t, dec_f]
    refine (ans_risdirty (h.kept0 hk) hl 0).mono ?_
    rintro _ _ ⟨rfl, rfl⟩
    rename_i m'
    cases hd : rDirty nd 0
    · simp -implicitDefEqProofs (disch := (first | omega | (simp only [lenB, MB.cells_len, N1.cells_len, Rf.cells_len, flat8_len, flatU_len] <;> omega) | fail)) only [admQ, lenB, MB.cells_len, N1.cells_len, Rf.cells_len, flat8_len, flatU_len, aFill, AK.cls, implies_true, ↓reduceIte, reduceCtorEq, if_true, if_false, Nat.reduceAdd, Nat.reduceEqDiff, Nat.reduceMod, Nat.reduceLT, Nat.reduceLeDiff, Nat.reduceSub, Nat.reduceMul, Nat.reduceBEq, Int.reduceAdd, Int.reduceSub, Int.reduceMul, Int.reduceNeg, Int.reduceLT, Int.reduceLE, Int.reduceToNat, Int.reduceEq, Int.reduceBEq]
      exact ⟨by simpa using hz, hk⟩
    · obtain ⟨z', m2, ha, hg2, hk2, hf2, hb2⟩ := hz.push (bytes := 8) natC_len (by omega) 0 (by omega) (by omega)
      simp only [natC] at ha
      rw [show ((0 : Nat) : Int) = 0 from rfl] at ha
      simp -implicitDefEqProofs (disch := (first | omega | (simp only [lenB, MB.cells_len, N1.cells_len, Rf.cells_len, flat8_len, flatU_len] <;> omega) | fail)) only [admQ, lenB, MB.cells_len, N1.cells_len, Rf.cells_len, flat8_len, flatU_len, aFill, AK.cls, implies_true, ↓reduceIte, reduceCtorEq, if_true, if_false, Nat.reduceAdd, Nat.reduceEqDiff, Nat.reduceMod, Nat.reduceLT, Nat.reduceLeDiff, Nat.reduceSub, Nat.reduceMul, Nat.reduceBEq, Int.reduceAdd, Int.reduceSub, Int.reduceMul, Int.reduceNeg, Int.reduceLT, Int.reduceLE, Int.reduceToNat, Int.reduceEq, Int.reduceBEq, ha]
      exact ⟨hg2, hf2 _ _ hk (Nat.le_refl _)⟩
def rPageF (bl : List MB) (nd : List N1) (k : Int) (i : Nat) : Rf :=
  if k = 0 then (rNode nd ((i + 1 : Nat) : Int)).getD Rf.zero else if 1 ≤ k ∧ k ≤ 8 then (rGet bl ((8 * (k.toNat - 1) + i : Nat) : Int)).getD Rf.zero else Rf.zero
theorem ans_rpage {m : Mem} {p : Nat} {D : List Nat} {bl : List MB} {nd : List N1} (h : RT m p D bl nd) (hb : bl.length < 800) (hl : nd.length < 800) (k : Int) :
    Ans Try.prog 43 [.ptr p 0, .int .i64 k] m fun x m' => x = .agg (flatOf Rf.cells (tab 8 (rPageF bl nd k))) ∧ Kept [] m m' := by
  refine ans_ret mixed ok43 ?_
  simp -implicitDefEqProofs (disch := (first | omega | (simp only [lenB, MB.cells_len, N1.cells_len, Rf.cells_len, flat8_len, flatU_len] <;> omega) | fail)) only [admQ, lenB, MB.cells_len, N1.cells_len, Rf.cells_len, flat8_len, flatU_len, aFill, AK.cls, implies_true, ↓reduceIte, reduceCtorEq, if_true, if_false, Nat.reduceAdd, Nat.reduceEqDiff, Nat.reduceMod, Nat.reduceLT, Nat.reduceLeDiff, Nat.reduceSub, Nat.reduceMul, Nat.reduceBEq, Int.reduceAdd, Int.reduceSub, Int.reduceMul, Int.reduceNeg, Int.reduceLT, Int.reduceLE, Int.reduceToNat, Int.reduceEq, Int.reduceBEq, c43, r43, rf_zero, flat8_zero.symm, splice_flat8, flat8_len]
  have o4 : own (m ++ [.row (flatOf Rf.cells (tab 8 fun _ => Rf.zero)) false, .row (flatOf Rf.cells (tab 8 fun _ => Rf.zero)) false]) m.length = some (flatOf Rf.cells (tab 8 fun _ => Rf.zero)) := by rw [own_app_at0, own_c0]
  have o5 : own (m ++ [.row (flatOf Rf.cells (tab 8 fun _ => Rf.zero)) false, .row (flatOf Rf.cells (tab 8 fun _ => Rf.zero)) false]) (m.length + 1) = some (flatOf Rf.cells (tab 8 fun _ => Rf.zero)) := by rw [own_app_at, own_c, own_c0]
  have hM := h.kept0 (.app [] m [.row (flatOf Rf.cells (tab 8 fun _ => Rf.zero)) false, .row (flatOf Rf.cells (tab 8 fun _ => Rf.zero)) false])
  have hkM : Kept [] m (m ++ [.row (flatOf Rf.cells (tab 8 fun _ => Rf.zero)) false, .row (flatOf Rf.cells (tab 8 fun _ => Rf.zero)) false]) := .app _ _ _
  generalize m ++ [Blk.row (flatOf Rf.cells (tab 8 fun _ => Rf.zero)) false, Blk.row (flatOf Rf.cells (tab 8 fun _ => Rf.zero)) false] = M at *
  refine LoopW.on (fun j : Nat => [(0, .ptr p 0), (1, .int .i64 k), (4, .ptr m.length 0), (5, .ptr (m.length + 1) 0), (6, .int .i64 j)]) (fun j => 8 - j)
    (fun j M => j ≤ 8 ∧ Kept [] m M ∧ own M m.length = some (flatOf Rf.cells (tab 8 fun _ => Rf.zero)) ∧ own M (m.length + 1) = some (flatOf Rf.cells (upTo 8 (rPageF bl nd k) (fun _ => Rf.zero) j))) ?_ 0 _ _ rfl ⟨by omega, hkM, o4, by rw [upTo_zero]; exact o5⟩
  clear hkM o4 o5 hM M
  rintro j M X ⟨hj, hkM, o4, o5⟩ hX
  have hl5 := own_lt o5
  by_cases hlt : j < 8
  · have hset : ∀ v, rPageF bl nd k j = v → splice (flatOf Rf.cells (upTo 8 (rPageF bl nd k) (fun _ => Rf.zero) j)) (j * 33) v.cells = flatOf Rf.cells (upTo 8 (rPageF bl nd k) (fun _ => Rf.zero) (j + 1)) := fun v hv => by
      rw [flatOf_set Rf.cells_len _ _ _ (by rw [upTo_len]; exact hlt), ← hv, upTo_set]
    have fin : ∀ (v : Rf) (M2 : Mem), rPageF bl nd k j = v → Kept [] M M2 → j + 1 ≤ 8 ∧ Kept [] m ((M2 ++ [Blk.row v.cells false]).set (m.length + 1) (Blk.row (flatOf Rf.cells (upTo 8 (rPageF bl nd k) (fun _ => Rf.zero) (j + 1))) false)) ∧ own ((M2 ++ [Blk.row v.cells false]).set (m.length + 1) (Blk.row (flatOf Rf.cells (upTo 8 (rPageF bl nd k) (fun _ => Rf.zero) (j + 1))) false)) m.length = some (flatOf Rf.cells (tab 8 fun _ => Rf.zero)) ∧ own ((M2 ++ [Blk.row v.cells false]).set (m.length + 1) (Blk.row (flatOf Rf.cells (upTo 8 (rPageF bl nd k) (fun _ => Rf.zero) (j + 1))) false)) (m.length + 1) = some (flatOf Rf.cells (upTo 8 (rPageF bl nd k) (fun _ => Rf.zero) (j + 1))) := fun v M2 hv hk2 => by
      have hk3 := (hkM.trans hk2).more_app [Blk.row v.cells false]
      exact ⟨by omega, hk3.write (.inr (by omega)) _, own_set_ne' (own_app (hk2.own0 o4) _) (by omega) _, own_set (own_lt (own_app (hk2.own0 o5) _)) _⟩
    by_cases h0 : k = 0
    · subst h0
      have hv : rPageF bl nd 0 j = (rNode nd ((j + 1 : Nat) : Int)).getD Rf.zero := if_pos rfl
      simp -implicitDefEqProofs (disch := (first | omega | (simp only [lenB, MB.cells_len, N1.cells_len, Rf.cells_len, flat8_len, flatU_len] <;> omega) | fail)) only [admQ, lenB, MB.cells_len, N1.cells_len, Rf.cells_len, flat8_len, flatU_len, aFill, AK.cls, implies_true, ↓reduceIte, reduceCtorEq, if_true, if_false, Nat.reduceAdd, Nat.reduceEqDiff, Nat.reduceMod, Nat.reduceLT, Nat.reduceLeDiff, Nat.reduceSub, Nat.reduceMul, Nat.reduceBEq, Int.reduceAdd, Int.reduceSub, Int.reduceMul, Int.reduceNeg, Int.reduceLT, Int.reduceLE, Int.reduceToNat, Int.reduceEq, Int.reduceBEq, beq_self_eq_true, dec_t, dec_f]
      refine (ans_rnode (h.kept0 hkM) (by omega) ((j + 1 : Nat) : Int)).mono ?_
      rintro _ M2 ⟨rfl, hk2⟩
      have o52 := hk2.own0 o5
      simp -implicitDefEqProofs (disch := (first | omega | (simp only [lenB, MB.cells_len, N1.cells_len, Rf.cells_len, flat8_len, flatU_len] <;> omega) | fail)) only [admQ, lenB, MB.cells_len, N1.cells_len, Rf.cells_len, flat8_len, flatU_len, aFill, AK.cls, implies_true, ↓reduceIte, reduceCtorEq, if_true, if_false, Nat.reduceAdd, Nat.reduceEqDiff, Nat.reduceMod, Nat.reduceLT, Nat.reduceLeDiff, Nat.reduceSub, Nat.reduceMul, Nat.reduceBEq, Int.reduceAdd, Int.reduceSub, Int.reduceMul, Int.reduceNeg, Int.reduceLT, Int.reduceLE, Int.reduceToNat, Int.reduceEq, Int.reduceBEq, rf_zero, splice_rf, take_rf, own_app o52, hset _ hv, dec_t, dec_f]
      exact hX (j + 1) _ _ rfl (by omega) (fin _ M2 hv hk2)
    · by_cases h1 : 1 ≤ k ∧ k ≤ 8
      · obtain ⟨k, rfl⟩ := Int.eq_ofNat_of_zero_le (show 0 ≤ k by omega)
        have hv : rPageF bl nd k j = (rGet bl ((8 * (k - 1) + j : Nat) : Int)).getD Rf.zero := by rw [rPageF, if_neg h0, if_pos h1, Int.toNat_natCast]
        simp -implicitDefEqProofs (disch := (first | omega | (simp only [lenB, MB.cells_len, N1.cells_len, Rf.cells_len, flat8_len, flatU_len] <;> omega) | fail)) only [admQ, lenB, MB.cells_len, N1.cells_len, Rf.cells_len, flat8_len, flatU_len, aFill, AK.cls, implies_true, ↓reduceIte, reduceCtorEq, if_true, if_false, Nat.reduceAdd, Nat.reduceEqDiff, Nat.reduceMod, Nat.reduceLT, Nat.reduceLeDiff, Nat.reduceSub, Nat.reduceMul, Nat.reduceBEq, Int.reduceAdd, Int.reduceSub, Int.reduceMul, Int.reduceNeg, Int.reduceLT, Int.reduceLE, Int.reduceToNat, Int.reduceEq, Int.reduceBEq, beq_eq_false_iff_ne.mpr h0, dec_t, dec_f]
        refine (ans_rget (h.kept0 hkM) (by omega) ((8 * (k - 1) + j : Nat) : Int)).mono ?_
        rintro _ M2 ⟨rfl, hk2⟩
        have o52 := hk2.own0 o5
        simp -implicitDefEqProofs (disch := (first | omega | (simp only [lenB, MB.cells_len, N1.cells_len, Rf.cells_len, flat8_len, flatU_len] <;> omega) | fail)) only [admQ, lenB, MB.cells_len, N1.cells_len, Rf.cells_len, flat8_len, flatU_len, aFill, AK.cls, implies_true, ↓reduceIte, reduceCtorEq, if_true, if_false, Nat.reduceAdd, Nat.reduceEqDiff, Nat.reduceMod, Nat.reduceLT, Nat.reduceLeDiff, Nat.reduceSub, Nat.reduceMul, Nat.reduceBEq, Int.reduceAdd, Int.reduceSub, Int.reduceMul, Int.reduceNeg, Int.reduceLT, Int.reduceLE, Int.reduceToNat, Int.reduceEq, Int.reduceBEq, rf_zero, splice_rf, take_rf, own_app o52, hset _ hv, dec_t, dec_f]
        exact hX (j + 1) _ _ rfl (by omega) (fin _ M2 hv hk2)
      · have hv : rPageF bl nd k j = Rf.zero := by rw [rPageF, if_neg h0, if_neg h1]
        have hu : upTo 8 (rPageF bl nd k) (fun _ => Rf.zero) (j + 1) = upTo 8 (rPageF bl nd k) (fun _ => Rf.zero) j := tab_ext fun i _ => by
          by_cases hij : i = j
          · subst hij; simp [hv]
          · by_cases h : i < j
            · rw [if_pos h, if_pos (by omega)]
            · rw [if_neg h, if_neg (by omega)]
        by_cases h2 : 1 ≤ k
        · have h3 : ¬ k ≤ 8 := fun h => h1 ⟨h2, h⟩
          simp -implicitDefEqProofs (disch := (first | omega | (simp only [lenB, MB.cells_len, N1.cells_len, Rf.cells_len, flat8_len, flatU_len] <;> omega) | fail)) only [admQ, lenB, MB.cells_len, N1.cells_len, Rf.cells_len, flat8_len, flatU_len, aFill, AK.cls, implies_true, ↓reduceIte, reduceCtorEq, if_true, if_false, Nat.reduceAdd, Nat.reduceEqDiff, Nat.reduceMod, Nat.reduceLT, Nat.reduceLeDiff, Nat.reduceSub, Nat.reduceMul, Nat.reduceBEq, Int.reduceAdd, Int.reduceSub, Int.reduceMul, Int.reduceNeg, Int.reduceLT, Int.reduceLE, Int.reduceToNat, Int.reduceEq, Int.reduceBEq, beq_eq_false_iff_ne.mpr h0, dec_t, dec_f]
          exact hX (j + 1) _ _ rfl (by omega) ⟨by omega, hkM, o4, by rw [hu]; exact o5⟩
        · simp -implicitDefEqProofs (disch := (first | omega | (simp only [lenB, MB.cells_len, N1.cells_len, Rf.cells_len, flat8_len, flatU_len] <;> omega) | fail)) only [admQ, lenB, MB.cells_len, N1.cells_len, Rf.cells_len, flat8_len, flatU_len, aFill, AK.cls, implies_true, ↓reduceIte, reduceCtorEq, if_true, if_false, Nat.reduceAdd, Nat.reduceEqDiff, Nat.reduceMod, Nat.reduceLT, Nat.reduceLeDiff, Nat.reduceSub, Nat.reduceMul, Nat.reduceBEq, Int.reduceAdd, Int.reduceSub, Int.reduceMul, Int.reduceNeg, Int.reduceLT, Int.reduceLE, Int.reduceToNat, Int.reduceEq, Int.reduceBEq, beq_eq_false_iff_ne.mpr h0, dec_t, dec_f]
          exact hX (j + 1) _ _ rfl (by omega) ⟨by omega, hkM, o4, by rw [hu]; exact o5⟩
  · obtain rfl : j = 8 := by omega
    rw [upTo_all] at o5
    simp -implicitDefEqProofs (disch := (first | omega | (simp only [lenB, MB.cells_len, N1.cells_len, Rf.cells_len, flat8_len, flatU_len] <;> omega) | fail)) only [admQ, lenB, MB.cells_len, N1.cells_len, Rf.cells_len, flat8_len, flatU_len, aFill, AK.cls, implies_true, ↓reduceIte, reduceCtorEq, if_true, if_false, Nat.reduceAdd, Nat.reduceEqDiff, Nat.reduceMod, Nat.reduceLT, Nat.reduceLeDiff, Nat.reduceSub, Nat.reduceMul, Nat.reduceBEq, Int.reduceAdd, Int.reduceSub, Int.reduceMul, Int.reduceNeg, Int.reduceLT, Int.reduceLE, Int.reduceToNat, Int.reduceEq, Int.reduceBEq, rowOf_own o5, o4, take_flat8, splice_flat8, rowOf_set (own_lt o4), dec_t, dec_f]
    exact hkM.write (.inr (by omega)) _
end Go.Proofs.Ytmklcealhjmlgaa
end
section
/- The document's tree: Saved, Load; lists written over. -/
namespace Go.Proofs.Ytmklcealhjmlgaa
open Go Go.Adm
set_option linter.unusedSimpArgs false
set_option maxRecDepth 100000
set_option maxHeartbeats 1000000
theorem n1_setr (k : Int) (r : Rf) : splice (N1.mk k false Rf.zero).cells 2 r.cells = (N1.mk k false r).cells := by
  simp only [splice, N1.cells, List.take_succ_cons, List.take_zero, List.singleton_append, List.cons.injEq, true_and, List.cons_append, List.nil_append]
  simp [Rf.cells_len, List.drop_of_length_le]
def rSavedE (bl : List MB) (nd : List N1) (k : Int) (r : Rf) : Int :=
  if rDirty nd k = false ∨ k = 0 ∧ 1 < (rDirtyL nd).length then 16
  else if k = 0 ∧ bl.length = 0 then (if r = Rf.zero then 0 else 7)
  else if r.at_ < 1 then 7 else 0
def rSavedN (bl : List MB) (nd : List N1) (k : Int) (r : Rf) : List N1 := if rSavedE bl nd k r = 0 then rIs nd ⟨k, false, r⟩ else nd
theorem ans_rsaved {m : Mem} {p : Nat} {bl : List MB} {nd : List N1} (h : RT m p [] bl nd) (hl : nd.length < 800) (k : Int) (r : Rf) :
    Ans Try.prog 48 [.ptr p 0, .int .i64 k, .agg r.cells] m fun x m' => x = .int .i64 (rSavedE bl nd k r) ∧ Kept [p] m m' ∧ RT m' p [] bl (rSavedN bl nd k r) := by
  refine ans_ret mixed ok48 ?_
  have hM := h.kept0 (.app [] m [.row r.cells false])
  have hq : own (m ++ [.row r.cells false]) m.length = some r.cells := by rw [own_app_at0, own_c0]
  have hk0 : Kept [p] m (m ++ [.row r.cells false]) := .app _ _ _
  have hpl := h.lt
  simp -implicitDefEqProofs (disch := (first | omega | (simp only [lenB, MB.cells_len, N1.cells_len, Rf.cells_len, flat8_len, flatU_len] <;> omega) | fail)) only [admQ, lenB, MB.cells_len, N1.cells_len, Rf.cells_len, flat8_len, flatU_len, aFill, AK.cls, implies_true, ↓reduceIte, reduceCtorEq, if_true, if_false, Nat.reduceAdd, Nat.reduceEqDiff, Nat.reduceMod, Nat.reduceLT, Nat.reduceLeDiff, Nat.reduceSub, Nat.reduceMul, Nat.reduceBEq, Int.reduceAdd, Int.reduceSub, Int.reduceMul, Int.reduceNeg, Int.reduceLT, Int.reduceLE, Int.reduceToNat, Int.reduceEq, Int.reduceBEq, c48, r48]
  generalize m ++ [Blk.row r.cells false] = M at *
  refine (ans_risdirty hM (by omega) k).mono ?_
  rintro _ _ ⟨rfl, rfl⟩
  rename_i M
  cases hd : rDirty nd k
  · have he : rSavedE bl nd k r = 16 := by rw [rSavedE, if_pos (.inl hd)]
    rw [rSavedN, he, if_neg (by decide)]
    simp -implicitDefEqProofs (disch := (first | omega | (simp only [lenB, MB.cells_len, N1.cells_len, Rf.cells_len, flat8_len, flatU_len] <;> omega) | fail)) only [admQ, lenB, MB.cells_len, N1.cells_len, Rf.cells_len, flat8_len, flatU_len, aFill, AK.cls, implies_true, ↓reduceIte, reduceCtorEq, if_true, if_false, Nat.reduceAdd, Nat.reduceEqDiff, Nat.reduceMod, Nat.reduceLT, Nat.reduceLeDiff, Nat.reduceSub, Nat.reduceMul, Nat.reduceBEq, Int.reduceAdd, Int.reduceSub, Int.reduceMul, Int.reduceNeg, Int.reduceLT, Int.reduceLE, Int.reduceToNat, Int.reduceEq, Int.reduceBEq, Bool.not_false]
    exact ⟨hk0, hM⟩
  · have fin : ∀ {M2 : Mem}, rSavedE bl nd k r = 0 → Kept [] M M2 → RT M2 p [] bl nd ∧ own M2 m.length = some r.cells ∧ Kept [p] m M2 := fun _ hk2 => ⟨hM.kept0 hk2, hk2.own0 hq, hk0.trans hk2.any⟩
    have hnl := fun n : N1 => rIs_len nd n
    by_cases h0 : k = 0
    · subst h0
      simp -implicitDefEqProofs (disch := (first | omega | (simp only [lenB, MB.cells_len, N1.cells_len, Rf.cells_len, flat8_len, flatU_len] <;> omega) | fail)) only [admQ, lenB, MB.cells_len, N1.cells_len, Rf.cells_len, flat8_len, flatU_len, aFill, AK.cls, implies_true, ↓reduceIte, reduceCtorEq, if_true, if_false, Nat.reduceAdd, Nat.reduceEqDiff, Nat.reduceMod, Nat.reduceLT, Nat.reduceLeDiff, Nat.reduceSub, Nat.reduceMul, Nat.reduceBEq, Int.reduceAdd, Int.reduceSub, Int.reduceMul, Int.reduceNeg, Int.reduceLT, Int.reduceLE, Int.reduceToNat, Int.reduceEq, Int.reduceBEq, beq_self_eq_true, Bool.not_true]
      refine (ans_rdirtyl hM (by omega)).mono ?_
      rintro z M2 ⟨hz, hk2⟩
      have hzl := hz.len
      have hM2 := hM.kept0 hk2
      have hq2 := hk2.own0 hq
      have hk02 := hk0.trans hk2.any
      obtain ⟨xx, yy, g1, g2, g3, -, -⟩ := hM2
      have hxl := g2.len
      have hM2 := hM.kept0 hk2
      by_cases h1 : 1 < (rDirtyL nd).length
      · have he : rSavedE bl nd 0 r = 16 := by rw [rSavedE, if_pos (.inr ⟨rfl, h1⟩)]
        rw [rSavedN, he, if_neg (by decide)]
        simp -implicitDefEqProofs (disch := (first | omega | (simp only [lenB, MB.cells_len, N1.cells_len, Rf.cells_len, flat8_len, flatU_len] <;> omega) | fail)) only [admQ, lenB, MB.cells_len, N1.cells_len, Rf.cells_len, flat8_len, flatU_len, aFill, AK.cls, implies_true, ↓reduceIte, reduceCtorEq, if_true, if_false, Nat.reduceAdd, Nat.reduceEqDiff, Nat.reduceMod, Nat.reduceLT, Nat.reduceLeDiff, Nat.reduceSub, Nat.reduceMul, Nat.reduceBEq, Int.reduceAdd, Int.reduceSub, Int.reduceMul, Int.reduceNeg, Int.reduceLT, Int.reduceLE, Int.reduceToNat, Int.reduceEq, Int.reduceBEq, hzl, dec_t, dec_f]
        exact ⟨hk02, hM2⟩
      · have hg : ¬ (rDirty nd 0 = false ∨ (0 : Int) = 0 ∧ 1 < (rDirtyL nd).length) := by rintro (h | h); rw [hd] at h; cases h; exact h1 h.2
        by_cases hb0 : bl.length = 0
        · have hbb : ((bl.length : Int) == 0) = true := beq_iff_eq.mpr (by omega)
          have ez := aEq_rf' r Rf.zero
          by_cases hr : r = Rf.zero
          · have he : rSavedE bl nd 0 r = 0 := by rw [rSavedE, if_neg hg, if_pos ⟨rfl, hb0⟩, if_pos hr]
            rw [rSavedN, he, if_pos rfl]
            have hbz : (r == Rf.zero) = true := beq_iff_eq.mpr hr
            simp -implicitDefEqProofs (disch := (first | omega | (simp only [lenB, MB.cells_len, N1.cells_len, Rf.cells_len, flat8_len, flatU_len] <;> omega) | fail)) only [admQ, lenB, MB.cells_len, N1.cells_len, Rf.cells_len, flat8_len, flatU_len, aFill, AK.cls, implies_true, ↓reduceIte, reduceCtorEq, if_true, if_false, Nat.reduceAdd, Nat.reduceEqDiff, Nat.reduceMod, Nat.reduceLT, Nat.reduceLeDiff, Nat.reduceSub, Nat.reduceMul, Nat.reduceBEq, Int.reduceAdd, Int.reduceSub, Int.reduceMul, Int.reduceNeg, Int.reduceLT, Int.reduceLE, Int.reduceToNat, Int.reduceEq, Int.reduceBEq, hzl, dec_t, dec_f, rowOf_own g1, rowOf_own hq2, hxl, hbb, take_rf, rf_zero, ez, hbz, n1_first, n1_setk, n1_setr]
            refine (ans_ris hM2 (by omega) (by simp) ⟨0, false, r⟩).mono ?_
            rintro y M3 ⟨hk3, hT3⟩
            simp -implicitDefEqProofs (disch := (first | omega | (simp only [lenB, MB.cells_len, N1.cells_len, Rf.cells_len, flat8_len, flatU_len] <;> omega) | fail)) only [admQ, lenB, MB.cells_len, N1.cells_len, Rf.cells_len, flat8_len, flatU_len, aFill, AK.cls, implies_true, ↓reduceIte, reduceCtorEq, if_true, if_false, Nat.reduceAdd, Nat.reduceEqDiff, Nat.reduceMod, Nat.reduceLT, Nat.reduceLeDiff, Nat.reduceSub, Nat.reduceMul, Nat.reduceBEq, Int.reduceAdd, Int.reduceSub, Int.reduceMul, Int.reduceNeg, Int.reduceLT, Int.reduceLE, Int.reduceToNat, Int.reduceEq, Int.reduceBEq]
            exact ⟨hk02.trans hk3, hT3⟩
          · have he : rSavedE bl nd 0 r = 7 := by rw [rSavedE, if_neg hg, if_pos ⟨rfl, hb0⟩, if_neg hr]
            rw [rSavedN, he, if_neg (by decide)]
            have hbz : (r == Rf.zero) = false := beq_eq_false_iff_ne.mpr hr
            simp -implicitDefEqProofs (disch := (first | omega | (simp only [lenB, MB.cells_len, N1.cells_len, Rf.cells_len, flat8_len, flatU_len] <;> omega) | fail)) only [admQ, lenB, MB.cells_len, N1.cells_len, Rf.cells_len, flat8_len, flatU_len, aFill, AK.cls, implies_true, ↓reduceIte, reduceCtorEq, if_true, if_false, Nat.reduceAdd, Nat.reduceEqDiff, Nat.reduceMod, Nat.reduceLT, Nat.reduceLeDiff, Nat.reduceSub, Nat.reduceMul, Nat.reduceBEq, Int.reduceAdd, Int.reduceSub, Int.reduceMul, Int.reduceNeg, Int.reduceLT, Int.reduceLE, Int.reduceToNat, Int.reduceEq, Int.reduceBEq, hzl, dec_t, dec_f, rowOf_own g1, rowOf_own hq2, hxl, hbb, take_rf, rf_zero, ez, hbz]
            exact ⟨hk02, hM2⟩
        · have hbb : ((bl.length : Int) == 0) = false := beq_eq_false_iff_ne.mpr (by omega)
          by_cases ha : r.at_ < 1
          · have he : rSavedE bl nd 0 r = 7 := by rw [rSavedE, if_neg hg, if_neg (fun h => hb0 h.2), if_pos ha]
            rw [rSavedN, he, if_neg (by decide)]
            simp -implicitDefEqProofs (disch := (first | omega | (simp only [lenB, MB.cells_len, N1.cells_len, Rf.cells_len, flat8_len, flatU_len] <;> omega) | fail)) only [admQ, lenB, MB.cells_len, N1.cells_len, Rf.cells_len, flat8_len, flatU_len, aFill, AK.cls, implies_true, ↓reduceIte, reduceCtorEq, if_true, if_false, Nat.reduceAdd, Nat.reduceEqDiff, Nat.reduceMod, Nat.reduceLT, Nat.reduceLeDiff, Nat.reduceSub, Nat.reduceMul, Nat.reduceBEq, Int.reduceAdd, Int.reduceSub, Int.reduceMul, Int.reduceNeg, Int.reduceLT, Int.reduceLE, Int.reduceToNat, Int.reduceEq, Int.reduceBEq, hzl, dec_t, dec_f, rowOf_own g1, rowOf_own hq2, hxl, hbb, rf_at, take_rf, rf_zero]
            exact ⟨hk02, hM2⟩
          · have he : rSavedE bl nd 0 r = 0 := by rw [rSavedE, if_neg hg, if_neg (fun h => hb0 h.2), if_neg ha]
            rw [rSavedN, he, if_pos rfl]
            simp -implicitDefEqProofs (disch := (first | omega | (simp only [lenB, MB.cells_len, N1.cells_len, Rf.cells_len, flat8_len, flatU_len] <;> omega) | fail)) only [admQ, lenB, MB.cells_len, N1.cells_len, Rf.cells_len, flat8_len, flatU_len, aFill, AK.cls, implies_true, ↓reduceIte, reduceCtorEq, if_true, if_false, Nat.reduceAdd, Nat.reduceEqDiff, Nat.reduceMod, Nat.reduceLT, Nat.reduceLeDiff, Nat.reduceSub, Nat.reduceMul, Nat.reduceBEq, Int.reduceAdd, Int.reduceSub, Int.reduceMul, Int.reduceNeg, Int.reduceLT, Int.reduceLE, Int.reduceToNat, Int.reduceEq, Int.reduceBEq, hzl, dec_t, dec_f, rowOf_own g1, rowOf_own hq2, hxl, hbb, rf_at, take_rf, rf_zero, n1_first, n1_setk, n1_setr]
            refine (ans_ris hM2 (by omega) (by simp) ⟨0, false, r⟩).mono ?_
            rintro y M3 ⟨hk3, hT3⟩
            simp -implicitDefEqProofs (disch := (first | omega | (simp only [lenB, MB.cells_len, N1.cells_len, Rf.cells_len, flat8_len, flatU_len] <;> omega) | fail)) only [admQ, lenB, MB.cells_len, N1.cells_len, Rf.cells_len, flat8_len, flatU_len, aFill, AK.cls, implies_true, ↓reduceIte, reduceCtorEq, if_true, if_false, Nat.reduceAdd, Nat.reduceEqDiff, Nat.reduceMod, Nat.reduceLT, Nat.reduceLeDiff, Nat.reduceSub, Nat.reduceMul, Nat.reduceBEq, Int.reduceAdd, Int.reduceSub, Int.reduceMul, Int.reduceNeg, Int.reduceLT, Int.reduceLE, Int.reduceToNat, Int.reduceEq, Int.reduceBEq]
            exact ⟨hk02.trans hk3, hT3⟩
    · have hg : ¬ (rDirty nd k = false ∨ k = 0 ∧ 1 < (rDirtyL nd).length) := by rintro (h | h); rw [hd] at h; cases h; exact h0 h.1
      by_cases ha : r.at_ < 1
      · have he : rSavedE bl nd k r = 7 := by rw [rSavedE, if_neg hg, if_neg (fun h => h0 h.1), if_pos ha]
        rw [rSavedN, he, if_neg (by decide)]
        simp -implicitDefEqProofs (disch := (first | omega | (simp only [lenB, MB.cells_len, N1.cells_len, Rf.cells_len, flat8_len, flatU_len] <;> omega) | fail)) only [admQ, lenB, MB.cells_len, N1.cells_len, Rf.cells_len, flat8_len, flatU_len, aFill, AK.cls, implies_true, ↓reduceIte, reduceCtorEq, if_true, if_false, Nat.reduceAdd, Nat.reduceEqDiff, Nat.reduceMod, Nat.reduceLT, Nat.reduceLeDiff, Nat.reduceSub, Nat.reduceMul, Nat.reduceBEq, Int.reduceAdd, Int.reduceSub, Int.reduceMul, Int.reduceNeg, Int.reduceLT, Int.reduceLE, Int.reduceToNat, Int.reduceEq, Int.reduceBEq, beq_eq_false_iff_ne.mpr h0, Bool.not_true, Bool.not_false, rowOf_own hq, rf_at, dec_t ha]
        exact ⟨hk0, hM⟩
      · have he : rSavedE bl nd k r = 0 := by rw [rSavedE, if_neg hg, if_neg (fun h => h0 h.1), if_neg ha]
        rw [rSavedN, he, if_pos rfl]
        simp -implicitDefEqProofs (disch := (first | omega | (simp only [lenB, MB.cells_len, N1.cells_len, Rf.cells_len, flat8_len, flatU_len] <;> omega) | fail)) only [admQ, lenB, MB.cells_len, N1.cells_len, Rf.cells_len, flat8_len, flatU_len, aFill, AK.cls, implies_true, ↓reduceIte, reduceCtorEq, if_true, if_false, Nat.reduceAdd, Nat.reduceEqDiff, Nat.reduceMod, Nat.reduceLT, Nat.reduceLeDiff, Nat.reduceSub, Nat.reduceMul, Nat.reduceBEq, Int.reduceAdd, Int.reduceSub, Int.reduceMul, Int.reduceNeg, Int.reduceLT, Int.reduceLE, Int.reduceToNat, Int.reduceEq, Int.reduceBEq, beq_eq_false_iff_ne.mpr h0, Bool.not_true, Bool.not_false, rowOf_own hq, rf_at, dec_f ha, take_rf, rf_zero, n1_first, n1_setk, n1_setr]
        refine (ans_ris hM (by omega) (by simp) ⟨k, false, r⟩).mono ?_
        rintro y M3 ⟨hk3, hT3⟩
        simp -implicitDefEqProofs (disch := (first | omega | (simp only [lenB, MB.cells_len, N1.cells_len, Rf.cells_len, flat8_len, flatU_len] <;> omega) | fail)) only [admQ, lenB, MB.cells_len, N1.cells_len, Rf.cells_len, flat8_len, flatU_len, aFill, AK.cls, implies_true, ↓reduceIte, reduceCtorEq, if_true, if_false, Nat.reduceAdd, Nat.reduceEqDiff, Nat.reduceMod, Nat.reduceLT, Nat.reduceLeDiff, Nat.reduceSub, Nat.reduceMul, Nat.reduceBEq, Int.reduceAdd, Int.reduceSub, Int.reduceMul, Int.reduceNeg, Int.reduceLT, Int.reduceLE, Int.reduceToNat, Int.reduceEq, Int.reduceBEq]
        exact ⟨hk0.trans hk3, hT3⟩
/-- What a node's load puts into the blocks. -/
def rLoadB (bl : List MB) (k : Nat) (f : Nat → Rf) : Nat → List MB
  | 0 => bl
  | n + 1 => if 0 < (f n).at_ then rPut (rLoadB bl k f n) ((8 * (k - 1) + n : Nat) : Int) (f n) else rLoadB bl k f n
def rLoadE (nd : List N1) (k : Int) (f : Nat → Rf) (r : Rf) : Int :=
  if ¬ (0 ≤ k ∧ k ≤ 8) ∨ r.at_ < 1 then 7
  else if k = 0 then (if rNode nd 0 = some Rf.zero then 0 else 16)
  else if 0 ≤ place (fun b : N1 => b.k == k) nd then 16
  else if pgSome f then 0 else 7
def rLoadN (nd : List N1) (k : Int) (f : Nat → Rf) (r : Rf) : List N1 := if rLoadE nd k f r = 0 then rIs nd ⟨k, false, r⟩ else nd
def rLoadS (bl : List MB) (nd : List N1) (k : Int) (f : Nat → Rf) (r : Rf) : List MB := if rLoadE nd k f r = 0 ∧ k ≠ 0 then rLoadB bl k.toNat f 8 else bl
theorem rLoad_no {bl : List MB} {nd : List N1} {k : Int} {f : Nat → Rf} {r : Rf} (h : rLoadE nd k f r ≠ 0) : rLoadS bl nd k f r = bl ∧ rLoadN nd k f r = nd := ⟨if_neg fun h' => h h'.1, if_neg h⟩
theorem rLoadB_len (bl : List MB) (k : Nat) (f : Nat → Rf) : ∀ n, (rLoadB bl k f n).length ≤ bl.length + n := by
  intro n
  induction n with
  | zero => exact Nat.le_refl _
  | succ n ih =>
    simp only [rLoadB]
    split
    · have := rPut_len (rLoadB bl k f n) ((8 * (k - 1) + n : Nat) : Int) (f n); omega
    · omega
theorem ans_rload {m : Mem} {p : Nat} {bl : List MB} {nd : List N1} (h : RT m p [] bl nd) (hl : nd.length < 800) (hb : bl.length < 800) (k : Int) (f : Nat → Rf) (r : Rf) :
    Ans Try.prog 49 [.ptr p 0, .int .i64 k, .agg (flatOf Rf.cells (tab 8 f)), .agg r.cells] m fun x m' => x = .int .i64 (rLoadE nd k f r) ∧ Kept [p] m m' ∧ RT m' p [] (rLoadS bl nd k f r) (rLoadN nd k f r) := by
  refine ans_ret mixed ok49 ?_
  have hM := h.kept0 (.app [] m [.row (flatOf Rf.cells (tab 8 f)) false, .row r.cells false])
  have hq6 : own (m ++ [.row (flatOf Rf.cells (tab 8 f)) false, .row r.cells false]) m.length = some (flatOf Rf.cells (tab 8 f)) := by rw [own_app_at0, own_c0]
  have hq7 : own (m ++ [.row (flatOf Rf.cells (tab 8 f)) false, .row r.cells false]) (m.length + 1) = some r.cells := by rw [own_app_at, own_c, own_c0]
  have hk0 : Kept [p] m (m ++ [.row (flatOf Rf.cells (tab 8 f)) false, .row r.cells false]) := .app _ _ _
  have hpl := h.lt
  have hlM : (m ++ [Blk.row (flatOf Rf.cells (tab 8 f)) false, Blk.row r.cells false]).length = m.length + 2 := by simp
  by_cases hin : ¬ (0 ≤ k ∧ k ≤ 8) ∨ r.at_ < 1
  · have he : rLoadE nd k f r = 7 := by rw [rLoadE, if_pos hin]
    obtain ⟨w1, w2⟩ := rLoad_no (bl := bl) (show rLoadE nd _ f r ≠ 0 by rw [he]; decide)
    rw [w1, w2, he]
    by_cases g1 : k < 0
    · simp -implicitDefEqProofs (disch := (first | omega | (simp only [lenB, MB.cells_len, N1.cells_len, Rf.cells_len, flat8_len, flatU_len] <;> omega) | fail)) only [admQ, lenB, MB.cells_len, N1.cells_len, Rf.cells_len, flat8_len, flatU_len, aFill, AK.cls, implies_true, ↓reduceIte, reduceCtorEq, if_true, if_false, Nat.reduceAdd, Nat.reduceEqDiff, Nat.reduceMod, Nat.reduceLT, Nat.reduceLeDiff, Nat.reduceSub, Nat.reduceMul, Nat.reduceBEq, Int.reduceAdd, Int.reduceSub, Int.reduceMul, Int.reduceNeg, Int.reduceLT, Int.reduceLE, Int.reduceToNat, Int.reduceEq, Int.reduceBEq, c49, r49, dec_t, dec_f]
      exact ⟨hk0, hM⟩
    · by_cases g2 : 8 < k
      · simp -implicitDefEqProofs (disch := (first | omega | (simp only [lenB, MB.cells_len, N1.cells_len, Rf.cells_len, flat8_len, flatU_len] <;> omega) | fail)) only [admQ, lenB, MB.cells_len, N1.cells_len, Rf.cells_len, flat8_len, flatU_len, aFill, AK.cls, implies_true, ↓reduceIte, reduceCtorEq, if_true, if_false, Nat.reduceAdd, Nat.reduceEqDiff, Nat.reduceMod, Nat.reduceLT, Nat.reduceLeDiff, Nat.reduceSub, Nat.reduceMul, Nat.reduceBEq, Int.reduceAdd, Int.reduceSub, Int.reduceMul, Int.reduceNeg, Int.reduceLT, Int.reduceLE, Int.reduceToNat, Int.reduceEq, Int.reduceBEq, c49, r49, dec_t, dec_f]
        exact ⟨hk0, hM⟩
      · have g3 : r.at_ < 1 := hin.resolve_left (fun h => h ⟨by omega, by omega⟩)
        simp -implicitDefEqProofs (disch := (first | omega | (simp only [lenB, MB.cells_len, N1.cells_len, Rf.cells_len, flat8_len, flatU_len] <;> omega) | fail)) only [admQ, lenB, MB.cells_len, N1.cells_len, Rf.cells_len, flat8_len, flatU_len, aFill, AK.cls, implies_true, ↓reduceIte, reduceCtorEq, if_true, if_false, Nat.reduceAdd, Nat.reduceEqDiff, Nat.reduceMod, Nat.reduceLT, Nat.reduceLeDiff, Nat.reduceSub, Nat.reduceMul, Nat.reduceBEq, Int.reduceAdd, Int.reduceSub, Int.reduceMul, Int.reduceNeg, Int.reduceLT, Int.reduceLE, Int.reduceToNat, Int.reduceEq, Int.reduceBEq, c49, r49, rf_at, dec_t, dec_f]
        exact ⟨hk0, hM⟩
  · have hk8 : 0 ≤ k ∧ k ≤ 8 := Classical.byContradiction fun h => hin (.inl h)
    have ha : ¬ r.at_ < 1 := fun h => hin (.inr h)
    simp -implicitDefEqProofs (disch := (first | omega | (simp only [lenB, MB.cells_len, N1.cells_len, Rf.cells_len, flat8_len, flatU_len] <;> omega) | fail)) only [admQ, lenB, MB.cells_len, N1.cells_len, Rf.cells_len, flat8_len, flatU_len, aFill, AK.cls, implies_true, ↓reduceIte, reduceCtorEq, if_true, if_false, Nat.reduceAdd, Nat.reduceEqDiff, Nat.reduceMod, Nat.reduceLT, Nat.reduceLeDiff, Nat.reduceSub, Nat.reduceMul, Nat.reduceBEq, Int.reduceAdd, Int.reduceSub, Int.reduceMul, Int.reduceNeg, Int.reduceLT, Int.reduceLE, Int.reduceToNat, Int.reduceEq, Int.reduceBEq, c49, r49, rf_at, dec_t, dec_f]
    generalize m ++ [Blk.row (flatOf Rf.cells (tab 8 f)) false, Blk.row r.cells false] = M at *
    by_cases h0 : k = 0
    · subst h0
      simp -implicitDefEqProofs (disch := (first | omega | (simp only [lenB, MB.cells_len, N1.cells_len, Rf.cells_len, flat8_len, flatU_len] <;> omega) | fail)) only [admQ, lenB, MB.cells_len, N1.cells_len, Rf.cells_len, flat8_len, flatU_len, aFill, AK.cls, implies_true, ↓reduceIte, reduceCtorEq, if_true, if_false, Nat.reduceAdd, Nat.reduceEqDiff, Nat.reduceMod, Nat.reduceLT, Nat.reduceLeDiff, Nat.reduceSub, Nat.reduceMul, Nat.reduceBEq, Int.reduceAdd, Int.reduceSub, Int.reduceMul, Int.reduceNeg, Int.reduceLT, Int.reduceLE, Int.reduceToNat, Int.reduceEq, Int.reduceBEq, beq_self_eq_true, dec_t, dec_f]
      refine (ans_rnode hM (by omega) 0).mono ?_
      rintro _ M2 ⟨rfl, hk2⟩
      have hM2 := hM.kept0 hk2
      have hq2 := hk2.own0 hq7
      simp -implicitDefEqProofs (disch := (first | omega | (simp only [lenB, MB.cells_len, N1.cells_len, Rf.cells_len, flat8_len, flatU_len] <;> omega) | fail)) only [admQ, lenB, MB.cells_len, N1.cells_len, Rf.cells_len, flat8_len, flatU_len, aFill, AK.cls, implies_true, ↓reduceIte, reduceCtorEq, if_true, if_false, Nat.reduceAdd, Nat.reduceEqDiff, Nat.reduceMod, Nat.reduceLT, Nat.reduceLeDiff, Nat.reduceSub, Nat.reduceMul, Nat.reduceBEq, Int.reduceAdd, Int.reduceSub, Int.reduceMul, Int.reduceNeg, Int.reduceLT, Int.reduceLE, Int.reduceToNat, Int.reduceEq, Int.reduceBEq, rf_zero, splice_rf]
      have hg3 : own (M2 ++ [.row ((rNode nd 0).getD Rf.zero).cells false]) M2.length = some ((rNode nd 0).getD Rf.zero).cells := by rw [own_app_at0, own_c0]
      have hM3 := hM2.kept0 (.app [] M2 [.row ((rNode nd 0).getD Rf.zero).cells false])
      have hq3 := own_app hq2 [.row ((rNode nd 0).getD Rf.zero).cells false]
      have hk3 := (hk0.trans hk2.any).more_app [.row ((rNode nd 0).getD Rf.zero).cells false]
      generalize M2 ++ [Blk.row ((rNode nd 0).getD Rf.zero).cells false] = M3 at *
      generalize M2.length = R at *
      cases hn : rNode nd 0 with
      | none =>
        have he : rLoadE nd 0 f r = 16 := by rw [rLoadE, if_neg hin, if_pos rfl, if_neg (by rw [hn]; simp)]
        obtain ⟨w1, w2⟩ := rLoad_no (bl := bl) (show rLoadE nd _ f r ≠ 0 by rw [he]; decide)
        rw [w1, w2, he]
        simp -implicitDefEqProofs (disch := (first | omega | (simp only [lenB, MB.cells_len, N1.cells_len, Rf.cells_len, flat8_len, flatU_len] <;> omega) | fail)) only [admQ, lenB, MB.cells_len, N1.cells_len, Rf.cells_len, flat8_len, flatU_len, aFill, AK.cls, implies_true, ↓reduceIte, reduceCtorEq, if_true, if_false, Nat.reduceAdd, Nat.reduceEqDiff, Nat.reduceMod, Nat.reduceLT, Nat.reduceLeDiff, Nat.reduceSub, Nat.reduceMul, Nat.reduceBEq, Int.reduceAdd, Int.reduceSub, Int.reduceMul, Int.reduceNeg, Int.reduceLT, Int.reduceLE, Int.reduceToNat, Int.reduceEq, Int.reduceBEq, hn, Option.isSome_none, Bool.not_false]
        exact ⟨hk3, hM3⟩
      | some v =>
        rw [hn] at hg3
        have ez := aEq_rf' v Rf.zero
        by_cases hv : v = Rf.zero
        · have he : rLoadE nd 0 f r = 0 := by rw [rLoadE, if_neg hin, if_pos rfl, if_pos (by rw [hn, hv])]
          rw [rLoadN, rLoadS, he, if_neg (fun h => h.2 rfl), if_pos rfl]
          have hbz : (v == Rf.zero) = true := beq_iff_eq.mpr hv
          simp -implicitDefEqProofs (disch := (first | omega | (simp only [lenB, MB.cells_len, N1.cells_len, Rf.cells_len, flat8_len, flatU_len] <;> omega) | fail)) only [admQ, lenB, MB.cells_len, N1.cells_len, Rf.cells_len, flat8_len, flatU_len, aFill, AK.cls, implies_true, ↓reduceIte, reduceCtorEq, if_true, if_false, Nat.reduceAdd, Nat.reduceEqDiff, Nat.reduceMod, Nat.reduceLT, Nat.reduceLeDiff, Nat.reduceSub, Nat.reduceMul, Nat.reduceBEq, Int.reduceAdd, Int.reduceSub, Int.reduceMul, Int.reduceNeg, Int.reduceLT, Int.reduceLE, Int.reduceToNat, Int.reduceEq, Int.reduceBEq, hn, Option.isSome_some, Option.getD_some, Bool.not_true, rowOf_own hg3, rowOf_own hq3, take_rf, rf_zero, ez, hbz, n1_first, n1_setr]
          refine (ans_ris hM3 (by omega) (by simp) ⟨0, false, r⟩).mono ?_
          rintro y M4 ⟨hk4, hT4⟩
          simp -implicitDefEqProofs (disch := (first | omega | (simp only [lenB, MB.cells_len, N1.cells_len, Rf.cells_len, flat8_len, flatU_len] <;> omega) | fail)) only [admQ, lenB, MB.cells_len, N1.cells_len, Rf.cells_len, flat8_len, flatU_len, aFill, AK.cls, implies_true, ↓reduceIte, reduceCtorEq, if_true, if_false, Nat.reduceAdd, Nat.reduceEqDiff, Nat.reduceMod, Nat.reduceLT, Nat.reduceLeDiff, Nat.reduceSub, Nat.reduceMul, Nat.reduceBEq, Int.reduceAdd, Int.reduceSub, Int.reduceMul, Int.reduceNeg, Int.reduceLT, Int.reduceLE, Int.reduceToNat, Int.reduceEq, Int.reduceBEq]
          exact ⟨hk3.trans hk4, hT4⟩
        · have he : rLoadE nd 0 f r = 16 := by rw [rLoadE, if_neg hin, if_pos rfl, if_neg (by rw [hn]; simpa using hv)]
          obtain ⟨w1, w2⟩ := rLoad_no (bl := bl) (show rLoadE nd _ f r ≠ 0 by rw [he]; decide)
          rw [w1, w2, he]
          have hbz : (v == Rf.zero) = false := beq_eq_false_iff_ne.mpr hv
          simp -implicitDefEqProofs (disch := (first | omega | (simp only [lenB, MB.cells_len, N1.cells_len, Rf.cells_len, flat8_len, flatU_len] <;> omega) | fail)) only [admQ, lenB, MB.cells_len, N1.cells_len, Rf.cells_len, flat8_len, flatU_len, aFill, AK.cls, implies_true, ↓reduceIte, reduceCtorEq, if_true, if_false, Nat.reduceAdd, Nat.reduceEqDiff, Nat.reduceMod, Nat.reduceLT, Nat.reduceLeDiff, Nat.reduceSub, Nat.reduceMul, Nat.reduceBEq, Int.reduceAdd, Int.reduceSub, Int.reduceMul, Int.reduceNeg, Int.reduceLT, Int.reduceLE, Int.reduceToNat, Int.reduceEq, Int.reduceBEq, hn, Option.isSome_some, Option.getD_some, Bool.not_true, rowOf_own hg3, take_rf, rf_zero, ez, hbz]
          exact ⟨hk3, hM3⟩
    · obtain ⟨k, rfl⟩ := Int.eq_ofNat_of_zero_le hk8.1
      have hk1 : 1 ≤ k ∧ k ≤ 8 := by omega
      simp -implicitDefEqProofs (disch := (first | omega | (simp only [lenB, MB.cells_len, N1.cells_len, Rf.cells_len, flat8_len, flatU_len] <;> omega) | fail)) only [admQ, lenB, MB.cells_len, N1.cells_len, Rf.cells_len, flat8_len, flatU_len, aFill, AK.cls, implies_true, ↓reduceIte, reduceCtorEq, if_true, if_false, Nat.reduceAdd, Nat.reduceEqDiff, Nat.reduceMod, Nat.reduceLT, Nat.reduceLeDiff, Nat.reduceSub, Nat.reduceMul, Nat.reduceBEq, Int.reduceAdd, Int.reduceSub, Int.reduceMul, Int.reduceNeg, Int.reduceLT, Int.reduceLE, Int.reduceToNat, Int.reduceEq, Int.reduceBEq, beq_eq_false_iff_ne.mpr h0, dec_t, dec_f]
      refine (ans_rnodei hM (by omega) (k : Int)).mono ?_
      rintro _ _ ⟨rfl, rfl⟩
      rename_i M
      by_cases hpl2 : 0 ≤ place (fun b : N1 => b.k == (k : Int)) nd
      · have he : rLoadE nd (k : Int) f r = 16 := by rw [rLoadE, if_neg hin, if_neg h0, if_pos hpl2]
        obtain ⟨w1, w2⟩ := rLoad_no (bl := bl) (show rLoadE nd _ f r ≠ 0 by rw [he]; decide)
        rw [w1, w2, he]
        simp -implicitDefEqProofs (disch := (first | omega | (simp only [lenB, MB.cells_len, N1.cells_len, Rf.cells_len, flat8_len, flatU_len] <;> omega) | fail)) only [admQ, lenB, MB.cells_len, N1.cells_len, Rf.cells_len, flat8_len, flatU_len, aFill, AK.cls, implies_true, ↓reduceIte, reduceCtorEq, if_true, if_false, Nat.reduceAdd, Nat.reduceEqDiff, Nat.reduceMod, Nat.reduceLT, Nat.reduceLeDiff, Nat.reduceSub, Nat.reduceMul, Nat.reduceBEq, Int.reduceAdd, Int.reduceSub, Int.reduceMul, Int.reduceNeg, Int.reduceLT, Int.reduceLE, Int.reduceToNat, Int.reduceEq, Int.reduceBEq, dec_t hpl2]
        exact ⟨hk0, hM⟩
      · have he : rLoadE nd (k : Int) f r = if pgSome f then 0 else 7 := by rw [rLoadE, if_neg hin, if_neg h0, if_neg hpl2]
        simp -implicitDefEqProofs (disch := (first | omega | (simp only [lenB, MB.cells_len, N1.cells_len, Rf.cells_len, flat8_len, flatU_len] <;> omega) | fail)) only [admQ, lenB, MB.cells_len, N1.cells_len, Rf.cells_len, flat8_len, flatU_len, aFill, AK.cls, implies_true, ↓reduceIte, reduceCtorEq, if_true, if_false, Nat.reduceAdd, Nat.reduceEqDiff, Nat.reduceMod, Nat.reduceLT, Nat.reduceLeDiff, Nat.reduceSub, Nat.reduceMul, Nat.reduceBEq, Int.reduceAdd, Int.reduceSub, Int.reduceMul, Int.reduceNeg, Int.reduceLT, Int.reduceLE, Int.reduceToNat, Int.reduceEq, Int.reduceBEq, dec_f hpl2]
        refine LoopW.on (fun s : Nat × Bool => [(0, .ptr p 0), (1, .int .i64 k), (6, .ptr m.length 0), (7, .ptr (m.length + 1) 0), (11, .bool s.2), (12, .int .i64 s.1)]) (fun s => 8 - s.1)
          (fun s M' => s.1 ≤ 8 ∧ M' = M ∧ (s.2 = true ↔ ∃ i, i < s.1 ∧ 0 < (f i).at_)) ?_ (0, false) _ _ rfl ⟨by omega, rfl, by simp⟩
        rintro ⟨j, sm⟩ M' X ⟨hj, rfl, hsm⟩ hX
        dsimp only at hj hsm hX ⊢
        by_cases hlt : j < 8
        · have e1 := flat8_part f hlt
          have e2 : (flatOf Rf.cells (tab 8 f))[j * 33]? = some (.int .i64 (f j).at_) := cell_of_part (j := 0) e1 (by omega)
          cases sm with
          | true =>
            simp -implicitDefEqProofs (disch := (first | omega | (simp only [lenB, MB.cells_len, N1.cells_len, Rf.cells_len, flat8_len, flatU_len] <;> omega) | fail)) only [admQ, lenB, MB.cells_len, N1.cells_len, Rf.cells_len, flat8_len, flatU_len, aFill, AK.cls, implies_true, ↓reduceIte, reduceCtorEq, if_true, if_false, Nat.reduceAdd, Nat.reduceEqDiff, Nat.reduceMod, Nat.reduceLT, Nat.reduceLeDiff, Nat.reduceSub, Nat.reduceMul, Nat.reduceBEq, Int.reduceAdd, Int.reduceSub, Int.reduceMul, Int.reduceNeg, Int.reduceLT, Int.reduceLE, Int.reduceToNat, Int.reduceEq, Int.reduceBEq, dec_t, dec_f]
            exact hX (j + 1, true) _ _ rfl (by simp; omega) ⟨by simp; omega, rfl, ⟨fun _ => by obtain ⟨i, h1, h2⟩ := hsm.mp rfl; exact ⟨i, by omega, h2⟩, fun _ => rfl⟩⟩
          | false =>
            by_cases hp2 : 0 < (f j).at_
            · simp -implicitDefEqProofs (disch := (first | omega | (simp only [lenB, MB.cells_len, N1.cells_len, Rf.cells_len, flat8_len, flatU_len] <;> omega) | fail)) only [admQ, lenB, MB.cells_len, N1.cells_len, Rf.cells_len, flat8_len, flatU_len, aFill, AK.cls, implies_true, ↓reduceIte, reduceCtorEq, if_true, if_false, Nat.reduceAdd, Nat.reduceEqDiff, Nat.reduceMod, Nat.reduceLT, Nat.reduceLeDiff, Nat.reduceSub, Nat.reduceMul, Nat.reduceBEq, Int.reduceAdd, Int.reduceSub, Int.reduceMul, Int.reduceNeg, Int.reduceLT, Int.reduceLE, Int.reduceToNat, Int.reduceEq, Int.reduceBEq, rowOf_own hq6, e2, dec_t, dec_f]
              exact hX (j + 1, true) _ _ rfl (by simp; omega) ⟨by simp; omega, rfl, ⟨fun _ => ⟨j, by omega, hp2⟩, fun _ => rfl⟩⟩
            · simp -implicitDefEqProofs (disch := (first | omega | (simp only [lenB, MB.cells_len, N1.cells_len, Rf.cells_len, flat8_len, flatU_len] <;> omega) | fail)) only [admQ, lenB, MB.cells_len, N1.cells_len, Rf.cells_len, flat8_len, flatU_len, aFill, AK.cls, implies_true, ↓reduceIte, reduceCtorEq, if_true, if_false, Nat.reduceAdd, Nat.reduceEqDiff, Nat.reduceMod, Nat.reduceLT, Nat.reduceLeDiff, Nat.reduceSub, Nat.reduceMul, Nat.reduceBEq, Int.reduceAdd, Int.reduceSub, Int.reduceMul, Int.reduceNeg, Int.reduceLT, Int.reduceLE, Int.reduceToNat, Int.reduceEq, Int.reduceBEq, rowOf_own hq6, e2, dec_t, dec_f]
              exact hX (j + 1, false) _ _ rfl (by simp; omega) ⟨by simp; omega, rfl, ⟨fun h => (by cases h), fun ⟨i, h1, h2⟩ => hsm.mpr ⟨i, by have : i ≠ j := fun e => (by subst e; exact hp2 h2); omega, h2⟩⟩⟩
        · obtain rfl : j = 8 := by omega
          clear hX
          cases sm with
          | false =>
            have hns : ¬ pgSome f := fun h => by cases hsm.mpr h
            rw [if_neg hns] at he
            obtain ⟨w1, w2⟩ := rLoad_no (bl := bl) (show rLoadE nd _ f r ≠ 0 by rw [he]; decide)
            rw [w1, w2, he]
            simp -implicitDefEqProofs (disch := (first | omega | (simp only [lenB, MB.cells_len, N1.cells_len, Rf.cells_len, flat8_len, flatU_len] <;> omega) | fail)) only [admQ, lenB, MB.cells_len, N1.cells_len, Rf.cells_len, flat8_len, flatU_len, aFill, AK.cls, implies_true, ↓reduceIte, reduceCtorEq, if_true, if_false, Nat.reduceAdd, Nat.reduceEqDiff, Nat.reduceMod, Nat.reduceLT, Nat.reduceLeDiff, Nat.reduceSub, Nat.reduceMul, Nat.reduceBEq, Int.reduceAdd, Int.reduceSub, Int.reduceMul, Int.reduceNeg, Int.reduceLT, Int.reduceLE, Int.reduceToNat, Int.reduceEq, Int.reduceBEq, Bool.not_false, dec_t, dec_f]
            exact ⟨hk0, hM⟩
          | true =>
            have hns : pgSome f := hsm.mp rfl
            rw [if_pos hns] at he
            rw [rLoadN, rLoadS, he, if_pos ⟨rfl, h0⟩, if_pos rfl, Int.toNat_natCast]
            simp -implicitDefEqProofs (disch := (first | omega | (simp only [lenB, MB.cells_len, N1.cells_len, Rf.cells_len, flat8_len, flatU_len] <;> omega) | fail)) only [admQ, lenB, MB.cells_len, N1.cells_len, Rf.cells_len, flat8_len, flatU_len, aFill, AK.cls, implies_true, ↓reduceIte, reduceCtorEq, if_true, if_false, Nat.reduceAdd, Nat.reduceEqDiff, Nat.reduceMod, Nat.reduceLT, Nat.reduceLeDiff, Nat.reduceSub, Nat.reduceMul, Nat.reduceBEq, Int.reduceAdd, Int.reduceSub, Int.reduceMul, Int.reduceNeg, Int.reduceLT, Int.reduceLE, Int.reduceToNat, Int.reduceEq, Int.reduceBEq, Bool.not_true, dec_t, dec_f]
            refine LoopW.on (fun s : Nat => [(0, .ptr p 0), (1, .int .i64 k), (6, .ptr m.length 0), (7, .ptr (m.length + 1) 0), (13, .int .i64 s)]) (fun s => 8 - s)
              (fun s M1 => s ≤ 8 ∧ Kept [p] M' M1 ∧ RT M1 p [] (rLoadB bl k f s) nd) ?_ 0 _ _ rfl ⟨by omega, .refl _ _, hM⟩
            rintro j M1 X ⟨hj, hk', hT⟩ hX
            have hq6' := hk'.own hq6 (by simp; omega)
            have hq7' := hk'.own hq7 (by simp; omega)
            by_cases hlt : j < 8
            · have e1 := flat8_part f hlt
              have e2 : (flatOf Rf.cells (tab 8 f))[j * 33]? = some (.int .i64 (f j).at_) := cell_of_part (j := 0) e1 (by omega)
              have hll := rLoadB_len bl k f j
              by_cases hp2 : 0 < (f j).at_
              · simp -implicitDefEqProofs (disch := (first | omega | (simp only [lenB, MB.cells_len, N1.cells_len, Rf.cells_len, flat8_len, flatU_len] <;> omega) | fail)) only [admQ, lenB, MB.cells_len, N1.cells_len, Rf.cells_len, flat8_len, flatU_len, aFill, AK.cls, implies_true, ↓reduceIte, reduceCtorEq, if_true, if_false, Nat.reduceAdd, Nat.reduceEqDiff, Nat.reduceMod, Nat.reduceLT, Nat.reduceLeDiff, Nat.reduceSub, Nat.reduceMul, Nat.reduceBEq, Int.reduceAdd, Int.reduceSub, Int.reduceMul, Int.reduceNeg, Int.reduceLT, Int.reduceLE, Int.reduceToNat, Int.reduceEq, Int.reduceBEq, rowOf_own hq6', e1, e2, dec_t, dec_f]
                refine (ans_rput hT (by omega) (by simp) ((8 * (k - 1) + j : Nat) : Int) (f j)).mono ?_
                rintro _ M2 ⟨hk2, hT2⟩
                simp -implicitDefEqProofs (disch := (first | omega | (simp only [lenB, MB.cells_len, N1.cells_len, Rf.cells_len, flat8_len, flatU_len] <;> omega) | fail)) only [admQ, lenB, MB.cells_len, N1.cells_len, Rf.cells_len, flat8_len, flatU_len, aFill, AK.cls, implies_true, ↓reduceIte, reduceCtorEq, if_true, if_false, Nat.reduceAdd, Nat.reduceEqDiff, Nat.reduceMod, Nat.reduceLT, Nat.reduceLeDiff, Nat.reduceSub, Nat.reduceMul, Nat.reduceBEq, Int.reduceAdd, Int.reduceSub, Int.reduceMul, Int.reduceNeg, Int.reduceLT, Int.reduceLE, Int.reduceToNat, Int.reduceEq, Int.reduceBEq]
                exact hX (j + 1) _ _ rfl (by omega) ⟨by omega, hk'.trans hk2, by rw [rLoadB, if_pos hp2]; exact hT2⟩
              · simp -implicitDefEqProofs (disch := (first | omega | (simp only [lenB, MB.cells_len, N1.cells_len, Rf.cells_len, flat8_len, flatU_len] <;> omega) | fail)) only [admQ, lenB, MB.cells_len, N1.cells_len, Rf.cells_len, flat8_len, flatU_len, aFill, AK.cls, implies_true, ↓reduceIte, reduceCtorEq, if_true, if_false, Nat.reduceAdd, Nat.reduceEqDiff, Nat.reduceMod, Nat.reduceLT, Nat.reduceLeDiff, Nat.reduceSub, Nat.reduceMul, Nat.reduceBEq, Int.reduceAdd, Int.reduceSub, Int.reduceMul, Int.reduceNeg, Int.reduceLT, Int.reduceLE, Int.reduceToNat, Int.reduceEq, Int.reduceBEq, rowOf_own hq6', e2, dec_t, dec_f]
                exact hX (j + 1) _ _ rfl (by omega) ⟨by omega, hk', by rw [rLoadB, if_neg hp2]; exact hT⟩
            · obtain rfl : j = 8 := by omega
              simp -implicitDefEqProofs (disch := (first | omega | (simp only [lenB, MB.cells_len, N1.cells_len, Rf.cells_len, flat8_len, flatU_len] <;> omega) | fail)) only [admQ, lenB, MB.cells_len, N1.cells_len, Rf.cells_len, flat8_len, flatU_len, aFill, AK.cls, implies_true, ↓reduceIte, reduceCtorEq, if_true, if_false, Nat.reduceAdd, Nat.reduceEqDiff, Nat.reduceMod, Nat.reduceLT, Nat.reduceLeDiff, Nat.reduceSub, Nat.reduceMul, Nat.reduceBEq, Int.reduceAdd, Int.reduceSub, Int.reduceMul, Int.reduceNeg, Int.reduceLT, Int.reduceLE, Int.reduceToNat, Int.reduceEq, Int.reduceBEq, rowOf_own hq7', take_rf, rf_zero, n1_first, n1_setk, n1_setr, dec_t, dec_f]
              refine (ans_ris hT (by omega) (by simp) ⟨(k : Int), false, r⟩).mono ?_
              rintro y M4 ⟨hk4, hT4⟩
              simp -implicitDefEqProofs (disch := (first | omega | (simp only [lenB, MB.cells_len, N1.cells_len, Rf.cells_len, flat8_len, flatU_len] <;> omega) | fail)) only [admQ, lenB, MB.cells_len, N1.cells_len, Rf.cells_len, flat8_len, flatU_len, aFill, AK.cls, implies_true, ↓reduceIte, reduceCtorEq, if_true, if_false, Nat.reduceAdd, Nat.reduceEqDiff, Nat.reduceMod, Nat.reduceLT, Nat.reduceLeDiff, Nat.reduceSub, Nat.reduceMul, Nat.reduceBEq, Int.reduceAdd, Int.reduceSub, Int.reduceMul, Int.reduceNeg, Int.reduceLT, Int.reduceLE, Int.reduceToNat, Int.reduceEq, Int.reduceBEq]
              exact ⟨(hk0.trans hk').trans hk4, hT4⟩
end Go.Proofs.Ytmklcealhjmlgaa
end
section
/- Lists of refs, and of numbers, written over. -/
namespace Go.Proofs.Ytmklcealhjmlgaa
open Go Go.Adm
set_option linter.unusedSimpArgs false
set_option maxRecDepth 100000
set_option maxHeartbeats 1000000
theorem ints_len (l : List Int) : (l.map (AV.int .i64)).length = l.length := by simp
theorem ans_spoilrefs {m : Mem} {x : AV} {l : List Rf} {m0 : Nat} (hx : RfL m0 m x l) (hl : l.length < 100000) :
    Ans Try.prog 40 [x] m fun _ m' => Kept (blkOf x) m m' := by
  refine ans_ret mixed ok40 ?_
  have hlx := hx.len
  simp -implicitDefEqProofs (disch := (first | omega | (simp only [lenB, Rf.cells_len, ints_len] <;> omega) | fail)) only [admQ, lenB, Rf.cells_len, ints_len, aFill, AK.cls, implies_true, ↓reduceIte, reduceCtorEq, if_true, if_false, Nat.reduceAdd, Nat.reduceEqDiff, Nat.reduceMod, Nat.reduceLT, Nat.reduceLeDiff, Nat.reduceSub, Nat.reduceMul, Nat.reduceBEq, Int.reduceAdd, Int.reduceSub, Int.reduceMul, Int.reduceNeg, Int.reduceLT, Int.reduceLE, Int.reduceToNat, Int.reduceEq, Int.reduceBEq, c40, r40]
  refine LoopW.on (fun j : Nat => [(0, x), (2, .int .i64 j)]) (fun j => l.length - j)
    (fun j m' => j ≤ l.length ∧ Kept (blkOf x) m m' ∧ ∃ l' : List Rf, l'.length = l.length ∧ RfL m0 m' x l') ?_ 0 _ _ rfl ⟨by omega, .refl _ _, l, rfl, hx⟩
  rintro j m' X ⟨hj, hk, l', hl', hx'⟩ hX
  rw [← hl'] at hX hj hl hlx
  by_cases hlt : j < l'.length
  · obtain ⟨b, s, rfl, hs, ho, hb⟩ := hx'.sl_at hlt
    have e1 := rf_part hlt
    have e2 : (flatOf Rf.cells l')[j * 33]? = some (.int .i64 (l'[j]).at_) := cell_of_part (j := 0) e1 (by omega)
    have c1 := rf_le hlt
    have hset := fun v => flatOf_set Rf.cells_len l' j (refOf v) hlt
    simp -implicitDefEqProofs (disch := (first | omega | (simp only [lenB, Rf.cells_len, ints_len] <;> omega) | fail)) only [admQ, lenB, Rf.cells_len, ints_len, aFill, AK.cls, implies_true, ↓reduceIte, reduceCtorEq, if_true, if_false, Nat.reduceAdd, Nat.reduceEqDiff, Nat.reduceMod, Nat.reduceLT, Nat.reduceLeDiff, Nat.reduceSub, Nat.reduceMul, Nat.reduceBEq, Int.reduceAdd, Int.reduceSub, Int.reduceMul, Int.reduceNeg, Int.reduceLT, Int.reduceLE, Int.reduceToNat, Int.reduceEq, Int.reduceBEq, rowOf_own ho, hlx, e2, rf_zero, ref_built, ho, hset, dec_t, dec_f]
    have hg : ∀ v, RfL m0 (m'.set b (.row (flatOf Rf.cells (l'.set j (refOf v))) false)) (.sl b 0 l'.length l'.length s) (l'.set j (refOf v)) := fun v => by
      have := GrL.mk (f := Rf.cells) (sz := 33) (m0 := m0) (l := l'.set j (refOf v)) (b := b) (s := s) (List.ne_nil_of_length_pos (by rw [List.length_set]; omega)) hs (own_set (own_lt ho) _) hb
      rwa [List.length_set] at this
    exact hX (j + 1) _ _ rfl (by omega) ⟨by omega, hk.trans (.set1 _ _ _), _, List.length_set .., hg _⟩
  · obtain rfl : j = l'.length := by omega
    simp -implicitDefEqProofs (disch := (first | omega | (simp only [lenB, Rf.cells_len, ints_len] <;> omega) | fail)) only [admQ, lenB, Rf.cells_len, ints_len, aFill, AK.cls, implies_true, ↓reduceIte, reduceCtorEq, if_true, if_false, Nat.reduceAdd, Nat.reduceEqDiff, Nat.reduceMod, Nat.reduceLT, Nat.reduceLeDiff, Nat.reduceSub, Nat.reduceMul, Nat.reduceBEq, Int.reduceAdd, Int.reduceSub, Int.reduceMul, Int.reduceNeg, Int.reduceLT, Int.reduceLE, Int.reduceToNat, Int.reduceEq, Int.reduceBEq, hlx, dec_t, dec_f]
    exact hk
theorem ans_spoilints {m : Mem} {x : AV} {l : List Nat} {m0 : Nat} (hx : NatL m0 m x l) (hl : l.length < 100000) :
    Ans Try.prog 41 [x] m fun _ m' => Kept (blkOf x) m m' := by
  refine ans_ret mixed ok41 ?_
  have hlx := hx.len
  rcases hx with ⟨rfl, rfl⟩ | ⟨b, s, hne, rfl, hs, ho, hb⟩
  · simp -implicitDefEqProofs (disch := (first | omega | (simp only [lenB, Rf.cells_len, ints_len] <;> omega) | fail)) only [admQ, lenB, Rf.cells_len, ints_len, aFill, AK.cls, implies_true, ↓reduceIte, reduceCtorEq, if_true, if_false, Nat.reduceAdd, Nat.reduceEqDiff, Nat.reduceMod, Nat.reduceLT, Nat.reduceLeDiff, Nat.reduceSub, Nat.reduceMul, Nat.reduceBEq, Int.reduceAdd, Int.reduceSub, Int.reduceMul, Int.reduceNeg, Int.reduceLT, Int.reduceLE, Int.reduceToNat, Int.reduceEq, Int.reduceBEq, c41, r41]
    refine LoopW.on (fun j : Nat => [(0, .nils), (2, .int .i64 j)]) (fun j => 0 - j) (fun j m' => j = 0 ∧ m' = m) ?_ 0 _ _ rfl ⟨rfl, rfl⟩
    rintro j m' X ⟨rfl, rfl⟩ hX
    simp -implicitDefEqProofs (disch := (first | omega | (simp only [lenB, Rf.cells_len, ints_len] <;> omega) | fail)) only [admQ, lenB, Rf.cells_len, ints_len, aFill, AK.cls, implies_true, ↓reduceIte, reduceCtorEq, if_true, if_false, Nat.reduceAdd, Nat.reduceEqDiff, Nat.reduceMod, Nat.reduceLT, Nat.reduceLeDiff, Nat.reduceSub, Nat.reduceMul, Nat.reduceBEq, Int.reduceAdd, Int.reduceSub, Int.reduceMul, Int.reduceNeg, Int.reduceLT, Int.reduceLE, Int.reduceToNat, Int.reduceEq, Int.reduceBEq, hlx, dec_t, dec_f]
    exact .refl _ _
  · simp -implicitDefEqProofs (disch := (first | omega | (simp only [lenB, Rf.cells_len, ints_len] <;> omega) | fail)) only [admQ, lenB, Rf.cells_len, ints_len, aFill, AK.cls, implies_true, ↓reduceIte, reduceCtorEq, if_true, if_false, Nat.reduceAdd, Nat.reduceEqDiff, Nat.reduceMod, Nat.reduceLT, Nat.reduceLeDiff, Nat.reduceSub, Nat.reduceMul, Nat.reduceBEq, Int.reduceAdd, Int.reduceSub, Int.reduceMul, Int.reduceNeg, Int.reduceLT, Int.reduceLE, Int.reduceToNat, Int.reduceEq, Int.reduceBEq, c41, r41]
    refine LoopW.on (fun j : Nat => [(0, .sl b 0 l.length l.length s), (2, .int .i64 j)]) (fun j => l.length - j)
      (fun j m' => j ≤ l.length ∧ Kept [b] m m' ∧ ∃ l' : List Int, l'.length = l.length ∧ own m' b = some (l'.map (AV.int .i64))) ?_ 0 _ _ rfl ⟨by omega, .refl _ _, l.map (fun n : Nat => (n : Int)), by simp, by rw [ho, flat_nats, nats, List.map_map]; rfl⟩
    rintro j m' X ⟨hj, hk, l', hl', ho'⟩ hX
    by_cases hlt : j < l.length
    · have hlt' : j < l'.length := by omega
      have e1 : (l'.map (AV.int .i64))[j]? = some (.int .i64 l'[j]) := by rw [List.getElem?_map, List.getElem?_eq_getElem hlt']; rfl
      have hset := fun v : Int => splice_map (c := AV.int .i64) (x := v) hlt'
      simp -implicitDefEqProofs (disch := (first | omega | (simp only [lenB, Rf.cells_len, ints_len] <;> omega) | fail)) only [admQ, lenB, Rf.cells_len, ints_len, aFill, AK.cls, implies_true, ↓reduceIte, reduceCtorEq, if_true, if_false, Nat.reduceAdd, Nat.reduceEqDiff, Nat.reduceMod, Nat.reduceLT, Nat.reduceLeDiff, Nat.reduceSub, Nat.reduceMul, Nat.reduceBEq, Int.reduceAdd, Int.reduceSub, Int.reduceMul, Int.reduceNeg, Int.reduceLT, Int.reduceLE, Int.reduceToNat, Int.reduceEq, Int.reduceBEq, rowOf_own ho', hlx, e1, ho', hset, dec_t, dec_f]
      exact hX (j + 1) _ _ rfl (by omega) ⟨by omega, hk.trans (.set1 _ _ _), _, by rw [List.length_set]; exact hl', own_set (own_lt ho') _⟩
    · obtain rfl : j = l.length := by omega
      simp -implicitDefEqProofs (disch := (first | omega | (simp only [lenB, Rf.cells_len, ints_len] <;> omega) | fail)) only [admQ, lenB, Rf.cells_len, ints_len, aFill, AK.cls, implies_true, ↓reduceIte, reduceCtorEq, if_true, if_false, Nat.reduceAdd, Nat.reduceEqDiff, Nat.reduceMod, Nat.reduceLT, Nat.reduceLeDiff, Nat.reduceSub, Nat.reduceMul, Nat.reduceBEq, Int.reduceAdd, Int.reduceSub, Int.reduceMul, Int.reduceNeg, Int.reduceLT, Int.reduceLE, Int.reduceToNat, Int.reduceEq, Int.reduceBEq, hlx, dec_t, dec_f]
      exact hk
end Go.Proofs.Ytmklcealhjmlgaa
end
section
/- The tree and the document's lists, purely: what is done to the one is done to the other. -/
namespace Go.Proofs.Ytmklcealhjmlgaa
open Go Go.Adm
set_option linter.unusedSimpArgs false
def oneC (t : Tr) (i : Nat) : List MB := if t.b i = Rf.zero then [] else [⟨(i : Int), t.b i⟩]
def spanC (t : Tr) (lo n : Nat) : List MB := (List.range' lo n).flatMap (oneC t)
def canB (t : Tr) : List MB := spanC t 0 64
theorem spanC_zero (t : Tr) (lo : Nat) : spanC t lo 0 = [] := rfl
theorem spanC_succ (t : Tr) (lo n : Nat) : spanC t lo (n + 1) = oneC t lo ++ spanC t (lo + 1) n := by
  simp [spanC, List.range'_succ]
theorem spanC_ge (t : Tr) : ∀ n lo, ∀ b ∈ spanC t lo n, (lo : Int) ≤ b.k ∧ b.k < ((lo + n : Nat) : Int) ∧ b.r = t.b b.k.toNat ∧ b.r ≠ Rf.zero := by
  intro n
  induction n with
  | zero => intro lo b hb; simp [spanC] at hb
  | succ n ih =>
    intro lo b hb
    rw [spanC_succ, List.mem_append] at hb
    rcases hb with h | h
    · unfold oneC at h
      split at h
      · cases h
      · rename_i hz
        simp at h
        subst h
        exact ⟨Int.le_refl _, by show (lo : Int) < _; omega, by simp, hz⟩
    · have := ih (lo + 1) b h
      exact ⟨by omega, by omega, this.2.2.1, this.2.2.2⟩
theorem spanC_congr {s t : Tr} {lo n : Nat} (h : ∀ i, lo ≤ i → i < lo + n → s.b i = t.b i) : spanC s lo n = spanC t lo n := by
  induction n generalizing lo with
  | zero => rfl
  | succ n ih =>
    rw [spanC_succ, spanC_succ, ih (fun i h1 h2 => h i (by omega) (by omega))]
    simp only [oneC, h lo (Nat.le_refl _) (by omega)]
theorem putB_true {k : Int} {r : Rf} : ∀ (l : List MB), (∀ b ∈ l, b.k ≠ k) → putB k r true l = l := by
  intro l
  induction l with
  | nil => intro _; rfl
  | cons a l ih =>
    intro h
    simp only [putB, Bool.true_or]
    rw [if_neg (by simp), if_neg (h a (List.mem_cons_self ..)), ih fun b hb => h b (List.mem_cons_of_mem _ hb)]
    rfl
theorem putB_false {k : Int} {r : Rf} {l : List MB} (h : ∀ b ∈ l, k < b.k) : putB k r false l = ⟨k, r⟩ :: l := by
  cases l with
  | nil => rfl
  | cons a l =>
    have ha := h a (List.mem_cons_self ..)
    simp only [putB]
    rw [if_pos ⟨trivial, by omega⟩, if_neg (by omega), decide_eq_true (by omega), Bool.or_true, putB_true l fun b hb => by have := h b (List.mem_cons_of_mem _ hb); omega]
    rfl
theorem putB_span (t : Tr) {k : Nat} {r : Rf} (hk : k < 64) (hr : r = Rf.zero ∨ 1 ≤ r.at_) : ∀ n lo, lo ≤ k → k < lo + n → putB (k : Int) r (decide (r.at_ < 1)) (spanC t lo n) = spanC (t.setB k r) lo n := by
  intro n
  induction n with
  | zero => intro lo h1 h2; omega
  | succ n ih =>
    intro lo h1 h2
    rw [spanC_succ, spanC_succ]
    by_cases e : lo = k
    · subst e
      have hrest : spanC (t.setB lo r) (lo + 1) n = spanC t (lo + 1) n := spanC_congr fun i h3 _ => by rw [Tr.setB_b _ _ _ _ hk, if_neg (by omega)]
      have hgt : ∀ b ∈ spanC t (lo + 1) n, (lo : Int) < b.k := fun b hb => by have := (spanC_ge t n (lo + 1) b hb).1; omega
      rw [hrest]
      have hone : oneC (t.setB lo r) lo = if r = Rf.zero then [] else [⟨(lo : Int), r⟩] := by unfold oneC; rw [Tr.setB_b _ _ _ _ hk, if_pos rfl]
      rw [hone]
      by_cases ha : r.at_ < 1
      · have hz : r = Rf.zero := by rcases hr with h | h; exact h; omega
        rw [if_pos hz, decide_eq_true ha, List.nil_append]
        unfold oneC
        split
        · rw [List.nil_append, putB_true _ fun b hb => by have := hgt b hb; omega]
        · rw [List.singleton_append]
          simp only [putB, Bool.true_or]
          rw [if_neg (by simp), if_pos trivial, putB_true _ fun b hb => by have := hgt b hb; omega]
          rfl
      · have hz : r ≠ Rf.zero := by rintro rfl; exact ha (by decide)
        rw [if_neg hz, decide_eq_false ha, List.singleton_append]
        unfold oneC
        split
        · rw [List.nil_append, putB_false hgt]
        · rw [List.singleton_append]
          simp only [putB]
          rw [if_pos ⟨trivial, Int.le_refl _⟩, if_pos trivial, decide_eq_true (Int.le_refl _), Bool.or_true, putB_true _ fun b hb => by have := hgt b hb; omega]
          rfl
    · have hone : oneC (t.setB k r) lo = oneC t lo := by
        have hb := t.setB_b k lo r hk
        rw [if_neg (fun h => e h.symm)] at hb
        unfold oneC; rw [hb]
      rw [hone, ← ih (lo + 1) (by omega) (by omega)]
      unfold oneC
      split
      · rfl
      · rw [List.singleton_append, List.singleton_append]
        generalize decide (r.at_ < 1) = laid
        simp only [putB]
        rw [if_neg (by intro h; have := h.2; omega), if_neg (show ¬ (lo : Int) = (k : Int) by omega), decide_eq_false (show ¬ (k : Int) ≤ (lo : Int) by omega), Bool.or_false]
        rfl
theorem rPut_can (t : Tr) {k : Nat} {r : Rf} (hk : k < 64) (hr : r = Rf.zero ∨ 1 ≤ r.at_) : rPut (canB t) (k : Int) r = canB (t.setB k r) := putB_span t hk hr 64 0 (by omega) (by omega)
theorem canB_bl {s t : Tr} (h : s.bl = t.bl) : canB s = canB t := spanC_congr fun i _ _ => by simp only [Tr.b, h]
theorem canB_ok (t : Tr) : BlOk (canB t) := fun b hb => by
  have := spanC_ge t 64 0 b hb
  exact ⟨b.k.toNat, by omega, by omega⟩
theorem span_refs (t : Tr) : ∀ n lo, lo + n ≤ 64 → (spanC t lo n).map (·.r) = liveB ((t.bl.drop lo).take n) := by
  intro n
  induction n with
  | zero => intro lo _; simp [spanC, liveB]
  | succ n ih =>
    intro lo h
    have hl : lo < t.bl.length := by rw [t.hb]; omega
    have e : t.bl[lo] = t.b lo := by have := t.b_get (i := lo) (by omega); rw [List.getElem?_eq_getElem hl, Option.some.injEq] at this; exact this
    rw [spanC_succ, List.map_append, ih (lo + 1) (by omega), List.drop_eq_getElem_cons hl, List.take_succ_cons, e]
    simp only [liveB, List.filter_cons]
    unfold oneC
    split
    · rename_i hz; rw [hz]; simp [liveB]
    · rename_i hz; simp [liveB, hz]
theorem can_refs (t : Tr) : (canB t).map (·.r) = liveB t.bl := by
  have := span_refs t 64 0 (by omega)
  rwa [List.drop_zero, List.take_of_length_le (by rw [t.hb]; omega)] at this
theorem can_len (t : Tr) : (canB t).length = t.mapped := by rw [Tr.mapped, ← can_refs, List.length_map]
theorem mapped_le (t : Tr) : t.mapped ≤ 64 := by have := liveB_len t.bl; rwa [t.hb] at this
theorem spanC_get_none (t : Tr) (n lo : Nat) {k : Int} (h : ¬ ((lo : Int) ≤ k ∧ k < ((lo + n : Nat) : Int))) : rGet (spanC t lo n) k = none := by
  have : (spanC t lo n).find? (fun b => b.k == k) = none := List.find?_eq_none.mpr fun b hb => by
    have := spanC_ge t n lo b hb
    simp only [beq_iff_eq]
    rintro rfl
    exact h ⟨this.1, this.2.1⟩
  rw [rGet, this]; rfl
theorem spanC_get (t : Tr) {k : Nat} : ∀ n lo, lo ≤ k → k < lo + n → rGet (spanC t lo n) (k : Int) = if t.b k = Rf.zero then none else some (t.b k) := by
  intro n
  induction n with
  | zero => intro lo h1 h2; omega
  | succ n ih =>
    intro lo h1 h2
    rw [spanC_succ]
    by_cases e : lo = k
    · subst e
      unfold oneC
      split
      · rename_i hz; rw [List.nil_append, spanC_get_none t n (lo + 1) (by omega)]
      · simp [rGet]
    · have hr := ih (lo + 1) (by omega) (by omega)
      unfold oneC
      split
      · rw [List.nil_append, hr]
      · rw [List.singleton_append, rGet, List.find?_cons_of_neg (by simp; omega)]
        exact hr
theorem can_get (t : Tr) (k : Int) : rGet (canB t) k = if t.at k = Rf.zero then none else some (t.at k) := by
  by_cases h : 0 ≤ k ∧ k < 64
  · obtain ⟨k, rfl⟩ := Int.eq_ofNat_of_zero_le h.1
    rw [canB, spanC_get t 64 0 (by omega) (by omega), t.at_nat (by omega)]
  · rw [t.at_out h, if_pos rfl, canB, spanC_get_none t 64 0 (by omega)]
theorem can_get_d (t : Tr) (k : Int) : (rGet (canB t) k).getD Rf.zero = t.at k := by
  rw [can_get]; split
  · rename_i h; rw [h]; rfl
  · rfl
theorem can_get_s (t : Tr) (k : Int) : (rGet (canB t) k).isSome = !(t.at k == Rf.zero) := by
  rw [can_get]; split
  · rename_i h; rw [h]; rfl
  · rename_i h; rw [beq_eq_false_iff_ne.mpr h]; rfl
theorem can_there (t : Tr) {i : Nat} (h1 : 1 ≤ i) (h8 : i ≤ 8) : rThere (canB t) i = decide (t.some i) := by
  rw [Bool.eq_iff_iff, decide_eq_true_iff, rThere, List.any_eq_true]
  constructor
  · rintro ⟨b, hb, he⟩
    obtain ⟨g1, g2, g3, g4⟩ := spanC_ge t 64 0 b hb
    rw [beq_iff_eq] at he
    refine ⟨b.k.toNat % 8, by omega, ?_⟩
    rw [show 8 * (i - 1) + b.k.toNat % 8 = b.k.toNat by omega, ← g3]
    exact g4
  · rintro ⟨j, hj, hz⟩
    have := spanC_get t (k := 8 * (i - 1) + j) 64 0 (by omega) (by omega)
    rw [if_neg hz] at this
    unfold rGet at this
    obtain ⟨b, hb1, _⟩ := Option.map_eq_some_iff.mp this
    have hk := List.find?_some hb1
    simp only [beq_iff_eq] at hk
    exact ⟨b, List.mem_of_find?_eq_some hb1, by rw [hk, Int.toNat_natCast]; exact beq_iff_eq.mpr (by omega)⟩
/-- The nodes of a list are a tree's. -/
def wantN (t : Tr) (k : Int) : Option N1 := if (t.node k).st = 1 then some ⟨k, false, (t.node k).ref⟩ else if (t.node k).st = 2 then some ⟨k, true, Rf.zero⟩ else none
def NdR (t : Tr) (nd : List N1) : Prop := ∀ k, nd.find? (fun b => b.k == k) = wantN t k
theorem find_without (nd : List N1) (k j : Int) : (rWithout nd k).find? (fun b => b.k == j) = if j = k then none else nd.find? fun b => b.k == j := by
  unfold rWithout
  rw [List.find?_filter]
  by_cases e : j = k
  · subst e
    rw [if_pos rfl]
    exact List.find?_eq_none.mpr fun b _ => by simp
  · rw [if_neg e]
    congr 1
    funext b
    by_cases h : b.k = j
    · have : ¬ b.k = k := fun h' => e (h.symm.trans h')
      simp [h, e]
    · simp [h]
theorem find_is (nd : List N1) (n : N1) (j : Int) : (rIs nd n).find? (fun b => b.k == j) = if j = n.k then some n else nd.find? fun b => b.k == j := by
  unfold rIs
  rw [List.find?_append, find_without]
  by_cases e : j = n.k
  · rw [if_pos e, if_pos e]; simp [e]
  · rw [if_neg e, if_neg e]
    have : [n].find? (fun b => b.k == j) = none := by simp; omega
    rw [this]; simp
theorem node_setN (t : Tr) {i : Nat} (hi : i < 9) (x : Nd) (k : Int) : (t.setN i x).node k = if k = i then x else t.node k := by
  by_cases h : 0 ≤ k ∧ k ≤ 8
  · obtain ⟨k, rfl⟩ := Int.eq_ofNat_of_zero_le h.1
    rw [Tr.node_nat _ (by omega), Tr.node_nat _ (by omega), Tr.setN_n _ _ _ _ hi]
    by_cases e : i = k
    · rw [if_pos e, if_pos (by omega)]
    · rw [if_neg e, if_neg (by omega)]
  · rw [Tr.node_out _ h, Tr.node_out _ h, if_neg (by omega)]
theorem NdR.dirty {t : Tr} {nd : List N1} (h : NdR t nd) {i : Nat} (hi : i < 9) : NdR (t.setN i Nd.dirty) (rIs nd ⟨(i : Int), true, Rf.zero⟩) := fun k => by
  rw [find_is, h k, wantN, wantN, node_setN t hi]
  by_cases e : k = i
  · rw [if_pos e, if_pos e, if_neg (by decide), if_pos (show Nd.dirty.st = 2 from rfl), e]
  · rw [if_neg e, if_neg e]
theorem NdR.clean {t : Tr} {nd : List N1} (h : NdR t nd) {i : Nat} (hi : i < 9) (r : Rf) : NdR (t.setN i ⟨1, r⟩) (rIs nd ⟨(i : Int), false, r⟩) := fun k => by
  rw [find_is, h k, wantN, wantN, node_setN t hi]
  by_cases e : k = i
  · rw [if_pos e, if_pos e, if_pos rfl, e]
  · rw [if_neg e, if_neg e]
theorem NdR.none {t : Tr} {nd : List N1} (h : NdR t nd) {i : Nat} (hi : i < 9) : NdR (t.setN i Nd.none) (rWithout nd (i : Int)) := fun k => by
  rw [find_without, h k, wantN, wantN, node_setN t hi]
  by_cases e : k = i
  · rw [if_pos e, if_pos e, if_neg (by decide), if_neg (by decide)]
  · rw [if_neg e, if_neg e]
theorem NdR.same {s t : Tr} {nd : List N1} (h : NdR t nd) (e : ∀ i, s.n i = t.n i) : NdR s nd := fun k => by
  rw [h k]
  have : s.node k = t.node k := by unfold Tr.node; simp only [e]
  simp only [wantN, this]
theorem rNode_eq {t : Tr} {nd : List N1} (h : NdR t nd) (k : Int) : rNode nd k = if (t.node k).st = 1 then some (t.node k).ref else none := by
  rw [rNode, h k, wantN]
  by_cases e : (t.node k).st = 1
  · rw [if_pos e, if_pos e]; rfl
  · rw [if_neg e, if_neg e]
    split <;> rfl
theorem rNode_d {t : Tr} {nd : List N1} (h : NdR t nd) (k : Int) : (rNode nd k).getD Rf.zero = t.nodeR k := by
  rw [rNode_eq h, Tr.nodeR]; split <;> rfl
theorem rNode_s {t : Tr} {nd : List N1} (h : NdR t nd) (k : Int) : (rNode nd k).isSome = t.nodeB k := by
  rw [rNode_eq h, Tr.nodeB]; split
  · rename_i h; rw [decide_eq_true h]; rfl
  · rename_i h; rw [decide_eq_false h]; rfl
theorem rGone_eq {t : Tr} {nd : List N1} (h : NdR t nd) (k : Int) : rGone nd k = goneN (t.node k) := by
  rw [rGone, rNode_eq h]
  unfold goneN
  by_cases e : (t.node k).st = 1
  · rw [if_pos e]
    by_cases a : 0 < (t.node k).ref.at_
    · simp [e, a]
    · simp [e, a]
  · rw [if_neg e]; simp [e]
theorem rDirty_eq {t : Tr} {nd : List N1} (h : NdR t nd) (k : Int) : rDirty nd k = decide ((t.node k).st = 2) := by
  rw [rDirty, h k, wantN]
  by_cases e : (t.node k).st = 1
  · rw [if_pos e, decide_eq_false (by omega)]; rfl
  · rw [if_neg e]
    by_cases e2 : (t.node k).st = 2
    · rw [if_pos e2, decide_eq_true e2]; rfl
    · rw [if_neg e2, decide_eq_false e2]; rfl
theorem rDirty_iff {t : Tr} {nd : List N1} (h : NdR t nd) (k : Int) : rDirty nd k = true ↔ t.isDirty k := by
  rw [rDirty_eq h, decide_eq_true_iff]
  constructor
  · intro h2
    have hk : 0 ≤ k ∧ k ≤ 8 := Classical.byContradiction fun h' => by rw [t.node_out h'] at h2; cases h2
    obtain ⟨k, rfl⟩ := Int.eq_ofNat_of_zero_le hk.1
    rw [t.node_nat (by omega)] at h2
    exact ⟨hk.1, hk.2, by rw [Int.toNat_natCast]; exact h2⟩
  · rintro ⟨h1, h2, h3⟩
    obtain ⟨k, rfl⟩ := Int.eq_ofNat_of_zero_le h1
    rw [t.node_nat (by omega)]
    rwa [Int.toNat_natCast] at h3
theorem rDirtyL_eq {t : Tr} {nd : List N1} (h : NdR t nd) : rDirtyL nd = t.dirtyL := by
  unfold rDirtyL Tr.dirtyL Tr.dirtyIn
  apply List.filter_congr
  intro i hi
  rw [rDirty_eq h, t.node_nat (by simp [dOrd] at hi; omega)]
theorem rRefs_eq {t : Tr} {nd : List N1} (h : NdR t nd) : rRefs (canB t) nd = t.refs := by
  rw [rRefs, can_refs, Tr.refs]
  congr 1
  have hg : ∀ n, n ≤ 9 → rGones nd n = liveN (t.nd.take n) := by
    intro n
    induction n with
    | zero => intro _; simp [rGones, liveN]
    | succ n ih =>
      intro hn
      rw [rGones_succ, ih (by omega), t.nd_take (by omega), liveN_one, rGone_eq h, t.node_nat (by omega)]
  rw [hg 9 (Nat.le_refl _), List.take_of_length_le (by rw [t.hn]; omega)]
theorem rPage_eq {t : Tr} {nd : List N1} (h : NdR t nd) (k : Int) {i : Nat} (hi : i < 8) : rPageF (canB t) nd k i = t.pageF k i := by
  unfold rPageF Tr.pageF
  split
  · rw [rNode_d h, Tr.nodeR, t.node_nat (by omega)]
  · split
    · rw [can_get_d, t.at_nat (by omega)]
    · rfl
/-- What is always so, whatever is loaded. -/
structure Tr.Inv0 (t : Tr) : Prop where
  ok : t.Ok
  leaf : ∀ i, 1 ≤ i → i ≤ 8 → t.LeafOk i
  root : t.n 0 = Nd.dirty ∨ (t.n 0).st = 1
theorem new_inv0 : Tr.new.Inv0 := ⟨new_inv.ok, new_inv.leaf, .inr rfl⟩
/-- The document's tree is a tree. -/
structure Smr (t : Tr) (bl : List MB) (nd : List N1) : Prop where
  inv : t.Inv0
  bl : bl = canB t
  nd : NdR t nd
theorem spoil2_eq (t : Tr) (i : Nat) : t.spoilT [i, 0] = (t.setN i Nd.dirty).setN 0 Nd.dirty := rfl
theorem spoil2_sm {t : Tr} {nd : List N1} (h : NdR t nd) {k : Nat} (hk : k < 64) : NdR (t.spoilT [k / 8 + 1, 0]) (rSpN nd k) ∧ rSpR nd k = t.spoilR [k / 8 + 1, 0] := by
  have h1 := h.dirty (i := k / 8 + 1) (by omega)
  have h2 := h1.dirty (i := 0) (by omega)
  refine ⟨h2, ?_⟩
  have e2 := rGone_eq h1 0
  rw [show (0 : Int) = ((0 : Nat) : Int) from rfl, Tr.node_nat _ (by omega)] at e2
  rw [rSpR, show (0 : Int) = ((0 : Nat) : Int) from rfl, e2, rGone_eq h, Tr.node_nat _ (by omega)]
  simp only [Tr.spoilR, List.append_nil]
  rfl
theorem inv0_put {t : Tr} (h : t.Inv0) (k : Int) (r : Rf) : (t.putT k r).Inv0 := by
  have hn := putT_n t k r
  refine ⟨fun i hi => ?_, fun i h1 h2 => ?_, ?_⟩
  · rw [putT_b]
    split
    · split
      · exact .inr (by omega)
      · exact .inl rfl
    · exact h.ok i hi
  · have hs : (t.act k r → i ≠ k.toNat / 8 + 1) → ((t.putT k r).some i ↔ t.some i) := fun h => some_put h h1
    have hl := h.leaf i h1 h2
    unfold Tr.LeafOk at *
    rw [hn i]
    by_cases ha : t.act k r
    · rw [if_pos ha, if_neg (by omega)]
      by_cases e : i = k.toNat / 8 + 1
      · rw [if_pos e]
        by_cases hz : (t.putT k r).some i
        · rw [if_pos hz]; exact .inr (.inl ⟨rfl, hz⟩)
        · rw [if_neg hz]; exact .inl ⟨rfl, hz⟩
      · rw [if_neg e, hs fun _ => e]; exact hl
    · rw [if_neg ha, hs fun h => absurd h ha]; exact hl
  · rw [hn 0]
    by_cases ha : t.act k r
    · rw [if_pos ha, if_pos rfl]; exact .inl rfl
    · rw [if_neg ha]; exact h.root
end Go.Proofs.Ytmklcealhjmlgaa
end
