/- Texts of this seat, joined (part 4 of 5): an abstract memory for Go programs, this seat's functions as abstract code, and what each of them does. -/
import Derived.Test.YtodkgembfcddbaaM3
set_option linter.unusedSimpArgs false
section
/- Names: numbers as bytes; the library's lists of bytes. -/
namespace Go.Proofs.Ytodkgembfcddbaa
open Go Go.Adm
set_option linter.unusedSimpArgs false
set_option linter.unusedVariables false
set_option maxRecDepth 100000
theorem nw64 {k : Nat} (h : k < 18446744073709551616) : IntKind.u64.wrap (k : Int) = k := by
  rw [wr_u64, BitVec.ofInt_natCast, BitVec.toNat_ofNat, Nat.mod_eq_of_lt h]
/-- A number's eight bytes. -/
def numB (v : Nat) : List B8 := lowB v 8
theorem numB_len (v : Nat) : (numB v).length = 8 := lowB_len _ _
theorem ans_nnumber (v : Nat) (hv : v < 4611686018427387904) (m : Mem) : Ans Try.prog 33 [.int .i64 v] m fun r m' => ∃ p, r = .sl p 0 8 8 0 ∧ Kept [] m m' ∧ m.length ≤ p ∧ own m' p = some (bys (numB v)) := by
  refine ans_ret mixed ok33 ?_
  simp -implicitDefEqProofs (disch := (first | omega | (simp only [lenB, lowB_len, numB_len] <;> omega) | fail)) only [admQ, lenB, lowB_len, numB_len, aFill, AK.cls, implies_true, ↓reduceIte, reduceCtorEq, if_true, if_false, Nat.reduceAdd, Nat.reduceEqDiff, Nat.reduceMod, Nat.reduceLT, Nat.reduceLeDiff, Nat.reduceSub, Nat.reduceMul, Nat.reduceBEq, Int.reduceAdd, Int.reduceSub, Int.reduceMul, Int.reduceNeg, Int.reduceLT, Int.reduceLE, Int.reduceToNat, Int.reduceEq, Int.reduceBEq, c33, r33]
  have hr : rep 8 [AV.int .u8 0] = bys (upTo 8 (fun i => byV v (7 - i)) (fun _ => 0#8) 0) := by rw [upTo_zero, tab_const]; rfl
  simp -implicitDefEqProofs (disch := (first | omega | (simp only [lenB, lowB_len, numB_len] <;> omega) | fail)) only [admQ, lenB, lowB_len, numB_len, aFill, AK.cls, implies_true, ↓reduceIte, reduceCtorEq, if_true, if_false, Nat.reduceAdd, Nat.reduceEqDiff, Nat.reduceMod, Nat.reduceLT, Nat.reduceLeDiff, Nat.reduceSub, Nat.reduceMul, Nat.reduceBEq, Int.reduceAdd, Int.reduceSub, Int.reduceMul, Int.reduceNeg, Int.reduceLT, Int.reduceLE, Int.reduceToNat, Int.reduceEq, Int.reduceBEq, hr]
  refine LoopW.on (fun i : Nat => [(0, .int .i64 v), (3, .sl m.length 0 8 8 0), (7, .int .i64 8), (8, .int .i64 i)]) (fun i => 8 - i)
    (fun i M => i ≤ 8 ∧ M = m ++ [.row (bys (upTo 8 (fun i => byV v (7 - i)) (fun _ => 0#8) i)) false]) ?_ 0 _ _ rfl ⟨by omega, rfl⟩
  rintro i M X ⟨hi, rfl⟩ hX
  by_cases hlt : i < 8
  · have hw : IntKind.u8.wrap ((v >>> (8 * (7 - i)) : Nat) : Int) = ((byV v (7 - i)).toNat : Int) := wrap_u8 _
    have hu := upTo_set (n := 8) (i := i) (f := fun i => byV v (7 - i)) (g := fun _ => 0#8)
    simp -implicitDefEqProofs (disch := (first | omega | (simp only [lenB, lowB_len, numB_len] <;> omega) | fail)) only [admQ, lenB, lowB_len, numB_len, aFill, AK.cls, implies_true, ↓reduceIte, reduceCtorEq, if_true, if_false, Nat.reduceAdd, Nat.reduceEqDiff, Nat.reduceMod, Nat.reduceLT, Nat.reduceLeDiff, Nat.reduceSub, Nat.reduceMul, Nat.reduceBEq, Int.reduceAdd, Int.reduceSub, Int.reduceMul, Int.reduceNeg, Int.reduceLT, Int.reduceLE, Int.reduceToNat, Int.reduceEq, Int.reduceBEq, fdiv_nat, hw, @nw64, splice_byte, hu]
    exact hX (i + 1) _ _ rfl (by omega) ⟨by omega, rfl⟩
  · obtain rfl : i = 8 := by omega
    rw [upTo_all]
    simp -implicitDefEqProofs (disch := (first | omega | (simp only [lenB, lowB_len, numB_len] <;> omega) | fail)) only [admQ, lenB, lowB_len, numB_len, aFill, AK.cls, implies_true, ↓reduceIte, reduceCtorEq, if_true, if_false, Nat.reduceAdd, Nat.reduceEqDiff, Nat.reduceMod, Nat.reduceLT, Nat.reduceLeDiff, Nat.reduceSub, Nat.reduceMul, Nat.reduceBEq, Int.reduceAdd, Int.reduceSub, Int.reduceMul, Int.reduceNeg, Int.reduceLT, Int.reduceLE, Int.reduceToNat, Int.reduceEq, Int.reduceBEq]
    exact ⟨_, rfl, .app _ _ _, Nat.le_refl _, by rw [own_app_at0]; rfl⟩
/-- May an epoch or a number be? -/
def within (e : Int) : Prop := 0 ≤ e ∧ e ≤ 1099511627776
instance (e : Int) : Decidable (within e) := by unfold within; infer_instance
theorem ans_nwithin (e : Int) (m : Mem) : Ans Try.prog 31 [.int .i64 e] m fun r m' => r = .bool (decide (within e)) ∧ m' = m := by
  refine ans_ret mixed ok31 ?_
  by_cases h1 : e ≥ 0
  · by_cases h2 : e ≤ 1099511627776
    · simp -implicitDefEqProofs (disch := (first | omega | (simp only [lenB, lowB_len, numB_len] <;> omega) | fail)) only [admQ, lenB, lowB_len, numB_len, aFill, AK.cls, implies_true, ↓reduceIte, reduceCtorEq, if_true, if_false, Nat.reduceAdd, Nat.reduceEqDiff, Nat.reduceMod, Nat.reduceLT, Nat.reduceLeDiff, Nat.reduceSub, Nat.reduceMul, Nat.reduceBEq, Int.reduceAdd, Int.reduceSub, Int.reduceMul, Int.reduceNeg, Int.reduceLT, Int.reduceLE, Int.reduceToNat, Int.reduceEq, Int.reduceBEq, c31, r31, dec_t h1, dec_t h2, dec_t (show within e from ⟨h1, h2⟩)]
    · simp -implicitDefEqProofs (disch := (first | omega | (simp only [lenB, lowB_len, numB_len] <;> omega) | fail)) only [admQ, lenB, lowB_len, numB_len, aFill, AK.cls, implies_true, ↓reduceIte, reduceCtorEq, if_true, if_false, Nat.reduceAdd, Nat.reduceEqDiff, Nat.reduceMod, Nat.reduceLT, Nat.reduceLeDiff, Nat.reduceSub, Nat.reduceMul, Nat.reduceBEq, Int.reduceAdd, Int.reduceSub, Int.reduceMul, Int.reduceNeg, Int.reduceLT, Int.reduceLE, Int.reduceToNat, Int.reduceEq, Int.reduceBEq, c31, r31, dec_t h1, dec_f h2, dec_f (show ¬ within e from fun h => h2 h.2)]
  · simp -implicitDefEqProofs (disch := (first | omega | (simp only [lenB, lowB_len, numB_len] <;> omega) | fail)) only [admQ, lenB, lowB_len, numB_len, aFill, AK.cls, implies_true, ↓reduceIte, reduceCtorEq, if_true, if_false, Nat.reduceAdd, Nat.reduceEqDiff, Nat.reduceMod, Nat.reduceLT, Nat.reduceLeDiff, Nat.reduceSub, Nat.reduceMul, Nat.reduceBEq, Int.reduceAdd, Int.reduceSub, Int.reduceMul, Int.reduceNeg, Int.reduceLT, Int.reduceLE, Int.reduceToNat, Int.reduceEq, Int.reduceBEq, c31, r31, dec_f h1, dec_f (show ¬ within e from fun h => h1 h.1)]
theorem ans_slgrow (n : Nat) (hn : n ≤ 1000000000) (m : Mem) : Ans Try.prog 39 [.nils, .int .i64 n] m fun r m' => Kept [] m m' ∧ Room m.length m' r [] n := by
  refine ans_ret mixed ok39 ?_
  by_cases h0 : n = 0
  · subst h0
    simp -implicitDefEqProofs (disch := (first | omega | (simp only [lenB, lowB_len, numB_len] <;> omega) | fail)) only [admQ, lenB, lowB_len, numB_len, aFill, AK.cls, implies_true, ↓reduceIte, reduceCtorEq, if_true, if_false, Nat.reduceAdd, Nat.reduceEqDiff, Nat.reduceMod, Nat.reduceLT, Nat.reduceLeDiff, Nat.reduceSub, Nat.reduceMul, Nat.reduceBEq, Int.reduceAdd, Int.reduceSub, Int.reduceMul, Int.reduceNeg, Int.reduceLT, Int.reduceLE, Int.reduceToNat, Int.reduceEq, Int.reduceBEq, c39, r39, mapR, pCap]
    exact ⟨.refl _ _, .inl ⟨rfl, rfl, rfl⟩⟩
  · simp -implicitDefEqProofs (disch := (first | omega | (simp only [lenB, lowB_len, numB_len] <;> omega) | fail)) only [admQ, lenB, lowB_len, numB_len, aFill, AK.cls, implies_true, ↓reduceIte, reduceCtorEq, if_true, if_false, Nat.reduceAdd, Nat.reduceEqDiff, Nat.reduceMod, Nat.reduceLT, Nat.reduceLeDiff, Nat.reduceSub, Nat.reduceMul, Nat.reduceBEq, Int.reduceAdd, Int.reduceSub, Int.reduceMul, Int.reduceNeg, Int.reduceLT, Int.reduceLE, Int.reduceToNat, Int.reduceEq, Int.reduceBEq, c39, r39, mapR, pCap, aAppendZ]
    refine ⟨.app _ _ _, .inr ⟨by omega, m.length, rfl, ?_, Nat.le_refl _, by simp⟩⟩
    rw [own_app_at0]
    have hr : rep n [AV.int .u8 0] = bys (List.replicate n 0#8) := by rw [← bys_rep]; simp [rep]
    simp [own_c0, hr]
theorem ans_slconcat {m : Mem} {p k : Nat} {xs : List AV} {ls : List (List B8)} (hp : rowOf m p = some xs) (hr : RdL m xs ls) (hk : ls.length = k) (hb : k ≤ 1000 ∧ ls.flatten.length ≤ 900000000) :
    Ans Try.prog 32 [.sl p 0 k k 0] m fun r m' => Kept [] m m' ∧ GrB m.length m' r ls.flatten := by
  refine ans_ret mixed ok32 ?_
  simp -implicitDefEqProofs (disch := (first | omega | (simp only [lenB, lowB_len, numB_len] <;> omega) | fail)) only [admQ, lenB, lowB_len, numB_len, aFill, AK.cls, implies_true, ↓reduceIte, reduceCtorEq, if_true, if_false, Nat.reduceAdd, Nat.reduceEqDiff, Nat.reduceMod, Nat.reduceLT, Nat.reduceLeDiff, Nat.reduceSub, Nat.reduceMul, Nat.reduceBEq, Int.reduceAdd, Int.reduceSub, Int.reduceMul, Int.reduceNeg, Int.reduceLT, Int.reduceLE, Int.reduceToNat, Int.reduceEq, Int.reduceBEq, c32, r32]
  refine LoopW.on (fun i : Nat => [(0, .sl p 0 k k 0), (3, .int .i64 ((ls.take i).flatten.length : Nat)), (9, .sl p 0 k k 0), (10, .int .i64 k), (11, .int .i64 i)]) (fun i => k - i) (fun i M => i ≤ k ∧ M = m) ?_ 0 _ _ rfl ⟨by omega, rfl⟩
  rintro i M X ⟨hi, rfl⟩ hX
  by_cases hlt : i < k
  · obtain ⟨l, hl⟩ : ∃ l, ls[i]? = some l := ⟨_, List.getElem?_eq_getElem (by omega)⟩
    obtain ⟨y, hy, hyr⟩ := hr.2 i l hl
    have hcat := flat_take hl
    have h1 := flat_len (ls := ls) (i + 1)
    rw [hcat, List.length_append] at h1
    simp -implicitDefEqProofs (disch := (first | omega | (simp only [lenB, lowB_len, numB_len] <;> omega) | fail)) only [admQ, lenB, lowB_len, numB_len, aFill, AK.cls, implies_true, ↓reduceIte, reduceCtorEq, if_true, if_false, Nat.reduceAdd, Nat.reduceEqDiff, Nat.reduceMod, Nat.reduceLT, Nat.reduceLeDiff, Nat.reduceSub, Nat.reduceMul, Nat.reduceBEq, Int.reduceAdd, Int.reduceSub, Int.reduceMul, Int.reduceNeg, Int.reduceLT, Int.reduceLE, Int.reduceToNat, Int.reduceEq, Int.reduceBEq, hp, hy, hyr.len]
    refine hX (i + 1) _ _ ?_ (by omega) ⟨by omega, rfl⟩
    rw [hcat, List.length_append]
    rfl
  · obtain rfl : i = k := by omega
    rw [List.take_of_length_le (by omega)]
    simp -implicitDefEqProofs (disch := (first | omega | (simp only [lenB, lowB_len, numB_len] <;> omega) | fail)) only [admQ, lenB, lowB_len, numB_len, aFill, AK.cls, implies_true, ↓reduceIte, reduceCtorEq, if_true, if_false, Nat.reduceAdd, Nat.reduceEqDiff, Nat.reduceMod, Nat.reduceLT, Nat.reduceLeDiff, Nat.reduceSub, Nat.reduceMul, Nat.reduceBEq, Int.reduceAdd, Int.reduceSub, Int.reduceMul, Int.reduceNeg, Int.reduceLT, Int.reduceLE, Int.reduceToNat, Int.reduceEq, Int.reduceBEq]
    clear hX X
    refine (ans_slgrow _ (by omega) _).mono ?_
    rintro z m1 ⟨k1, g1⟩
    simp -implicitDefEqProofs (disch := (first | omega | (simp only [lenB, lowB_len, numB_len] <;> omega) | fail)) only [admQ, lenB, lowB_len, numB_len, aFill, AK.cls, implies_true, ↓reduceIte, reduceCtorEq, if_true, if_false, Nat.reduceAdd, Nat.reduceEqDiff, Nat.reduceMod, Nat.reduceLT, Nat.reduceLeDiff, Nat.reduceSub, Nat.reduceMul, Nat.reduceBEq, Int.reduceAdd, Int.reduceSub, Int.reduceMul, Int.reduceNeg, Int.reduceLT, Int.reduceLE, Int.reduceToNat, Int.reduceEq, Int.reduceBEq]
    refine LoopW.on (fun t : Nat × AV => [(6, t.2), (25, .sl p 0 i i 0), (26, .int .i64 i), (27, .int .i64 t.1)]) (fun t => i - t.1) (fun t N => t.1 ≤ i ∧ Kept [] M N ∧ Room M.length N t.2 (ls.take t.1).flatten ls.flatten.length) ?_ (0, z) _ _ rfl ⟨by simp, k1, g1⟩
    clear k1 g1 hlt hi
    rintro ⟨j, v⟩ N X ⟨hj, kk, g⟩ hX
    change Room M.length N v (ls.take j).flatten _ at g
    simp only at hj
    by_cases hlt : j < i
    · obtain ⟨l, hl⟩ : ∃ l, ls[j]? = some l := ⟨_, List.getElem?_eq_getElem (by omega)⟩
      obtain ⟨y, hy, hyr⟩ := hr.2 j l hl
      have hrow := kk.row hp (by simp)
      have hcat := flat_take hl
      have h1 := flat_len (ls := ls) (j + 1)
      rw [hcat, List.length_append] at h1
      simp -implicitDefEqProofs (disch := (first | omega | (simp only [lenB, lowB_len, numB_len] <;> omega) | fail)) only [admQ, lenB, lowB_len, numB_len, aFill, AK.cls, implies_true, ↓reduceIte, reduceCtorEq, if_true, if_false, Nat.reduceAdd, Nat.reduceEqDiff, Nat.reduceMod, Nat.reduceLT, Nat.reduceLeDiff, Nat.reduceSub, Nat.reduceMul, Nat.reduceBEq, Int.reduceAdd, Int.reduceSub, Int.reduceMul, Int.reduceNeg, Int.reduceLT, Int.reduceLE, Int.reduceToNat, Int.reduceEq, Int.reduceBEq, hrow, hy]
      obtain ⟨x3, m3, e3, g3, k3⟩ := g.push (hyr.kept0 kk) h1
      refine someW_eq e3 ?_
      simp -implicitDefEqProofs (disch := (first | omega | (simp only [lenB, lowB_len, numB_len] <;> omega) | fail)) only [admQ, lenB, lowB_len, numB_len, aFill, AK.cls, implies_true, ↓reduceIte, reduceCtorEq, if_true, if_false, Nat.reduceAdd, Nat.reduceEqDiff, Nat.reduceMod, Nat.reduceLT, Nat.reduceLeDiff, Nat.reduceSub, Nat.reduceMul, Nat.reduceBEq, Int.reduceAdd, Int.reduceSub, Int.reduceMul, Int.reduceNeg, Int.reduceLT, Int.reduceLE, Int.reduceToNat, Int.reduceEq, Int.reduceBEq]
      refine hX (j + 1, x3) _ _ rfl (by simp only; omega) ⟨by simp only; omega, kk.upon k3 g.low, ?_⟩
      show Room M.length m3 x3 (ls.take (j + 1)).flatten _
      rw [hcat]; exact g3
    · obtain rfl : j = i := by omega
      rw [List.take_of_length_le (by omega)] at g
      simp -implicitDefEqProofs (disch := (first | omega | (simp only [lenB, lowB_len, numB_len] <;> omega) | fail)) only [admQ, lenB, lowB_len, numB_len, aFill, AK.cls, implies_true, ↓reduceIte, reduceCtorEq, if_true, if_false, Nat.reduceAdd, Nat.reduceEqDiff, Nat.reduceMod, Nat.reduceLT, Nat.reduceLeDiff, Nat.reduceSub, Nat.reduceMul, Nat.reduceBEq, Int.reduceAdd, Int.reduceSub, Int.reduceMul, Int.reduceNeg, Int.reduceLT, Int.reduceLE, Int.reduceToNat, Int.reduceEq, Int.reduceBEq]
      exact ⟨kk, g.all rfl⟩
theorem ans_slequal {m : Mem} {x y : AV} {a b : List B8} (hx : RdB m x a) (hy : RdB m y b) (hl : a.length < 1152921504606846976) : Ans Try.prog 36 [x, y] m fun r m' => r = .bool (a == b) ∧ m' = m := by
  refine ans_ret mixed ok36 ?_
  by_cases h : a.length = b.length
  · have h' : ((a.length : Int) == (b.length : Int)) = true := by rw [h]; simp
    simp -implicitDefEqProofs (disch := (first | omega | (simp only [lenB, lowB_len, numB_len] <;> omega) | fail)) only [admQ, lenB, lowB_len, numB_len, aFill, AK.cls, implies_true, ↓reduceIte, reduceCtorEq, if_true, if_false, Nat.reduceAdd, Nat.reduceEqDiff, Nat.reduceMod, Nat.reduceLT, Nat.reduceLeDiff, Nat.reduceSub, Nat.reduceMul, Nat.reduceBEq, Int.reduceAdd, Int.reduceSub, Int.reduceMul, Int.reduceNeg, Int.reduceLT, Int.reduceLE, Int.reduceToNat, Int.reduceEq, Int.reduceBEq, c36, r36, hx.len, hy.len, h', Bool.not_true]
    refine LoopW.on (fun i : Nat => [(0, x), (1, y), (12, .int .i64 a.length), (13, .int .i64 i)]) (fun i => a.length - i) (fun i m' => m' = m ∧ i ≤ a.length ∧ ∀ j, j < i → gb a j = gb b j) ?_ 0 _ _ rfl ⟨rfl, by omega, fun j hj => by omega⟩
    rintro i _ X ⟨rfl, hi, hj⟩ hX
    by_cases hlt : i < a.length
    · obtain ⟨b1, o1, cap1, s1, c1, rfl, hr1, hg1, hl1, hc1, hs1, ht1⟩ := hx.cons hlt
      obtain ⟨b2, o2, cap2, s2, c2, rfl, hr2, hg2, hl2, hc2, hs2, ht2⟩ := hy.cons (by omega : i < b.length)
      have e1 := hg1 i hlt
      have e2 := hg2 i (by omega)
      cases he : gb a i == gb b i
      · have hne : (a == b) = false := by
          rw [beq_eq_false_iff_ne]; rintro rfl; simp at he
        simp -implicitDefEqProofs (disch := (first | omega | (simp only [lenB, lowB_len, numB_len] <;> omega) | fail)) only [admQ, lenB, lowB_len, numB_len, aFill, AK.cls, implies_true, ↓reduceIte, reduceCtorEq, if_true, if_false, Nat.reduceAdd, Nat.reduceEqDiff, Nat.reduceMod, Nat.reduceLT, Nat.reduceLeDiff, Nat.reduceSub, Nat.reduceMul, Nat.reduceBEq, Int.reduceAdd, Int.reduceSub, Int.reduceMul, Int.reduceNeg, Int.reduceLT, Int.reduceLE, Int.reduceToNat, Int.reduceEq, Int.reduceBEq, hr1, hr2, e1, e2, he, hne, Bool.not_false]
      · simp -implicitDefEqProofs (disch := (first | omega | (simp only [lenB, lowB_len, numB_len] <;> omega) | fail)) only [admQ, lenB, lowB_len, numB_len, aFill, AK.cls, implies_true, ↓reduceIte, reduceCtorEq, if_true, if_false, Nat.reduceAdd, Nat.reduceEqDiff, Nat.reduceMod, Nat.reduceLT, Nat.reduceLeDiff, Nat.reduceSub, Nat.reduceMul, Nat.reduceBEq, Int.reduceAdd, Int.reduceSub, Int.reduceMul, Int.reduceNeg, Int.reduceLT, Int.reduceLE, Int.reduceToNat, Int.reduceEq, Int.reduceBEq, hr1, hr2, e1, e2, he, Bool.not_true]
        refine hX (i + 1) _ _ rfl (by omega) ⟨rfl, by omega, fun j hj2 => ?_⟩
        by_cases hji : j = i
        · subst hji; simpa using he
        · exact hj j (by omega)
    · have he : (a == b) = true := by rw [beq_iff_eq]; exact gb_ext h fun j hj2 => hj j (by omega)
      simp -implicitDefEqProofs (disch := (first | omega | (simp only [lenB, lowB_len, numB_len] <;> omega) | fail)) only [admQ, lenB, lowB_len, numB_len, aFill, AK.cls, implies_true, ↓reduceIte, reduceCtorEq, if_true, if_false, Nat.reduceAdd, Nat.reduceEqDiff, Nat.reduceMod, Nat.reduceLT, Nat.reduceLeDiff, Nat.reduceSub, Nat.reduceMul, Nat.reduceBEq, Int.reduceAdd, Int.reduceSub, Int.reduceMul, Int.reduceNeg, Int.reduceLT, Int.reduceLE, Int.reduceToNat, Int.reduceEq, Int.reduceBEq, hx.len, he]
  · have h' : ((a.length : Int) == (b.length : Int)) = false := by rw [beq_eq_false_iff_ne]; omega
    have he : (a == b) = false := by rw [beq_eq_false_iff_ne]; rintro rfl; exact h rfl
    simp -implicitDefEqProofs (disch := (first | omega | (simp only [lenB, lowB_len, numB_len] <;> omega) | fail)) only [admQ, lenB, lowB_len, numB_len, aFill, AK.cls, implies_true, ↓reduceIte, reduceCtorEq, if_true, if_false, Nat.reduceAdd, Nat.reduceEqDiff, Nat.reduceMod, Nat.reduceLT, Nat.reduceLeDiff, Nat.reduceSub, Nat.reduceMul, Nat.reduceBEq, Int.reduceAdd, Int.reduceSub, Int.reduceMul, Int.reduceNeg, Int.reduceLT, Int.reduceLE, Int.reduceToNat, Int.reduceEq, Int.reduceBEq, c36, r36, hx.len, hy.len, h', he, Bool.not_false]
theorem ans_slclone {m : Mem} {x : AV} {l : List B8} (hx : RdB m x l) (hl : l.length ≤ 1000000000) : Ans Try.prog 37 [x] m fun r m' => Kept [] m m' ∧ GrB m.length m' r l ∧ ∀ b ∈ blkOf r, m.length ≤ b := by
  refine ans_ret mixed ok37 ?_
  rcases hx with ⟨rfl, rfl⟩ | ⟨b, o, cap, s, c, rfl, h2⟩
  · simp -implicitDefEqProofs (disch := (first | omega | (simp only [lenB, lowB_len, numB_len] <;> omega) | fail)) only [admQ, lenB, lowB_len, numB_len, aFill, AK.cls, implies_true, ↓reduceIte, reduceCtorEq, if_true, if_false, Nat.reduceAdd, Nat.reduceEqDiff, Nat.reduceMod, Nat.reduceLT, Nat.reduceLeDiff, Nat.reduceSub, Nat.reduceMul, Nat.reduceBEq, Int.reduceAdd, Int.reduceSub, Int.reduceMul, Int.reduceNeg, Int.reduceLT, Int.reduceLE, Int.reduceToNat, Int.reduceEq, Int.reduceBEq, c37, r37]
    exact ⟨.refl _ _, .nils .., by simp [blkOf]⟩
  · have hx : RdB m (.sl b o l.length cap s) l := .inr ⟨b, o, cap, s, c, rfl, h2⟩
    simp -implicitDefEqProofs (disch := (first | omega | (simp only [lenB, lowB_len, numB_len] <;> omega) | fail)) only [admQ, lenB, lowB_len, numB_len, aFill, AK.cls, implies_true, ↓reduceIte, reduceCtorEq, if_true, if_false, Nat.reduceAdd, Nat.reduceEqDiff, Nat.reduceMod, Nat.reduceLT, Nat.reduceLeDiff, Nat.reduceSub, Nat.reduceMul, Nat.reduceBEq, Int.reduceAdd, Int.reduceSub, Int.reduceMul, Int.reduceNeg, Int.reduceLT, Int.reduceLE, Int.reduceToNat, Int.reduceEq, Int.reduceBEq, c37, r37]
    have gz : GrB m.length (m ++ [Blk.row [] false]) (.sl m.length 0 0 0 0) [] := .zero (by rw [own_app_at0]; rfl)
    obtain ⟨x4, m4, e4, g4, k4, a4, n4⟩ := GrA.pushs5 (sz := 1) (bytes := 1) gz Nat.one_pos (hx.app [Blk.row [] false]).elems (hx.app [Blk.row [] false]).lenA (by simp) (by simp; omega) (by simp)
    refine someW_eq e4 ?_
    simp -implicitDefEqProofs (disch := (first | omega | (simp only [lenB, lowB_len, numB_len] <;> omega) | fail)) only [admQ, lenB, lowB_len, numB_len, aFill, AK.cls, implies_true, ↓reduceIte, reduceCtorEq, if_true, if_false, Nat.reduceAdd, Nat.reduceEqDiff, Nat.reduceMod, Nat.reduceLT, Nat.reduceLeDiff, Nat.reduceSub, Nat.reduceMul, Nat.reduceBEq, Int.reduceAdd, Int.reduceSub, Int.reduceMul, Int.reduceNeg, Int.reduceLT, Int.reduceLE, Int.reduceToNat, Int.reduceEq, Int.reduceBEq]
    refine ⟨a4 _ _ (.app _ _ _) (Nat.le_refl _), by simpa [GrB] using g4, fun q hq => ?_⟩
    by_cases h0 : 0 < l.length
    · have := n4 h0 q hq; simp at this; omega
    · have e := app_none (m := m ++ [Blk.row [] false]) (size := 1) (bytes := 1) (s := .sl m.length 0 0 0 0) (x := .sl b o l.length cap s) (congrArg some (show l.length = 0 by omega)) rfl
      rw [e] at e4; cases e4
      simp [blkOf] at hq; omega
theorem ans_copybytes {m : Mem} {x : AV} {l : List B8} (hx : RdB m x l) (hl : l.length ≤ 1000000000) :
    Ans Try.prog 30 [x] m fun r m' => Kept [] m m' ∧ GrB m.length m' r l := by
  refine ans_ret mixed ok30 ?_
  simp -implicitDefEqProofs (disch := (first | omega | (simp only [lenB, lowB_len, numB_len] <;> omega) | fail)) only [admQ, lenB, lowB_len, numB_len, aFill, AK.cls, implies_true, ↓reduceIte, reduceCtorEq, if_true, if_false, Nat.reduceAdd, Nat.reduceEqDiff, Nat.reduceMod, Nat.reduceLT, Nat.reduceLeDiff, Nat.reduceSub, Nat.reduceMul, Nat.reduceBEq, Int.reduceAdd, Int.reduceSub, Int.reduceMul, Int.reduceNeg, Int.reduceLT, Int.reduceLE, Int.reduceToNat, Int.reduceEq, Int.reduceBEq, c30, r30]
  refine LoopW.on (fun t : Nat × AV => [(0, x), (3, t.2), (4, .int .i64 t.1)]) (fun t => l.length - t.1) (fun t M => t.1 ≤ l.length ∧ Kept [] m M ∧ GrB m.length M t.2 (l.take t.1)) ?_ (0, .nils) _ _ rfl ⟨by simp, .refl _ _, .nils ..⟩
  rintro ⟨i, y⟩ M X ⟨hi, kk, g⟩ hX
  change GrB m.length M y (l.take i) at g
  simp only at hi
  by_cases hlt : i < l.length
  · have hlen := hx.len
    obtain ⟨b, o, cap, s, c, rfl, hrow, hat, _⟩ := hx.cons hlt
    have hr := kk.row hrow (by simp)
    have e := hat i hlt
    simp -implicitDefEqProofs (disch := (first | omega | (simp only [lenB, lowB_len, numB_len] <;> omega) | fail)) only [admQ, lenB, lowB_len, numB_len, aFill, AK.cls, implies_true, ↓reduceIte, reduceCtorEq, if_true, if_false, Nat.reduceAdd, Nat.reduceEqDiff, Nat.reduceMod, Nat.reduceLT, Nat.reduceLeDiff, Nat.reduceSub, Nat.reduceMul, Nat.reduceBEq, Int.reduceAdd, Int.reduceSub, Int.reduceMul, Int.reduceNeg, Int.reduceLT, Int.reduceLE, Int.reduceToNat, Int.reduceEq, Int.reduceBEq, hlen, hr, e]
    obtain ⟨x3, m3, e3, g3, k3, a3⟩ := g.push (gb l i) (by simp; omega) kk.len
    refine someW_eq e3 ?_
    simp -implicitDefEqProofs (disch := (first | omega | (simp only [lenB, lowB_len, numB_len] <;> omega) | fail)) only [admQ, lenB, lowB_len, numB_len, aFill, AK.cls, implies_true, ↓reduceIte, reduceCtorEq, if_true, if_false, Nat.reduceAdd, Nat.reduceEqDiff, Nat.reduceMod, Nat.reduceLT, Nat.reduceLeDiff, Nat.reduceSub, Nat.reduceMul, Nat.reduceBEq, Int.reduceAdd, Int.reduceSub, Int.reduceMul, Int.reduceNeg, Int.reduceLT, Int.reduceLE, Int.reduceToNat, Int.reduceEq, Int.reduceBEq]
    refine hX (i + 1, x3) _ _ rfl (by simp only; omega) ⟨by simp only; omega, a3 _ _ kk (Nat.le_refl _), ?_⟩
    show GrB m.length m3 x3 (l.take (i + 1))
    rw [take_gb hlt]; exact g3
  · obtain rfl : i = l.length := by omega
    rw [List.take_length] at g
    simp -implicitDefEqProofs (disch := (first | omega | (simp only [lenB, lowB_len, numB_len] <;> omega) | fail)) only [admQ, lenB, lowB_len, numB_len, aFill, AK.cls, implies_true, ↓reduceIte, reduceCtorEq, if_true, if_false, Nat.reduceAdd, Nat.reduceEqDiff, Nat.reduceMod, Nat.reduceLT, Nat.reduceLeDiff, Nat.reduceSub, Nat.reduceMul, Nat.reduceBEq, Int.reduceAdd, Int.reduceSub, Int.reduceMul, Int.reduceNeg, Int.reduceLT, Int.reduceLE, Int.reduceToNat, Int.reduceEq, Int.reduceBEq, hx.len]
    exact ⟨kk, g⟩
end Go.Proofs.Ytodkgembfcddbaa
end
section
/- Names: what is remembered; sealed, opened, summed. -/
namespace Go.Proofs.Ytodkgembfcddbaa
open Go Go.Adm
set_option linter.unusedSimpArgs false
set_option linter.unusedVariables false
set_option maxRecDepth 100000
/-- What is sealed: an epoch, a number, a head, a plain. -/
abbrev Sd := Int × Int × List B8 × List B8
def sdC (s : Sd) : List AV := [.int .i64 s.1, .int .i64 s.2.1, .str (strOf s.2.2.1), .str (strOf s.2.2.2)]
def sdK (s : Sd) : AV := .agg (sdC s)
def txK (t : List B8) : AV := .str (strOf t)
abbrev sdM : MK := .agg [.i, .i, .s, .s]
theorem sd_key (a b : Sd) : mapEq sdM (sdK a) (sdK b) = some (decide (a = b)) := by
  obtain ⟨a1, a2, a3, a4⟩ := a
  obtain ⟨b1, b2, b3, b4⟩ := b
  simp only [mapEq, sdK, sdC, aEqCells, aEqCk, if_true, Option.bind_some, Option.map_some, strOf_beq, Bool.and_true]
  congr 1
  rw [Bool.eq_iff_iff]
  simp [Prod.ext_iff]
theorem sd_fit (a : Sd) : keyFits sdM (sdK a) = true := rfl
theorem tx_key (a b : List B8) : mapEq (.one .s) (txK a) (txK b) = some (decide (a = b)) := by
  simp only [mapEq, txK, aEqCk, strOf_beq]
  congr 1
  rw [Bool.eq_iff_iff]; simp
theorem tx_fit (a : List B8) : keyFits (.one .s) (txK a) = true := rfl
/-- A Names: at x, in the blocks W; S was sealed, T was summed. -/
structure Nm (m : Mem) (x : Nat) (W : List Nat) (S : List Sd) (T : List (List B8)) : Prop where
  ex : ∃ bs v bt, own m x = some [.map bs, v, .map bt] ∧ MapR sdK m bs S ∧ GrA 4 0 m v (S.flatMap sdC) ∧ MapR txK m bt T ∧ W = x :: bs :: bt :: blkOf v ∧ bs ≠ bt ∧ x ∉ blkOf v
theorem Nm.kept {m m' : Mem} {x : Nat} {W X : List Nat} {S : List Sd} {T : List (List B8)} (h : Nm m x W S T) (hk : Kept X m m') (hX : ∀ b ∈ W, b ∉ X) : Nm m' x W S T := by
  obtain ⟨bs, v, bt, h1, h2, h3, h4, rfl, h6⟩ := h.ex
  exact ⟨bs, v, bt, hk.own h1 (hX x (by simp)), h2.kept hk (hX bs (by simp)), h3.kept hk (fun b hb => hX b (by simp [hb])), h4.kept hk (hX bt (by simp)), rfl, h6⟩
theorem Nm.kept0 {m m' : Mem} {x : Nat} {W : List Nat} {S : List Sd} {T : List (List B8)} (h : Nm m x W S T) (hk : Kept [] m m') : Nm m' x W S T := h.kept hk (by simp)
theorem Nm.lt {m : Mem} {x : Nat} {W : List Nat} {S : List Sd} {T : List (List B8)} (h : Nm m x W S T) : ∀ b ∈ W, b < m.length := by
  obtain ⟨bs, v, bt, h1, h2, h3, h4, rfl, h6⟩ := h.ex
  simp only [List.mem_cons]
  rintro b (rfl | rfl | rfl | hb)
  · exact own_lt h1
  · exact h2.lt
  · exact h4.lt
  · exact h3.lt b hb
theorem ans_nnew (m : Mem) : Ans Try.prog 11 [] m fun r m' => ∃ x W, r = .ptr x 0 ∧ Kept [] m m' ∧ Nm m' x W [] [] ∧ ∀ b ∈ W, m.length ≤ b := by
  refine ans_ret mixed ok11 ?_
  simp -implicitDefEqProofs (disch := (first | omega | (simp only [lenB, lowB_len, numB_len] <;> omega) | fail)) only [admQ, lenB, lowB_len, numB_len, aFill, AK.cls, implies_true, ↓reduceIte, reduceCtorEq, if_true, if_false, Nat.reduceAdd, Nat.reduceEqDiff, Nat.reduceMod, Nat.reduceLT, Nat.reduceLeDiff, Nat.reduceSub, Nat.reduceMul, Nat.reduceBEq, Int.reduceAdd, Int.reduceSub, Int.reduceMul, Int.reduceNeg, Int.reduceLT, Int.reduceLE, Int.reduceToNat, Int.reduceEq, Int.reduceBEq, c11, r11, mapR, mkMp]
  refine ⟨m.length + 2, [m.length + 2, m.length, m.length + 1], rfl, .app _ _ _, ⟨m.length, .nils, m.length + 1, ?_, ?_, .nils .., ?_, rfl, by omega, by simp [blkOf]⟩, by simp⟩
  · rw [own_app_at]; rfl
  · exact (MapR.new sdK m).at_ (by simp)
  · have := MapR.new txK (m ++ [.map [] 0])
    rw [List.length_append] at this
    exact this.at_ (by simp)
def addN {α : Type} [DecidableEq α] (s : α) (S : List α) : List α := if s ∈ S then S else S ++ [s]
def posN {α : Type} [DecidableEq α] (s : α) (S : List α) : Nat := ((fidx s S).getD S.length) + 1
def zeros (n : Nat) : List B8 := List.replicate n 0#8
def nsealB (S : List Sd) (s : Sd) : List B8 := s.2.2.2 ++ zeros 24 ++ numB (posN s S)
theorem sd_len (S : List Sd) : (S.flatMap sdC).length = S.length * 4 := by
  induction S with
  | nil => rfl
  | cons a l ih => rw [List.flatMap_cons, List.length_append, ih, List.length_cons]; simp only [sdC, List.length_cons, List.length_nil]; omega
def nsealQ (m : Mem) (x : Nat) (W : List Nat) (S : List Sd) (T : List (List B8)) (e n : Int) (head plain : List B8) (r : AV) (m' : Mem) : Prop :=
  (within e ∧ within n → ∃ W', Kept W m m' ∧ Nm m' x W' (addN (e, n, head, plain) S) T ∧ (∀ b ∈ W', b ∈ W ∨ m.length ≤ b) ∧ GrB m.length m' r (nsealB S (e, n, head, plain)) ∧ ∀ b ∈ blkOf r, b ∉ W') ∧
      (¬ (within e ∧ within n) → r = .nils ∧ Kept [] m m')
theorem nsealTail {m M : Mem} {x : Nat} {W W' : List Nat} {S : List Sd} {T : List (List B8)} {bx : AV} {e n : Int} {head plain : List B8} (hp : within e ∧ within n) (hb : RdB M bx plain) (hS : S.length ≤ 1000) (hl : plain.length ≤ 100000)
    (hk : Kept W m M) (hN : Nm M x W' (addN (e, n, head, plain) S) T) (hW : ∀ b ∈ W', b ∈ W ∨ m.length ≤ b) (k : Nat) (hk1 : k = posN (e, n, head, plain) S) (hk2 : k ≤ 1001) :
    wpA Try.prog c16_2 [(4, bx), (12, .int .i64 (k : Int))] M (retQ [.tmp 10] (nsealQ m x W S T e n head plain)) := by
  simp -implicitDefEqProofs (disch := (first | omega | (simp only [lenB, lowB_len, numB_len] <;> omega) | fail)) only [admQ, lenB, lowB_len, numB_len, aFill, AK.cls, implies_true, ↓reduceIte, reduceCtorEq, if_true, if_false, Nat.reduceAdd, Nat.reduceEqDiff, Nat.reduceMod, Nat.reduceLT, Nat.reduceLeDiff, Nat.reduceSub, Nat.reduceMul, Nat.reduceBEq, Int.reduceAdd, Int.reduceSub, Int.reduceMul, Int.reduceNeg, Int.reduceLT, Int.reduceLE, Int.reduceToNat, Int.reduceEq, Int.reduceBEq, c16_2]
  have hr : rep 24 [AV.int .u8 0] = bys (zeros 24) := rfl
  simp -implicitDefEqProofs (disch := (first | omega | (simp only [lenB, lowB_len, numB_len] <;> omega) | fail)) only [admQ, lenB, lowB_len, numB_len, aFill, AK.cls, implies_true, ↓reduceIte, reduceCtorEq, if_true, if_false, Nat.reduceAdd, Nat.reduceEqDiff, Nat.reduceMod, Nat.reduceLT, Nat.reduceLeDiff, Nat.reduceSub, Nat.reduceMul, Nat.reduceBEq, Int.reduceAdd, Int.reduceSub, Int.reduceMul, Int.reduceNeg, Int.reduceLT, Int.reduceLE, Int.reduceToNat, Int.reduceEq, Int.reduceBEq, hr]
  refine (ans_nnumber k (by omega) _).mono ?_
  rintro _ m1 ⟨p, rfl, k1, hp1, op⟩
  have oZ : own (M ++ [Blk.row (bys (zeros 24)) false]) M.length = some (bys (zeros 24)) := by rw [own_app_at0]; rfl
  have kA := Kept.app [] M [Blk.row (bys (zeros 24)) false]
  have hAl : (M ++ [Blk.row (bys (zeros 24)) false]).length = M.length + 1 := by simp
  have hEq : (M ++ [Blk.row (bys (zeros 24)) false])[M.length]? = some (.row (bys (zeros 24)) false) := by simp
  generalize M ++ [Blk.row (bys (zeros 24)) false] = A at *
  have hE : m1[M.length]? = some (.row (bys (zeros 24)) false) := by rw [k1.eq _ (by omega) (by simp)]; exact hEq
  simp -implicitDefEqProofs (disch := (first | omega | (simp only [lenB, lowB_len, numB_len] <;> omega) | fail)) only [admQ, lenB, lowB_len, numB_len, aFill, AK.cls, implies_true, ↓reduceIte, reduceCtorEq, if_true, if_false, Nat.reduceAdd, Nat.reduceEqDiff, Nat.reduceMod, Nat.reduceLT, Nat.reduceLeDiff, Nat.reduceSub, Nat.reduceMul, Nat.reduceBEq, Int.reduceAdd, Int.reduceSub, Int.reduceMul, Int.reduceNeg, Int.reduceLT, Int.reduceLE, Int.reduceToNat, Int.reduceEq, Int.reduceBEq, hE, (rd_one hb).1, (rd_one hb).2]
  have oZ1 := k1.own oZ (by simp)
  have K1 := kA.trans k1
  have rl : RdL (m1 ++ [Blk.row [bx, .sl M.length 0 24 24 0, .sl p 0 8 8 0] false]) [bx, .sl M.length 0 24 24 0, .sl p 0 8 8 0] [plain, zeros 24, numB k] :=
    .cons ((hb.kept0 K1).app _) (.cons (RdB.row (l := zeros 24) 24 0 (rowOf_own (own_app oZ1 _)) (by simp [zeros])) (.cons (RdB.row (l := numB k) 8 0 (rowOf_own (own_app op _)) (by rw [numB_len]; omega)) (.nil _)))
  have hfl : [plain, zeros 24, numB k].flatten = nsealB S (e, n, head, plain) := by simp [nsealB, hk1]
  have K2 := K1.more_app [Blk.row [bx, .sl M.length 0 24 24 0, .sl p 0 8 8 0] false]
  have rB : rowOf (m1 ++ [Blk.row [bx, .sl M.length 0 24 24 0, .sl p 0 8 8 0] false]) m1.length = some [bx, .sl M.length 0 24 24 0, .sl p 0 8 8 0] := by rw [rowOf_app_at0]; rfl
  generalize m1 ++ [Blk.row [bx, .sl M.length 0 24 24 0, .sl p 0 8 8 0] false] = C at *
  refine (ans_slconcat (k := 3) rB rl rfl ⟨by omega, by simp [zeros, numB_len]; omega⟩).mono ?_
  rintro r m3 ⟨k3, g3⟩
  simp -implicitDefEqProofs (disch := (first | omega | (simp only [lenB, lowB_len, numB_len] <;> omega) | fail)) only [admQ, lenB, lowB_len, numB_len, aFill, AK.cls, implies_true, ↓reduceIte, reduceCtorEq, if_true, if_false, Nat.reduceAdd, Nat.reduceEqDiff, Nat.reduceMod, Nat.reduceLT, Nat.reduceLeDiff, Nat.reduceSub, Nat.reduceMul, Nat.reduceBEq, Int.reduceAdd, Int.reduceSub, Int.reduceMul, Int.reduceNeg, Int.reduceLT, Int.reduceLE, Int.reduceToNat, Int.reduceEq, Int.reduceBEq]
  rw [hfl] at g3
  have hMC := K2.len
  have hmM := hk.len
  have hgb := GrA.blk g3 (by intro h0; have := congrArg List.length h0; simp [nsealB, numB_len] at this)
  refine ⟨fun _ => ⟨W', hk.trans (K2.trans k3 |>.more (by simp)), hN.kept0 (K2.trans k3), hW, g3.low (by omega), fun b hb1 hb2 => ?_⟩, fun h => absurd hp h⟩
  have := hN.lt b hb2
  have := hgb b hb1
  omega
theorem ans_nseal {m : Mem} {x : Nat} {W : List Nat} {S : List Sd} {T : List (List B8)} {hx bx : AV} {e n : Int} {head plain : List B8} (hN : Nm m x W S T) (hh : RdB m hx head) (hb : RdB m bx plain)
    (hd : ∀ b ∈ blkOf bx, b ∉ W) (hS : S.length ≤ 1000) (hl : head.length ≤ 100000 ∧ plain.length ≤ 100000) :
    Ans Try.prog 16 [.ptr x 0, .int .i64 e, .int .i64 n, hx, bx] m (nsealQ m x W S T e n head plain) := by
  refine ans_ret mixed ok16 ?_
  simp -implicitDefEqProofs (disch := (first | omega | (simp only [lenB, lowB_len, numB_len] <;> omega) | fail)) only [admQ, lenB, lowB_len, numB_len, aFill, AK.cls, implies_true, ↓reduceIte, reduceCtorEq, if_true, if_false, Nat.reduceAdd, Nat.reduceEqDiff, Nat.reduceMod, Nat.reduceLT, Nat.reduceLeDiff, Nat.reduceSub, Nat.reduceMul, Nat.reduceBEq, Int.reduceAdd, Int.reduceSub, Int.reduceMul, Int.reduceNeg, Int.reduceLT, Int.reduceLE, Int.reduceToNat, Int.reduceEq, Int.reduceBEq, p16, r16]
  refine (ans_nwithin e _).mono ?_
  rintro _ M ⟨rfl, hM⟩
  subst hM
  by_cases he : within e
  · simp -implicitDefEqProofs (disch := (first | omega | (simp only [lenB, lowB_len, numB_len] <;> omega) | fail)) only [admQ, lenB, lowB_len, numB_len, aFill, AK.cls, implies_true, ↓reduceIte, reduceCtorEq, if_true, if_false, Nat.reduceAdd, Nat.reduceEqDiff, Nat.reduceMod, Nat.reduceLT, Nat.reduceLeDiff, Nat.reduceSub, Nat.reduceMul, Nat.reduceBEq, Int.reduceAdd, Int.reduceSub, Int.reduceMul, Int.reduceNeg, Int.reduceLT, Int.reduceLE, Int.reduceToNat, Int.reduceEq, Int.reduceBEq, dec_t he, Bool.not_true]
    refine (ans_nwithin n _).mono ?_
    rintro _ M ⟨rfl, hM⟩
    subst hM
    by_cases hn : within n
    · obtain ⟨bs, v, bt, h1, h2, h3, h4, rfl, h6, h7⟩ := hN.ex
      simp -implicitDefEqProofs (disch := (first | omega | (simp only [lenB, lowB_len, numB_len] <;> omega) | fail)) only [admQ, lenB, lowB_len, numB_len, aFill, AK.cls, implies_true, ↓reduceIte, reduceCtorEq, if_true, if_false, Nat.reduceAdd, Nat.reduceEqDiff, Nat.reduceMod, Nat.reduceLT, Nat.reduceLeDiff, Nat.reduceSub, Nat.reduceMul, Nat.reduceBEq, Int.reduceAdd, Int.reduceSub, Int.reduceMul, Int.reduceNeg, Int.reduceLT, Int.reduceLE, Int.reduceToNat, Int.reduceEq, Int.reduceBEq, dec_t hn, Bool.not_true, mapR, hh.b2s, hb.b2s]
      have k0 := Kept.app [] M [Blk.row [.int .i64 e, .int .i64 n, .str (strOf head), .str (strOf plain)] false]
      have o0 : own (M ++ [Blk.row [.int .i64 e, .int .i64 n, .str (strOf head), .str (strOf plain)] false]) M.length = some [.int .i64 e, .int .i64 n, .str (strOf head), .str (strOf plain)] := by rw [own_app_at0]; rfl
      generalize M ++ [Blk.row [.int .i64 e, .int .i64 n, .str (strOf head), .str (strOf plain)] false] = A at k0 o0
      have g1 := k0.own h1 (by simp)
      have g2 := h2.kept k0 (by simp)
      have g3 := h3.kept0 k0
      have g4 := h4.kept k0 (by simp)
      have lk : rLookup (.agg [.i, .i, .s, .s]) (.int .i64 0) true A [.map bs, .agg [.int .i64 e, .int .i64 n, .str (strOf head), .str (strOf plain)]] = some (lookR (fidx (e, n, head, plain) S)) := g2.look sd_key sd_fit (e, n, head, plain)
      have hMA := k0.len
      cases hf : fidx (e, n, head, plain) S with
      | some i =>
        rw [hf] at lk
        simp -implicitDefEqProofs (disch := (first | omega | (simp only [lenB, lowB_len, numB_len] <;> omega) | fail)) only [admQ, lenB, lowB_len, numB_len, aFill, AK.cls, implies_true, ↓reduceIte, reduceCtorEq, if_true, if_false, Nat.reduceAdd, Nat.reduceEqDiff, Nat.reduceMod, Nat.reduceLT, Nat.reduceLeDiff, Nat.reduceSub, Nat.reduceMul, Nat.reduceBEq, Int.reduceAdd, Int.reduceSub, Int.reduceMul, Int.reduceNeg, Int.reduceLT, Int.reduceLE, Int.reduceToNat, Int.reduceEq, Int.reduceBEq, rowOf_own g1, rowOf_own o0, mapR, lk, lookR]
        have hin := List.mem_of_getElem? (fidx_some hf)
        have hpos : i + 1 = posN (e, n, head, plain) S := by simp [posN, hf]
        have hi := fidx_lt hf
        refine wp_join2 [4, 12] (fun _ : Unit => [(4, bx), (12, .int .i64 ((i + 1 : Nat) : Int))]) (fun _ M' => M' = A) rfl ?_ ?_
        · simp -implicitDefEqProofs (disch := (first | omega | (simp only [lenB, lowB_len, numB_len] <;> omega) | fail)) only [admQ, lenB, lowB_len, numB_len, aFill, AK.cls, implies_true, ↓reduceIte, reduceCtorEq, if_true, if_false, Nat.reduceAdd, Nat.reduceEqDiff, Nat.reduceMod, Nat.reduceLT, Nat.reduceLeDiff, Nat.reduceSub, Nat.reduceMul, Nat.reduceBEq, Int.reduceAdd, Int.reduceSub, Int.reduceMul, Int.reduceNeg, Int.reduceLT, Int.reduceLE, Int.reduceToNat, Int.reduceEq, Int.reduceBEq, c16_1, joins, Bool.not_true]
          exact ⟨(), trivial⟩
        · rintro _ M' rfl
          exact nsealTail ⟨he, hn⟩ (hb.kept0 k0) hS hl.2 (k0.more (by simp)) (by rw [addN, if_pos hin]; exact hN.kept0 k0) (fun b hb => .inl hb) _ hpos (by omega)
      | none =>
        rw [hf] at lk
        simp -implicitDefEqProofs (disch := (first | omega | (simp only [lenB, lowB_len, numB_len] <;> omega) | fail)) only [admQ, lenB, lowB_len, numB_len, aFill, AK.cls, implies_true, ↓reduceIte, reduceCtorEq, if_true, if_false, Nat.reduceAdd, Nat.reduceEqDiff, Nat.reduceMod, Nat.reduceLT, Nat.reduceLeDiff, Nat.reduceSub, Nat.reduceMul, Nat.reduceBEq, Int.reduceAdd, Int.reduceSub, Int.reduceMul, Int.reduceNeg, Int.reduceLT, Int.reduceLE, Int.reduceToNat, Int.reduceEq, Int.reduceBEq, rowOf_own g1, rowOf_own o0, mapR, lk, lookR]
        have hin := fidx_none.mp hf
        have hpos : S.length + 1 = posN (e, n, head, plain) S := by simp [posN, hf]
        refine wp_join2 [4, 12] (fun _ : Unit => [(4, bx), (12, .int .i64 ((S.length + 1 : Nat) : Int))]) (fun _ M' => ∃ W', Kept (x :: bs :: bt :: blkOf v) M M' ∧ RdB M' bx plain ∧ Nm M' x W' (S ++ [(e, n, head, plain)]) T ∧ ∀ b ∈ W', b ∈ x :: bs :: bt :: blkOf v ∨ M.length ≤ b) rfl ?_ ?_
        · simp -implicitDefEqProofs (disch := (first | omega | (simp only [lenB, lowB_len, numB_len] <;> omega) | fail)) only [admQ, lenB, lowB_len, numB_len, aFill, AK.cls, implies_true, ↓reduceIte, reduceCtorEq, if_true, if_false, Nat.reduceAdd, Nat.reduceEqDiff, Nat.reduceMod, Nat.reduceLT, Nat.reduceLeDiff, Nat.reduceSub, Nat.reduceMul, Nat.reduceBEq, Int.reduceAdd, Int.reduceSub, Int.reduceMul, Int.reduceNeg, Int.reduceLT, Int.reduceLE, Int.reduceToNat, Int.reduceEq, Int.reduceBEq, c16_1, joins, Bool.not_false, rowOf_own g1, rowOf_own o0]
          have hsl := sd_len S
          have hvM : M.length ∉ blkOf v := fun h => by have := hN.lt M.length (by simp [h]); omega
          have hvA : A.length ∉ blkOf v := fun h => by have := hN.lt A.length (by simp [h]); omega
          have hxM : x < M.length := hN.lt x (by simp)
          have kB := Kept.app [] A [Blk.row (sdC (e, n, head, plain)) false]
          have hBE : (A ++ [Blk.row (sdC (e, n, head, plain)) false])[A.length]? = some (.row (sdC (e, n, head, plain)) false) := by simp
          have hBl : (A ++ [Blk.row (sdC (e, n, head, plain)) false]).length = A.length + 1 := by simp
          obtain ⟨v2, m2, e2, gv2, kv2, av2, nv2⟩ := GrA.pushs5 (bytes := 48) (k := 1) (y := .sl A.length 0 1 1 0) (l2 := sdC (e, n, head, plain)) (g3.kept0 kB) (by omega) (elemsS_one A rfl) rfl rfl (by omega) (Nat.zero_le _)
          refine someW_eq e2 ?_
          generalize A ++ [Blk.row (sdC (e, n, head, plain)) false] = B at *
          have x1 := kv2.own (kB.own g1 (by simp)) h7
          have oM := kv2.own (kB.own o0 (by simp)) hvM
          have cE : m2[A.length]? = some (.row [.int .i64 e, .int .i64 n, .str (strOf head), .str (strOf plain)] false) := by rw [kv2.eq _ (by omega) hvA]; exact hBE
          have kM2 : Kept (x :: bs :: bt :: blkOf v) M m2 := (((k0.trans kB).more (by simp)).trans (kv2.more fun q hq _ => by simp [hq]))
          have hbsx : bs ≠ x := MapR.ne_own h2 h1
          have hbtx : bt ≠ x := MapR.ne_own h4 h1
          have hbsM : bs < M.length := h2.lt
          have hbtM : bt < M.length := h4.lt
          have hx2 := own_lt x1
          have hvbs : bs ∉ blkOf v := MapR.ne_gr h2 h3
          have hvbt : bt ∉ blkOf v := MapR.ne_gr h4 h3
          have hv2b : ∀ b ∈ blkOf v2, B.length ≤ b := nv2 (by omega)
          have hxv2 : x ∉ blkOf v2 := fun h => by have := hv2b x h; omega
          have hbsv2 : bs ∉ blkOf v2 := fun h => by have := hv2b bs h; omega
          have gb2 := (g2.kept kB (by simp)).kept kv2 hvbs
          have gt2 := (g4.kept kB (by simp)).kept kv2 hvbt
          have kX := Kept.set1 m2 x (.row [.map bs, v2, .map bt] false)
          have x3 := own_set hx2 [AV.map bs, v2, AV.map bt]
          have oM3 := own_set_ne' oM (show x ≠ M.length by omega) (.row [.map bs, v2, .map bt] false)
          have gv3 := gv2.kept kX (by simpa using fun b hb (h : b = x) => hxv2 (h ▸ hb))
          have gb3 := gb2.kept kX (by simpa using hbsx)
          have gt3 := gt2.kept kX (by simpa using hbtx)
          have cE3 : (m2.set x (.row [.map bs, v2, .map bt] false))[A.length]? = some (.row [.int .i64 e, .int .i64 n, .str (strOf head), .str (strOf plain)] false) := by rw [List.getElem?_set_ne (by omega)]; exact cE
          have kM3 := kM2.trans (kX.more fun q hq _ => by simp at hq; simp [hq])
          simp -implicitDefEqProofs (disch := (first | omega | (simp only [lenB, lowB_len, numB_len] <;> omega) | fail)) only [admQ, lenB, lowB_len, numB_len, aFill, AK.cls, implies_true, ↓reduceIte, reduceCtorEq, if_true, if_false, Nat.reduceAdd, Nat.reduceEqDiff, Nat.reduceMod, Nat.reduceLT, Nat.reduceLeDiff, Nat.reduceSub, Nat.reduceMul, Nat.reduceBEq, Int.reduceAdd, Int.reduceSub, Int.reduceMul, Int.reduceNeg, Int.reduceLT, Int.reduceLE, Int.reduceToNat, Int.reduceEq, Int.reduceBEq, rowOf_own x1, rowOf_own oM, x1, cE, (gr_one gv2).1, (gr_one gv2).2, rowOf_own x3, rowOf_own oM3, x3, cE3]
          obtain ⟨bv, nn, rfl, hn0, hnl, hbv, _⟩ := gv3.sl (by intro h0; have := congrArg List.length h0; simp [sdC] at this)
          have hnn : nn = S.length + 1 := by
            rw [List.length_append, hsl] at hnl
            simp only [sdC, List.length_cons, List.length_nil] at hnl
            omega
          subst hnn
          generalize m2.set x (.row [.map bs, .sl bv 0 (S.length + 1) (S.length + 1) 4, .map bt] false) = m3 at *
          obtain ⟨m4, eM, mr4, k4⟩ := gb3.add sd_key sd_fit hin
          have eM' : aMapSet (.agg [.i, .i, .s, .s]) m3 [.map bs, .agg [.int .i64 e, .int .i64 n, .str (strOf head), .str (strOf plain)], .int .i64 ((S.length + 1 : Nat) : Int)] = some (.tup [], m4) := eM
          have x4 := k4.own x3 (by simpa using hbsx.symm)
          have oM4 := k4.own oM3 (by simp; omega)
          simp -implicitDefEqProofs (disch := (first | omega | (simp only [lenB, lowB_len, numB_len] <;> omega) | fail)) only [admQ, lenB, lowB_len, numB_len, aFill, AK.cls, implies_true, ↓reduceIte, reduceCtorEq, if_true, if_false, Nat.reduceAdd, Nat.reduceEqDiff, Nat.reduceMod, Nat.reduceLT, Nat.reduceLeDiff, Nat.reduceSub, Nat.reduceMul, Nat.reduceBEq, Int.reduceAdd, Int.reduceSub, Int.reduceMul, Int.reduceNeg, Int.reduceLT, Int.reduceLE, Int.reduceToNat, Int.reduceEq, Int.reduceBEq, rowOf_own x3, rowOf_own oM3, mapR, eM', rowOf_own x4, rowOf_own oM4, joins]
          have kM4 := kM3.trans (k4.more fun q hq _ => by simp at hq; simp [hq])
          refine ⟨(), x :: bs :: bt :: blkOf (.sl bv 0 (S.length + 1) (S.length + 1) 4), kM4, hb.kept kM4 (fun b o n cap s h => hd b (by rw [h]; simp [blkOf])), ⟨bs, _, bt, x4, mr4, ?_, gt3.kept k4 (by simpa using h6.symm), rfl, h6, hxv2⟩, fun b hb => ?_⟩
          · rw [List.flatMap_append, List.flatMap_singleton]
            exact gv3.kept k4 (by simpa using fun b hb (h : b = bs) => hbsv2 (h ▸ hb))
          · simp only [List.mem_cons] at hb ⊢
            rcases hb with rfl | rfl | rfl | hb
            · exact .inl (.inl rfl)
            · exact .inl (.inr (.inl rfl))
            · exact .inl (.inr (.inr (.inl rfl)))
            · have := hv2b b hb; exact .inr (by omega)
        · rintro _ M' ⟨W', hk, hb', hN', hW⟩
          exact nsealTail ⟨he, hn⟩ hb' hS hl.2 hk (by rw [addN, if_neg hin]; exact hN') hW _ hpos (by omega)
    · simp -implicitDefEqProofs (disch := (first | omega | (simp only [lenB, lowB_len, numB_len] <;> omega) | fail)) only [admQ, lenB, lowB_len, numB_len, aFill, AK.cls, implies_true, ↓reduceIte, reduceCtorEq, if_true, if_false, Nat.reduceAdd, Nat.reduceEqDiff, Nat.reduceMod, Nat.reduceLT, Nat.reduceLeDiff, Nat.reduceSub, Nat.reduceMul, Nat.reduceBEq, Int.reduceAdd, Int.reduceSub, Int.reduceMul, Int.reduceNeg, Int.reduceLT, Int.reduceLE, Int.reduceToNat, Int.reduceEq, Int.reduceBEq, dec_f hn, Bool.not_false]
      exact ⟨fun h => absurd h.2 hn, fun _ => by first | exact ⟨rfl, .refl _ _⟩ | exact .refl _ _⟩
  · simp -implicitDefEqProofs (disch := (first | omega | (simp only [lenB, lowB_len, numB_len] <;> omega) | fail)) only [admQ, lenB, lowB_len, numB_len, aFill, AK.cls, implies_true, ↓reduceIte, reduceCtorEq, if_true, if_false, Nat.reduceAdd, Nat.reduceEqDiff, Nat.reduceMod, Nat.reduceLT, Nat.reduceLeDiff, Nat.reduceSub, Nat.reduceMul, Nat.reduceBEq, Int.reduceAdd, Int.reduceSub, Int.reduceMul, Int.reduceNeg, Int.reduceLT, Int.reduceLE, Int.reduceToNat, Int.reduceEq, Int.reduceBEq, dec_f he, Bool.not_false]
    exact ⟨fun h => absurd h.1 he, fun _ => by first | exact ⟨rfl, .refl _ _⟩ | exact .refl _ _⟩
/-- What is opened: the place of what was sealed so. -/
def nopenP (S : List Sd) (e n : Int) (head b : List B8) : Prop :=
  32 ≤ b.length ∧ ∃ i, fidx (e, n, head, b.take (b.length - 32)) S = some i ∧ b.drop (b.length - 32) = zeros 24 ++ numB (i + 1)
theorem ans_nopen {m : Mem} {x : Nat} {W : List Nat} {S : List Sd} {T : List (List B8)} {hx bx : AV} {e n : Int} {head b : List B8} (hN : Nm m x W S T) (hh : RdB m hx head) (hb : RdB m bx b) (hS : S.length ≤ 1000) (hl : head.length ≤ 100000 ∧ b.length ≤ 100000) :
    Ans Try.prog 20 [.ptr x 0, .int .i64 e, .int .i64 n, hx, bx] m fun r m' => Kept [] m m' ∧
      (nopenP S e n head b → ∃ v, r = .tup [v, .bool true] ∧ GrB m.length m' v (b.take (b.length - 32)) ∧ ∀ q ∈ blkOf v, m.length ≤ q) ∧ (¬ nopenP S e n head b → r = .tup [.nils, .bool false]) := by
  refine ans_ret mixed ok20 ?_
  by_cases h32 : b.length < 32
  · have hno : ¬ nopenP S e n head b := fun h => by have := h.1; omega
    simp -implicitDefEqProofs (disch := (first | omega | (simp only [lenB, lowB_len, numB_len] <;> omega) | fail)) only [admQ, lenB, lowB_len, numB_len, aFill, AK.cls, implies_true, ↓reduceIte, reduceCtorEq, if_true, if_false, Nat.reduceAdd, Nat.reduceEqDiff, Nat.reduceMod, Nat.reduceLT, Nat.reduceLeDiff, Nat.reduceSub, Nat.reduceMul, Nat.reduceBEq, Int.reduceAdd, Int.reduceSub, Int.reduceMul, Int.reduceNeg, Int.reduceLT, Int.reduceLE, Int.reduceToNat, Int.reduceEq, Int.reduceBEq, c20, r20, hb.len]
    exact ⟨.refl _ _, fun h => absurd h hno⟩
  · obtain ⟨q, o, cap, sl, cc, rfl, hrow, hat, hlen, hcap, hsl, htk⟩ := hb.cons (i := 0) (by omega)
    obtain ⟨bs, v, bt, h1, h2, h3, h4, rfl, h6, h7⟩ := hN.ex
    have hpl := hb.take (k := b.length - 32) (by omega)
    have htg := hb.drop (k := b.length - 32) (by omega)
    have hp8 : (b.take (b.length - 32)).length = b.length - 32 := by simp
    have ht8 : (b.drop (b.length - 32)).length = 32 := by simp; omega
    have lk : rLookup (.agg [.i, .i, .s, .s]) (.int .i64 0) true m [.map bs, .agg [.int .i64 e, .int .i64 n, .str (strOf head), .str (strOf (b.take (b.length - 32)))]] = some (lookR (fidx (e, n, head, b.take (b.length - 32)) S)) := h2.look sd_key sd_fit (e, n, head, b.take (b.length - 32))
    cases hf : fidx (e, n, head, b.take (b.length - 32)) S with
    | none =>
      rw [hf] at lk
      have hno : ¬ nopenP S e n head b := fun h => by obtain ⟨_, i, hi, _⟩ := h; rw [hf] at hi; cases hi
      simp -implicitDefEqProofs (disch := (first | omega | (simp only [lenB, lowB_len, numB_len] <;> omega) | fail)) only [admQ, lenB, lowB_len, numB_len, aFill, AK.cls, implies_true, ↓reduceIte, reduceCtorEq, if_true, if_false, Nat.reduceAdd, Nat.reduceEqDiff, Nat.reduceMod, Nat.reduceLT, Nat.reduceLeDiff, Nat.reduceSub, Nat.reduceMul, Nat.reduceBEq, Int.reduceAdd, Int.reduceSub, Int.reduceMul, Int.reduceNeg, Int.reduceLT, Int.reduceLE, Int.reduceToNat, Int.reduceEq, Int.reduceBEq, c20, r20, rowOf_own h1, mapR, hh.b2s, hpl.b2s, lk, lookR, Bool.not_false]
      exact ⟨.refl _ _, fun h => absurd h hno⟩
    | some i =>
      rw [hf] at lk
      have hi := fidx_lt hf
      simp -implicitDefEqProofs (disch := (first | omega | (simp only [lenB, lowB_len, numB_len] <;> omega) | fail)) only [admQ, lenB, lowB_len, numB_len, aFill, AK.cls, implies_true, ↓reduceIte, reduceCtorEq, if_true, if_false, Nat.reduceAdd, Nat.reduceEqDiff, Nat.reduceMod, Nat.reduceLT, Nat.reduceLeDiff, Nat.reduceSub, Nat.reduceMul, Nat.reduceBEq, Int.reduceAdd, Int.reduceSub, Int.reduceMul, Int.reduceNeg, Int.reduceLT, Int.reduceLE, Int.reduceToNat, Int.reduceEq, Int.reduceBEq, c20, r20, rowOf_own h1, mapR, hh.b2s, hpl.b2s, lk, lookR, Bool.not_true]
      have hr : rep 24 [AV.int .u8 0] = bys (zeros 24) := rfl
      simp -implicitDefEqProofs (disch := (first | omega | (simp only [lenB, lowB_len, numB_len] <;> omega) | fail)) only [admQ, lenB, lowB_len, numB_len, aFill, AK.cls, implies_true, ↓reduceIte, reduceCtorEq, if_true, if_false, Nat.reduceAdd, Nat.reduceEqDiff, Nat.reduceMod, Nat.reduceLT, Nat.reduceLeDiff, Nat.reduceSub, Nat.reduceMul, Nat.reduceBEq, Int.reduceAdd, Int.reduceSub, Int.reduceMul, Int.reduceNeg, Int.reduceLT, Int.reduceLE, Int.reduceToNat, Int.reduceEq, Int.reduceBEq, hr]
      refine (ans_nnumber (i + 1) (by omega) _).mono ?_
      rintro _ m1 ⟨p, rfl, k1, hp1, op⟩
      have oZ : own (m ++ [Blk.row (bys (zeros 24)) false]) m.length = some (bys (zeros 24)) := by rw [own_app_at0]; rfl
      have kA := Kept.app [] m [Blk.row (bys (zeros 24)) false]
      have hAl : (m ++ [Blk.row (bys (zeros 24)) false]).length = m.length + 1 := by simp
      have hEq : (m ++ [Blk.row (bys (zeros 24)) false])[m.length]? = some (.row (bys (zeros 24)) false) := by simp
      generalize m ++ [Blk.row (bys (zeros 24)) false] = A at *
      have hE : m1[m.length]? = some (.row (bys (zeros 24)) false) := by rw [k1.eq _ (by omega) (by simp)]; exact hEq
      simp -implicitDefEqProofs (disch := (first | omega | (simp only [lenB, lowB_len, numB_len] <;> omega) | fail)) only [admQ, lenB, lowB_len, numB_len, aFill, AK.cls, implies_true, ↓reduceIte, reduceCtorEq, if_true, if_false, Nat.reduceAdd, Nat.reduceEqDiff, Nat.reduceMod, Nat.reduceLT, Nat.reduceLeDiff, Nat.reduceSub, Nat.reduceMul, Nat.reduceBEq, Int.reduceAdd, Int.reduceSub, Int.reduceMul, Int.reduceNeg, Int.reduceLT, Int.reduceLE, Int.reduceToNat, Int.reduceEq, Int.reduceBEq, hE]
      have oZ1 := k1.own oZ (by simp)
      have K1 := kA.trans k1
      have rl : RdL (m1 ++ [Blk.row [.sl m.length 0 24 24 0, .sl p 0 8 8 0] false]) [.sl m.length 0 24 24 0, .sl p 0 8 8 0] [zeros 24, numB (i + 1)] :=
        .cons (RdB.row (l := zeros 24) 24 0 (rowOf_own (own_app oZ1 _)) (by simp [zeros])) (.cons (RdB.row (l := numB (i + 1)) 8 0 (rowOf_own (own_app op _)) (by rw [numB_len]; omega)) (.nil _))
      have hfl : [zeros 24, numB (i + 1)].flatten = zeros 24 ++ numB (i + 1) := by simp
      have K2 := K1.more_app [Blk.row [.sl m.length 0 24 24 0, .sl p 0 8 8 0] false]
      have rB : rowOf (m1 ++ [Blk.row [.sl m.length 0 24 24 0, .sl p 0 8 8 0] false]) m1.length = some [.sl m.length 0 24 24 0, .sl p 0 8 8 0] := by rw [rowOf_app_at0]; rfl
      have hE2 : (m1 ++ [Blk.row [.sl m.length 0 24 24 0, .sl p 0 8 8 0] false])[m.length]? = some (.row (bys (zeros 24)) false) := by rw [List.getElem?_append_left (by have := k1.len; omega)]; exact hE
      have hB2 : (m1 ++ [Blk.row [.sl m.length 0 24 24 0, .sl p 0 8 8 0] false])[m1.length]? = some (.row [.sl m.length 0 24 24 0, .sl p 0 8 8 0] false) := by simp
      have hCl : (m1 ++ [Blk.row [.sl m.length 0 24 24 0, .sl p 0 8 8 0] false]).length = m1.length + 1 := by simp
      have hm1 := K1.len
      generalize m1 ++ [Blk.row [.sl m.length 0 24 24 0, .sl p 0 8 8 0] false] = C at *
      refine (ans_slconcat (k := 2) rB rl rfl ⟨by omega, by simp [zeros, numB_len]⟩).mono ?_
      rintro r m3 ⟨k3, g3⟩
      rw [hfl] at g3
      have hE3 : m3[m.length]? = some (.row (bys (zeros 24)) false) := by rw [k3.eq _ (by omega) (by simp)]; exact hE2
      have hB3 : m3[m1.length]? = some (.row [.sl m.length 0 24 24 0, .sl p 0 8 8 0] false) := by rw [k3.eq _ (by omega) (by simp)]; exact hB2
      have K3 := K2.trans k3
      simp -implicitDefEqProofs (disch := (first | omega | (simp only [lenB, lowB_len, numB_len] <;> omega) | fail)) only [admQ, lenB, lowB_len, numB_len, aFill, AK.cls, implies_true, ↓reduceIte, reduceCtorEq, if_true, if_false, Nat.reduceAdd, Nat.reduceEqDiff, Nat.reduceMod, Nat.reduceLT, Nat.reduceLeDiff, Nat.reduceSub, Nat.reduceMul, Nat.reduceBEq, Int.reduceAdd, Int.reduceSub, Int.reduceMul, Int.reduceNeg, Int.reduceLT, Int.reduceLE, Int.reduceToNat, Int.reduceEq, Int.reduceBEq, hE3, hB3]
      refine (ans_slequal (htg.kept0 K3) g3.rd (by omega)).mono ?_
      rintro _ M ⟨rfl, hM⟩
      subst hM
      by_cases hq : b.drop (b.length - 32) = zeros 24 ++ numB (i + 1)
      · have hyes : nopenP S e n head b := ⟨by omega, i, hf, hq⟩
        simp -implicitDefEqProofs (disch := (first | omega | (simp only [lenB, lowB_len, numB_len] <;> omega) | fail)) only [admQ, lenB, lowB_len, numB_len, aFill, AK.cls, implies_true, ↓reduceIte, reduceCtorEq, if_true, if_false, Nat.reduceAdd, Nat.reduceEqDiff, Nat.reduceMod, Nat.reduceLT, Nat.reduceLeDiff, Nat.reduceSub, Nat.reduceMul, Nat.reduceBEq, Int.reduceAdd, Int.reduceSub, Int.reduceMul, Int.reduceNeg, Int.reduceLT, Int.reduceLE, Int.reduceToNat, Int.reduceEq, Int.reduceBEq, beq_iff_eq.mpr hq, Bool.not_true, hE3, hB3]
        refine (ans_slclone (hpl.kept0 K3) (by omega)).mono ?_
        rintro v m4 ⟨k4, g4, hb4⟩
        simp -implicitDefEqProofs (disch := (first | omega | (simp only [lenB, lowB_len, numB_len] <;> omega) | fail)) only [admQ, lenB, lowB_len, numB_len, aFill, AK.cls, implies_true, ↓reduceIte, reduceCtorEq, if_true, if_false, Nat.reduceAdd, Nat.reduceEqDiff, Nat.reduceMod, Nat.reduceLT, Nat.reduceLeDiff, Nat.reduceSub, Nat.reduceMul, Nat.reduceBEq, Int.reduceAdd, Int.reduceSub, Int.reduceMul, Int.reduceNeg, Int.reduceLT, Int.reduceLE, Int.reduceToNat, Int.reduceEq, Int.reduceBEq]
        have := K3.len
        exact ⟨K3.trans k4, fun _ => ⟨v, rfl, g4.low this, fun q hq => Nat.le_trans this (hb4 q hq)⟩, fun h => absurd hyes h⟩
      · have hno : ¬ nopenP S e n head b := fun h => by
          obtain ⟨_, j, hj, hq'⟩ := h
          rw [hf] at hj; cases hj
          exact hq hq'
        simp -implicitDefEqProofs (disch := (first | omega | (simp only [lenB, lowB_len, numB_len] <;> omega) | fail)) only [admQ, lenB, lowB_len, numB_len, aFill, AK.cls, implies_true, ↓reduceIte, reduceCtorEq, if_true, if_false, Nat.reduceAdd, Nat.reduceEqDiff, Nat.reduceMod, Nat.reduceLT, Nat.reduceLeDiff, Nat.reduceSub, Nat.reduceMul, Nat.reduceBEq, Int.reduceAdd, Int.reduceSub, Int.reduceMul, Int.reduceNeg, Int.reduceLT, Int.reduceLE, Int.reduceToNat, Int.reduceEq, Int.reduceBEq, beq_eq_false_iff_ne.mpr hq, Bool.not_false, hE3, hB3]
        exact ⟨K3, fun h => absurd h hno⟩
/-- What is told of a sum: ones, and the number. -/
def nsumB (T : List (List B8)) (b : List B8) : List B8 := List.replicate 24 1#8 ++ numB (posN b T)
theorem nsumB_len (T : List (List B8)) (b : List B8) : (nsumB T b).length = 32 := by simp [nsumB, numB_len]
theorem nsumTail {m M : Mem} {x : Nat} {W : List Nat} {S : List Sd} {T : List (List B8)} {b : List B8} (hT : T.length ≤ 100000) (k : Nat) (hk1 : k = posN b T) (hk2 : k ≤ 100001)
    (hk : Kept W m M) (hN : Nm M x W S (addN b T)) (hz : own M m.length = some (bys (List.replicate 32 0#8))) (hW : m.length ∉ W) :
    wpA Try.prog c22_2 [(4, .ptr m.length 0), (5, .int .i64 (k : Int))] M (retQ [.cell 4 true 32] fun r m' => r = .agg (bys (nsumB T b)) ∧ Kept W m m' ∧ Nm m' x W S (addN b T)) := by
  simp -implicitDefEqProofs (disch := (first | omega | (simp only [lenB, lowB_len, numB_len] <;> omega) | fail)) only [admQ, lenB, lowB_len, numB_len, aFill, AK.cls, implies_true, ↓reduceIte, reduceCtorEq, if_true, if_false, Nat.reduceAdd, Nat.reduceEqDiff, Nat.reduceMod, Nat.reduceLT, Nat.reduceLeDiff, Nat.reduceSub, Nat.reduceMul, Nat.reduceBEq, Int.reduceAdd, Int.reduceSub, Int.reduceMul, Int.reduceNeg, Int.reduceLT, Int.reduceLE, Int.reduceToNat, Int.reduceEq, Int.reduceBEq, c22_2]
  have hzl := own_lt hz
  have hr : bys (List.replicate 32 0#8) = bys (upTo 32 (fun _ => 1#8) (fun _ => 0#8) 0) := by rw [upTo_zero, tab_const]
  rw [hr]
  refine LoopW.on (fun i : Nat => [(4, .ptr m.length 0), (5, .int .i64 (k : Int)), (7, .ptr M.length 0), (34, .int .i64 i)]) (fun i => 32 - i)
    (fun i N => i ≤ 32 ∧ N = M ++ [.row (bys (upTo 32 (fun _ => 1#8) (fun _ => 0#8) i)) false]) ?_ 0 _ _ rfl ⟨by omega, rfl⟩
  rintro i N X ⟨hi, rfl⟩ hX
  by_cases hlt : i < 32
  · have hu := upTo_set (n := 32) (i := i) (f := fun _ => 1#8) (g := fun _ => 0#8)
    have hsp : splice (bys (upTo 32 (fun _ => 1#8) (fun _ => 0#8) i)) i [.int .u8 1] = bys (upTo 32 (fun _ => 1#8) (fun _ => 0#8) (i + 1)) := (splice_byte (l := upTo 32 (fun _ => 1#8) (fun _ => 0#8) i) (i := i) (x := 1#8) (by rw [upTo_len]; exact hlt)).trans (congrArg bys hu)
    simp -implicitDefEqProofs (disch := (first | omega | (simp only [lenB, lowB_len, numB_len] <;> omega) | fail)) only [admQ, lenB, lowB_len, numB_len, aFill, AK.cls, implies_true, ↓reduceIte, reduceCtorEq, if_true, if_false, Nat.reduceAdd, Nat.reduceEqDiff, Nat.reduceMod, Nat.reduceLT, Nat.reduceLeDiff, Nat.reduceSub, Nat.reduceMul, Nat.reduceBEq, Int.reduceAdd, Int.reduceSub, Int.reduceMul, Int.reduceNeg, Int.reduceLT, Int.reduceLE, Int.reduceToNat, Int.reduceEq, Int.reduceBEq, hsp]
    exact hX (i + 1) _ _ rfl (by omega) ⟨by omega, rfl⟩
  · obtain rfl : i = 32 := by omega
    rw [upTo_all]
    simp -implicitDefEqProofs (disch := (first | omega | (simp only [lenB, lowB_len, numB_len] <;> omega) | fail)) only [admQ, lenB, lowB_len, numB_len, aFill, AK.cls, implies_true, ↓reduceIte, reduceCtorEq, if_true, if_false, Nat.reduceAdd, Nat.reduceEqDiff, Nat.reduceMod, Nat.reduceLT, Nat.reduceLeDiff, Nat.reduceSub, Nat.reduceMul, Nat.reduceBEq, Int.reduceAdd, Int.reduceSub, Int.reduceMul, Int.reduceNeg, Int.reduceLT, Int.reduceLE, Int.reduceToNat, Int.reduceEq, Int.reduceBEq]
    clear hX X hr
    refine (ans_nnumber k (by omega) _).mono ?_
    rintro _ m1 ⟨p, rfl, k1, hp1, op⟩
    have oS := k1.own (show own (M ++ [Blk.row (bys (tab 32 fun _ => 1#8)) false]) M.length = some _ by rw [own_app_at0]; rfl) (by simp)
    have kA := Kept.app [] M [Blk.row (bys (tab 32 fun _ => 1#8)) false]
    have oZ1 := (kA.trans k1).own hz (by simp)
    have hcp := copy_row (o := 24) (ld := 8) (cap := 8) (s := 0) (.row (l := numB k) 8 0 (rowOf_own op) (by rw [numB_len]; omega)) oS (by simp [tab_len]) (by rw [numB_len]; omega)
    rw [numB_len] at hcp
    have hsp : splice (bys (tab 32 fun _ => 1#8)) 24 (bys (numB k)) = bys (nsumB T b) := by
      rw [nsumB, ← hk1, tab_const, splice]
      simp only [bys, List.map_replicate, List.map_append, List.length_map, numB_len, List.take_replicate, List.drop_replicate]
      simp
    rw [hsp] at hcp
    have hnl := nsumB_len T b
    have hMm := hk.len
    have hm1 := (kA.trans k1).len
    have oS2 := own_set (own_lt oS) (bys (nsumB T b))
    have oZ2 := own_set_ne' oZ1 (show M.length ≠ m.length by omega) (.row (bys (nsumB T b)) false)
    simp -implicitDefEqProofs (disch := (first | omega | (simp only [lenB, lowB_len, numB_len] <;> omega) | fail)) only [admQ, lenB, lowB_len, numB_len, aFill, AK.cls, implies_true, ↓reduceIte, reduceCtorEq, if_true, if_false, Nat.reduceAdd, Nat.reduceEqDiff, Nat.reduceMod, Nat.reduceLT, Nat.reduceLeDiff, Nat.reduceSub, Nat.reduceMul, Nat.reduceBEq, Int.reduceAdd, Int.reduceSub, Int.reduceMul, Int.reduceNeg, Int.reduceLT, Int.reduceLE, Int.reduceToNat, Int.reduceEq, Int.reduceBEq, hcp, rowOf_own oS2, oS2, oZ2, own_set (own_lt oZ2), rowOf_own (own_set (own_lt oZ2) _)]
    have K1 := (hk.trans ((kA.trans k1).more (by simp)))
    have hNk : Nm m1 x W S (addN b T) := hN.kept0 (kA.trans k1)
    refine ⟨(K1.write (.inr (by omega)) _).write (.inr (Nat.le_refl _)) _, (hNk.kept (.set1 m1 M.length _) fun q hq => ?_).kept (.set1 _ m.length _) fun q hq => ?_⟩
    · have := hN.lt q hq; simp; omega
    · simp; rintro rfl; exact hW hq
theorem ans_nsum {m : Mem} {x : Nat} {W : List Nat} {S : List Sd} {T : List (List B8)} {bx : AV} {b : List B8} (hN : Nm m x W S T) (hb : RdB m bx b) (hd : ∀ q ∈ blkOf bx, q ∉ W) (hT : T.length ≤ 100000) (hl : b.length ≤ 100000) :
    Ans Try.prog 22 [.ptr x 0, bx] m fun r m' => r = .agg (bys (nsumB T b)) ∧ Kept W m m' ∧ Nm m' x W S (addN b T) := by
  refine ans_ret mixed ok22 ?_
  obtain ⟨bs, v, bt, h1, h2, h3, h4, rfl, h6, h7⟩ := hN.ex
  simp -implicitDefEqProofs (disch := (first | omega | (simp only [lenB, lowB_len, numB_len] <;> omega) | fail)) only [admQ, lenB, lowB_len, numB_len, aFill, AK.cls, implies_true, ↓reduceIte, reduceCtorEq, if_true, if_false, Nat.reduceAdd, Nat.reduceEqDiff, Nat.reduceMod, Nat.reduceLT, Nat.reduceLeDiff, Nat.reduceSub, Nat.reduceMul, Nat.reduceBEq, Int.reduceAdd, Int.reduceSub, Int.reduceMul, Int.reduceNeg, Int.reduceLT, Int.reduceLE, Int.reduceToNat, Int.reduceEq, Int.reduceBEq, p22, r22]
  have k0 := Kept.app [] m [Blk.row (bys (List.replicate 32 0#8)) false]
  have o0 : own (m ++ [Blk.row (bys (List.replicate 32 0#8)) false]) m.length = some (bys (List.replicate 32 0#8)) := by rw [own_app_at0]; rfl
  generalize m ++ [Blk.row (bys (List.replicate 32 0#8)) false] = A at k0 o0
  have g1 := k0.own h1 (by simp)
  have g4 := h4.kept k0 (by simp)
  have lk : rLookup (.one .s) (.int .i64 0) true A [.map bt, .str (strOf b)] = some (lookR (fidx b T)) := g4.look tx_key tx_fit b
  have hW : m.length ∉ x :: bs :: bt :: blkOf v := fun h => by have := hN.lt _ h; omega
  have hb0 := hb.kept0 k0
  cases hf : fidx b T with
  | some i =>
    rw [hf] at lk
    have hin := List.mem_of_getElem? (fidx_some hf)
    have hpos : i + 1 = posN b T := by simp [posN, hf]
    have hi := fidx_lt hf
    simp -implicitDefEqProofs (disch := (first | omega | (simp only [lenB, lowB_len, numB_len] <;> omega) | fail)) only [admQ, lenB, lowB_len, numB_len, aFill, AK.cls, implies_true, ↓reduceIte, reduceCtorEq, if_true, if_false, Nat.reduceAdd, Nat.reduceEqDiff, Nat.reduceMod, Nat.reduceLT, Nat.reduceLeDiff, Nat.reduceSub, Nat.reduceMul, Nat.reduceBEq, Int.reduceAdd, Int.reduceSub, Int.reduceMul, Int.reduceNeg, Int.reduceLT, Int.reduceLE, Int.reduceToNat, Int.reduceEq, Int.reduceBEq, rowOf_own g1, mapR, hb0.b2s, lk, lookR]
    refine wp_join2 [4, 5] (fun _ : Unit => [(4, .ptr m.length 0), (5, .int .i64 ((i + 1 : Nat) : Int))]) (fun _ M' => M' = A) rfl ?_ ?_
    · simp -implicitDefEqProofs (disch := (first | omega | (simp only [lenB, lowB_len, numB_len] <;> omega) | fail)) only [admQ, lenB, lowB_len, numB_len, aFill, AK.cls, implies_true, ↓reduceIte, reduceCtorEq, if_true, if_false, Nat.reduceAdd, Nat.reduceEqDiff, Nat.reduceMod, Nat.reduceLT, Nat.reduceLeDiff, Nat.reduceSub, Nat.reduceMul, Nat.reduceBEq, Int.reduceAdd, Int.reduceSub, Int.reduceMul, Int.reduceNeg, Int.reduceLT, Int.reduceLE, Int.reduceToNat, Int.reduceEq, Int.reduceBEq, c22_1, joins, Bool.not_true]
      exact ⟨(), trivial⟩
    · rintro _ M' rfl
      exact nsumTail hT _ hpos (by omega) (k0.more (by simp)) (by rw [addN, if_pos hin]; exact hN.kept0 k0) o0 hW
  | none =>
    rw [hf] at lk
    have hin := fidx_none.mp hf
    have hpos : T.length + 1 = posN b T := by simp [posN, hf]
    simp -implicitDefEqProofs (disch := (first | omega | (simp only [lenB, lowB_len, numB_len] <;> omega) | fail)) only [admQ, lenB, lowB_len, numB_len, aFill, AK.cls, implies_true, ↓reduceIte, reduceCtorEq, if_true, if_false, Nat.reduceAdd, Nat.reduceEqDiff, Nat.reduceMod, Nat.reduceLT, Nat.reduceLeDiff, Nat.reduceSub, Nat.reduceMul, Nat.reduceBEq, Int.reduceAdd, Int.reduceSub, Int.reduceMul, Int.reduceNeg, Int.reduceLT, Int.reduceLE, Int.reduceToNat, Int.reduceEq, Int.reduceBEq, rowOf_own g1, mapR, hb0.b2s, lk, lookR]
    refine wp_join2 [4, 5] (fun _ : Unit => [(4, .ptr m.length 0), (5, .int .i64 ((T.length + 1 : Nat) : Int))]) (fun _ M' => Kept (x :: bs :: bt :: blkOf v) m M' ∧ own M' m.length = some (bys (List.replicate 32 0#8)) ∧ Nm M' x (x :: bs :: bt :: blkOf v) S (T ++ [b])) rfl ?_ ?_
    · obtain ⟨m4, eM, mr4, k4⟩ := g4.add tx_key tx_fit hin
      have eM' : aMapSet (.one .s) A [.map bt, .str (strOf b), .int .i64 ((T.length + 1 : Nat) : Int)] = some (.tup [], m4) := eM
      have hbtx : bt ≠ x := MapR.ne_own h4 h1
      have x4 := k4.own g1 (by simpa using hbtx.symm)
      simp -implicitDefEqProofs (disch := (first | omega | (simp only [lenB, lowB_len, numB_len] <;> omega) | fail)) only [admQ, lenB, lowB_len, numB_len, aFill, AK.cls, implies_true, ↓reduceIte, reduceCtorEq, if_true, if_false, Nat.reduceAdd, Nat.reduceEqDiff, Nat.reduceMod, Nat.reduceLT, Nat.reduceLeDiff, Nat.reduceSub, Nat.reduceMul, Nat.reduceBEq, Int.reduceAdd, Int.reduceSub, Int.reduceMul, Int.reduceNeg, Int.reduceLT, Int.reduceLE, Int.reduceToNat, Int.reduceEq, Int.reduceBEq, c22_1, joins, Bool.not_false, rowOf_own g1, mapR, g4.len, hb0.b2s, eM']
      have hbs : bs ≠ bt := h6
      refine ⟨(), (k0.more (by simp)).trans (k4.more fun q hq _ => by simp at hq; simp [hq]), k4.own o0 (by have := h4.lt; simp; omega), ⟨bs, v, bt, x4, (h2.kept k0 (by simp)).kept k4 (by simpa using h6), (h3.kept0 k0).kept k4 (by have := MapR.ne_gr h4 h3; simpa using fun b hb (h : b = bt) => this (h ▸ hb)), mr4, rfl, h6, h7⟩⟩
    · rintro _ M' ⟨hk, hz, hN'⟩
      exact nsumTail hT _ hpos (by omega) hk (by rw [addN, if_neg hin]; exact hN') hz hW
end Go.Proofs.Ytodkgembfcddbaa
end
section
/- Names: what the statements share. -/
namespace Go.Proofs.Ytodkgembfcddbaa
open Go Go.Adm
set_option linter.unusedSimpArgs false
set_option linter.unusedVariables false
set_option maxRecDepth 100000
theorem methn_seal : methodD Try.prog 25 "Seal" = some 16 := by kernel_rfl
theorem methn_open : methodD Try.prog 25 "Open" = some 20 := by kernel_rfl
theorem methn_sum : methodD Try.prog 25 "Sum" = some 22 := by kernel_rfl
theorem ans_big {m : Mem} {y : AV} {L : List (List B8)} (hy : RdLs m y L) (a k : Nat) (ha : a ≤ 100000) (hk : k ≤ 100000) :
    Ans Try.prog 28 [y, .int .i64 a, .int .i64 k] m fun r m' => ∃ c, r = .bool c ∧ m' = m ∧ (c = false → L.length ≤ a ∧ ∀ l ∈ L, l.length ≤ k) := by
  refine ans_ret mixed ok28 ?_
  by_cases h1 : (L.length : Int) > (a : Int)
  · simp -implicitDefEqProofs (disch := (first | omega | (simp only [lenB, lowB_len, numB_len, nsumB_len] <;> omega) | fail)) only [admQ, lenB, lowB_len, numB_len, nsumB_len, aFill, AK.cls, implies_true, ↓reduceIte, reduceCtorEq, if_true, if_false, Nat.reduceAdd, Nat.reduceEqDiff, Nat.reduceMod, Nat.reduceLT, Nat.reduceLeDiff, Nat.reduceSub, Nat.reduceMul, Nat.reduceBEq, Int.reduceAdd, Int.reduceSub, Int.reduceMul, Int.reduceNeg, Int.reduceLT, Int.reduceLE, Int.reduceToNat, Int.reduceEq, Int.reduceBEq, c28, r28, hy.len, dec_t h1]
    exact ⟨true, rfl, fun h => by cases h⟩
  · simp -implicitDefEqProofs (disch := (first | omega | (simp only [lenB, lowB_len, numB_len, nsumB_len] <;> omega) | fail)) only [admQ, lenB, lowB_len, numB_len, nsumB_len, aFill, AK.cls, implies_true, ↓reduceIte, reduceCtorEq, if_true, if_false, Nat.reduceAdd, Nat.reduceEqDiff, Nat.reduceMod, Nat.reduceLT, Nat.reduceLeDiff, Nat.reduceSub, Nat.reduceMul, Nat.reduceBEq, Int.reduceAdd, Int.reduceSub, Int.reduceMul, Int.reduceNeg, Int.reduceLT, Int.reduceLE, Int.reduceToNat, Int.reduceEq, Int.reduceBEq, c28, r28, hy.len, dec_f h1]
    refine LoopW.on (fun t : Nat × Nat => [(0, y), (2, .int .i64 k), (7, .int .i64 t.2), (8, .int .i64 t.1)]) (fun t => L.length - t.1) (fun t M => t.1 ≤ L.length ∧ t.2 ≤ k ∧ M = m ∧ ∀ i l, i < t.1 → L[i]? = some l → l.length ≤ k) ?_ (0, 0) _ _ rfl ⟨by simp, by simp, rfl, fun i l h => by simp at h⟩
    rintro ⟨i, s⟩ M X ⟨hi, hs, rfl, hj⟩ hX
    simp only at hi hs hj
    by_cases hlt : i < L.length
    · have hlen := hy.len
      rcases hy with ⟨_, rfl⟩ | ⟨bl, cap, hs', rfl, hrow, hhl, hel⟩
      · simp at hlt
      obtain ⟨v, hv⟩ : ∃ v, hs'[i]? = some v := ⟨_, List.getElem?_eq_getElem (by omega)⟩
      obtain ⟨l, hl⟩ : ∃ l, L[i]? = some l := ⟨_, List.getElem?_eq_getElem hlt⟩
      have hvl := hel i v l hv hl
      by_cases hb : l.length ≤ k
      · have hmin : (if ((k + 1 : Nat) : Int) < (l.length : Int) then ((k + 1 : Nat) : Int) else (l.length : Int)) = (l.length : Int) := if_neg (by omega)
        by_cases hs2 : s + l.length ≤ k
        · simp -implicitDefEqProofs (disch := (first | omega | (simp only [lenB, lowB_len, numB_len, nsumB_len] <;> omega) | fail)) only [admQ, lenB, lowB_len, numB_len, nsumB_len, aFill, AK.cls, implies_true, ↓reduceIte, reduceCtorEq, if_true, if_false, Nat.reduceAdd, Nat.reduceEqDiff, Nat.reduceMod, Nat.reduceLT, Nat.reduceLeDiff, Nat.reduceSub, Nat.reduceMul, Nat.reduceBEq, Int.reduceAdd, Int.reduceSub, Int.reduceMul, Int.reduceNeg, Int.reduceLT, Int.reduceLE, Int.reduceToNat, Int.reduceEq, Int.reduceBEq, hrow, hv, hvl.len, hmin, dec_f (show ¬ ((s + l.length : Nat) : Int) > (k : Int) by omega)]
          refine hX (i + 1, s + l.length) _ _ rfl (by simp only; omega) ⟨by simp only; omega, hs2, rfl, fun j l' hj2 hl' => ?_⟩
          by_cases hji : j = i
          · subst hji; rw [hl] at hl'; cases hl'; exact hb
          · exact hj j l' (by simp only at hj2; omega) hl'
        · simp -implicitDefEqProofs (disch := (first | omega | (simp only [lenB, lowB_len, numB_len, nsumB_len] <;> omega) | fail)) only [admQ, lenB, lowB_len, numB_len, nsumB_len, aFill, AK.cls, implies_true, ↓reduceIte, reduceCtorEq, if_true, if_false, Nat.reduceAdd, Nat.reduceEqDiff, Nat.reduceMod, Nat.reduceLT, Nat.reduceLeDiff, Nat.reduceSub, Nat.reduceMul, Nat.reduceBEq, Int.reduceAdd, Int.reduceSub, Int.reduceMul, Int.reduceNeg, Int.reduceLT, Int.reduceLE, Int.reduceToNat, Int.reduceEq, Int.reduceBEq, hrow, hv, hvl.len, hmin, dec_t (show ((s + l.length : Nat) : Int) > (k : Int) by omega)]
          exact ⟨true, rfl, fun h => by cases h⟩
      · have hmin : (if ((k + 1 : Nat) : Int) < (l.length : Int) then ((k + 1 : Nat) : Int) else (l.length : Int)) = ((k + 1 : Nat) : Int) := by
          split <;> omega
        simp -implicitDefEqProofs (disch := (first | omega | (simp only [lenB, lowB_len, numB_len, nsumB_len] <;> omega) | fail)) only [admQ, lenB, lowB_len, numB_len, nsumB_len, aFill, AK.cls, implies_true, ↓reduceIte, reduceCtorEq, if_true, if_false, Nat.reduceAdd, Nat.reduceEqDiff, Nat.reduceMod, Nat.reduceLT, Nat.reduceLeDiff, Nat.reduceSub, Nat.reduceMul, Nat.reduceBEq, Int.reduceAdd, Int.reduceSub, Int.reduceMul, Int.reduceNeg, Int.reduceLT, Int.reduceLE, Int.reduceToNat, Int.reduceEq, Int.reduceBEq, hrow, hv, hvl.len, hmin, dec_t (show ((s + (k + 1) : Nat) : Int) > (k : Int) by omega)]
        exact ⟨true, rfl, fun h => by cases h⟩
    · obtain rfl : i = L.length := by omega
      simp -implicitDefEqProofs (disch := (first | omega | (simp only [lenB, lowB_len, numB_len, nsumB_len] <;> omega) | fail)) only [admQ, lenB, lowB_len, numB_len, nsumB_len, aFill, AK.cls, implies_true, ↓reduceIte, reduceCtorEq, if_true, if_false, Nat.reduceAdd, Nat.reduceEqDiff, Nat.reduceMod, Nat.reduceLT, Nat.reduceLeDiff, Nat.reduceSub, Nat.reduceMul, Nat.reduceBEq, Int.reduceAdd, Int.reduceSub, Int.reduceMul, Int.reduceNeg, Int.reduceLT, Int.reduceLE, Int.reduceToNat, Int.reduceEq, Int.reduceBEq, hy.len]
      refine ⟨false, rfl, fun _ => ⟨by omega, fun l hl => ?_⟩⟩
      obtain ⟨i, hi⟩ := List.getElem?_of_mem hl
      exact hj i l (lt_of_get hi) hi
/-- Lists of things to be sealed. -/
def RdFs (m : Mem) (x : AV) (L : List Sd) : Prop :=
  (x = .nils ∧ L = []) ∨ ∃ b cap xs, x = .sl b 0 L.length cap 0 ∧ rowOf m b = some xs ∧ xs.length = L.length * 4 ∧ ∀ (i : Nat) (s : Sd), L[i]? = some s →
    ∃ h p, xs[i * 4]? = some (.int .i64 s.1) ∧ xs[i * 4 + 1]? = some (.int .i64 s.2.1) ∧ xs[i * 4 + 2]? = some h ∧ xs[i * 4 + 3]? = some p ∧ RdB m h s.2.2.1 ∧ RdB m p s.2.2.2
theorem RdFs.kept0 {m m' : Mem} {x : AV} {L : List Sd} (h : RdFs m x L) (hk : Kept [] m m') : RdFs m' x L := by
  rcases h with h | ⟨b, cap, xs, h1, h2, h3, h4⟩
  · exact .inl h
  · refine .inr ⟨b, cap, xs, h1, hk.row0 h2, h3, fun i s hs => ?_⟩
    obtain ⟨h, p, a1, a2, a3, a4, a5, a6⟩ := h4 i s hs
    exact ⟨h, p, a1, a2, a3, a4, a5.kept0 hk, a6.kept0 hk⟩
theorem RdFs.len {m : Mem} {x : AV} {L : List Sd} (h : RdFs m x L) : pLen [x] = some (.int .i64 L.length) := by
  rcases h with ⟨rfl, rfl⟩ | ⟨b, cap, _, rfl, _⟩ <;> rfl
theorem take4 {xs : List AV} {i : Nat} {a b c d : AV} (h1 : xs[i]? = some a) (h2 : xs[i + 1]? = some b) (h3 : xs[i + 2]? = some c) (h4 : xs[i + 3]? = some d) : List.take 4 (List.drop i xs) = [a, b, c, d] := by
  have e1 := List.getElem?_eq_some_iff.mp h1
  have e2 := List.getElem?_eq_some_iff.mp h2
  have e3 := List.getElem?_eq_some_iff.mp h3
  have e4 := List.getElem?_eq_some_iff.mp h4
  rw [List.drop_eq_getElem_cons e1.1, List.drop_eq_getElem_cons e2.1, List.drop_eq_getElem_cons e3.1, List.drop_eq_getElem_cons e4.1, e1.2, e2.2, e3.2, e4.2]
  rfl
theorem IsRecs.fours {m : Mem} {x : AV} {dss : List (List Adm.Fd)} (h : IsRecs [.i .i64, .i .i64, .b, .b] dss x m) : ∃ L, dss.length = L.length ∧ RdFs m x L := by
  rcases h with ⟨rfl, rfl⟩ | ⟨b, cap, xs, rfl, h2, h3, h4⟩
  · exact ⟨[], rfl, .inl ⟨rfl, rfl⟩⟩
  · have key : ∀ (dss : List (List Adm.Fd)) (xs : List AV), (∀ ds ∈ dss, ds.length = 4) → RdCs m (List.replicate dss.length [Fk.i .i64, .i .i64, .b, .b]).flatten dss.flatten xs →
        ∃ L : List Sd, dss.length = L.length ∧ xs.length = L.length * 4 ∧ ∀ (i : Nat) (s : Sd), L[i]? = some s →
          ∃ h p, xs[i * 4]? = some (.int .i64 s.1) ∧ xs[i * 4 + 1]? = some (.int .i64 s.2.1) ∧ xs[i * 4 + 2]? = some h ∧ xs[i * 4 + 3]? = some p ∧ RdB m h s.2.2.1 ∧ RdB m p s.2.2.2 := by
      intro dss
      induction dss with
      | nil => intro xs _ h; obtain ⟨_, rfl⟩ := h.none; exact ⟨[], rfl, rfl, fun i s h1 => by simp at h1⟩
      | cons d r ih =>
        intro xs hl h
        have hd := hl d (by simp)
        match d, hd with
        | [y1, y2, y3, y4], _ =>
          simp only [List.length_cons, List.replicate_succ, List.flatten_cons, List.cons_append, List.nil_append] at h
          obtain ⟨n1, d1, x1, e1, rfl, _, h⟩ := h.int
          simp only [List.cons.injEq] at e1
          obtain ⟨rfl, rfl⟩ := e1
          obtain ⟨n2, d2, x2, e2, rfl, _, h⟩ := h.int
          simp only [List.cons.injEq] at e2
          obtain ⟨rfl, rfl⟩ := e2
          obtain ⟨l3, d3, y3', x3, e3, rfl, hb3, h⟩ := h.bytes
          simp only [List.cons.injEq] at e3
          obtain ⟨rfl, rfl⟩ := e3
          obtain ⟨l4, d4, y4', x4, e4, rfl, hb4, h⟩ := h.bytes
          simp only [List.cons.injEq] at e4
          obtain ⟨rfl, rfl⟩ := e4
          obtain ⟨L, i1, i2, i3⟩ := ih x4 (fun ds h => hl ds (by simp [h])) h
          refine ⟨(n1, n2, l3, l4) :: L, by simp [i1], by simp [i2]; omega, fun i s hs => ?_⟩
          cases i with
          | zero => simp at hs; subst hs; exact ⟨y3', y4', rfl, rfl, rfl, rfl, hb3, hb4⟩
          | succ i =>
            obtain ⟨h', p', a1, a2, a3, a4, a5, a6⟩ := i3 i s (by simpa using hs)
            refine ⟨h', p', ?_, ?_, ?_, ?_, a5, a6⟩ <;> rw [show (i + 1) * 4 = i * 4 + 4 by omega] <;> assumption
    obtain ⟨L, k1, k2, k3⟩ := key dss xs h4 h3
    exact ⟨L, k1, .inr ⟨b, cap, xs, by rw [k1], h2, k2, k3⟩⟩
theorem ans_ngreat {m : Mem} {y : AV} {L : List Sd} (hy : RdFs m y L) :
    Ans Try.prog 25 [y] m fun r m' => ∃ c, r = .bool c ∧ m' = m ∧ (c = false → L.length ≤ 60 ∧ ∀ s ∈ L, s.2.2.1.length ≤ 1024 ∧ s.2.2.2.length ≤ 4096) := by
  refine ans_ret mixed ok25 ?_
  by_cases h1 : (L.length : Int) > 60
  · simp -implicitDefEqProofs (disch := (first | omega | (simp only [lenB, lowB_len, numB_len, nsumB_len] <;> omega) | fail)) only [admQ, lenB, lowB_len, numB_len, nsumB_len, aFill, AK.cls, implies_true, ↓reduceIte, reduceCtorEq, if_true, if_false, Nat.reduceAdd, Nat.reduceEqDiff, Nat.reduceMod, Nat.reduceLT, Nat.reduceLeDiff, Nat.reduceSub, Nat.reduceMul, Nat.reduceBEq, Int.reduceAdd, Int.reduceSub, Int.reduceMul, Int.reduceNeg, Int.reduceLT, Int.reduceLE, Int.reduceToNat, Int.reduceEq, Int.reduceBEq, c25, r25, hy.len, dec_t h1]
    exact ⟨true, rfl, fun h => by cases h⟩
  · simp -implicitDefEqProofs (disch := (first | omega | (simp only [lenB, lowB_len, numB_len, nsumB_len] <;> omega) | fail)) only [admQ, lenB, lowB_len, numB_len, nsumB_len, aFill, AK.cls, implies_true, ↓reduceIte, reduceCtorEq, if_true, if_false, Nat.reduceAdd, Nat.reduceEqDiff, Nat.reduceMod, Nat.reduceLT, Nat.reduceLeDiff, Nat.reduceSub, Nat.reduceMul, Nat.reduceBEq, Int.reduceAdd, Int.reduceSub, Int.reduceMul, Int.reduceNeg, Int.reduceLT, Int.reduceLE, Int.reduceToNat, Int.reduceEq, Int.reduceBEq, c25, r25, hy.len, dec_f h1]
    refine LoopW.on (fun i : Nat => [(0, y), (3, .int .i64 i)]) (fun i => L.length - i) (fun i M => i ≤ L.length ∧ M = m ∧ ∀ j s, j < i → L[j]? = some s → s.2.2.1.length ≤ 1024 ∧ s.2.2.2.length ≤ 4096) ?_ 0 _ _ rfl ⟨by simp, rfl, fun i l h => by simp at h⟩
    rintro i M X ⟨hi, rfl, hj⟩ hX
    by_cases hlt : i < L.length
    · have hlen := hy.len
      rcases hy with ⟨_, rfl⟩ | ⟨bl, cap, xs, rfl, hrow, hhl, hel⟩
      · simp at hlt
      obtain ⟨s, hs⟩ : ∃ s, L[i]? = some s := ⟨_, List.getElem?_eq_getElem hlt⟩
      obtain ⟨h, p, a1, a2, a3, a4, a5, a6⟩ := hel i s hs
      by_cases b1 : (s.2.2.1.length : Int) > 1024
      · simp -implicitDefEqProofs (disch := (first | omega | (simp only [lenB, lowB_len, numB_len, nsumB_len] <;> omega) | fail)) only [admQ, lenB, lowB_len, numB_len, nsumB_len, aFill, AK.cls, implies_true, ↓reduceIte, reduceCtorEq, if_true, if_false, Nat.reduceAdd, Nat.reduceEqDiff, Nat.reduceMod, Nat.reduceLT, Nat.reduceLeDiff, Nat.reduceSub, Nat.reduceMul, Nat.reduceBEq, Int.reduceAdd, Int.reduceSub, Int.reduceMul, Int.reduceNeg, Int.reduceLT, Int.reduceLE, Int.reduceToNat, Int.reduceEq, Int.reduceBEq, hrow, a3, a5.len, dec_t b1]
        exact ⟨true, rfl, fun h => by cases h⟩
      by_cases b2 : (s.2.2.2.length : Int) > 4096
      · simp -implicitDefEqProofs (disch := (first | omega | (simp only [lenB, lowB_len, numB_len, nsumB_len] <;> omega) | fail)) only [admQ, lenB, lowB_len, numB_len, nsumB_len, aFill, AK.cls, implies_true, ↓reduceIte, reduceCtorEq, if_true, if_false, Nat.reduceAdd, Nat.reduceEqDiff, Nat.reduceMod, Nat.reduceLT, Nat.reduceLeDiff, Nat.reduceSub, Nat.reduceMul, Nat.reduceBEq, Int.reduceAdd, Int.reduceSub, Int.reduceMul, Int.reduceNeg, Int.reduceLT, Int.reduceLE, Int.reduceToNat, Int.reduceEq, Int.reduceBEq, hrow, a3, a5.len, dec_f b1, a4, a6.len, dec_t b2]
        exact ⟨true, rfl, fun h => by cases h⟩
      · simp -implicitDefEqProofs (disch := (first | omega | (simp only [lenB, lowB_len, numB_len, nsumB_len] <;> omega) | fail)) only [admQ, lenB, lowB_len, numB_len, nsumB_len, aFill, AK.cls, implies_true, ↓reduceIte, reduceCtorEq, if_true, if_false, Nat.reduceAdd, Nat.reduceEqDiff, Nat.reduceMod, Nat.reduceLT, Nat.reduceLeDiff, Nat.reduceSub, Nat.reduceMul, Nat.reduceBEq, Int.reduceAdd, Int.reduceSub, Int.reduceMul, Int.reduceNeg, Int.reduceLT, Int.reduceLE, Int.reduceToNat, Int.reduceEq, Int.reduceBEq, hrow, a3, a5.len, dec_f b1, a4, a6.len, dec_f b2]
        refine hX (i + 1) _ _ rfl (by omega) ⟨by omega, rfl, fun j s' hj2 hs' => ?_⟩
        by_cases hji : j = i
        · subst hji; rw [hs] at hs'; cases hs'; omega
        · exact hj j s' (by omega) hs'
    · obtain rfl : i = L.length := by omega
      simp -implicitDefEqProofs (disch := (first | omega | (simp only [lenB, lowB_len, numB_len, nsumB_len] <;> omega) | fail)) only [admQ, lenB, lowB_len, numB_len, nsumB_len, aFill, AK.cls, implies_true, ↓reduceIte, reduceCtorEq, if_true, if_false, Nat.reduceAdd, Nat.reduceEqDiff, Nat.reduceMod, Nat.reduceLT, Nat.reduceLeDiff, Nat.reduceSub, Nat.reduceMul, Nat.reduceBEq, Int.reduceAdd, Int.reduceSub, Int.reduceMul, Int.reduceNeg, Int.reduceLT, Int.reduceLE, Int.reduceToNat, Int.reduceEq, Int.reduceBEq, hy.len]
      refine ⟨false, rfl, fun _ => ⟨by omega, fun s hs => ?_⟩⟩
      obtain ⟨i, hi⟩ := List.getElem?_of_mem hs
      exact hj i s (lt_of_get hi) hi
/-- May it be sealed? -/
def mayP (s : Sd) : Prop := within s.1 ∧ within s.2.1
instance (s : Sd) : Decidable (mayP s) := by unfold mayP; infer_instance
theorem ans_nmay {m : Mem} {e n : Int} {h p : AV} (hp : cellsV h = [h] ∧ h.solid = true) (s : Sd) (hs : s.1 = e ∧ s.2.1 = n) : Ans Try.prog 26 [.agg [.int .i64 e, .int .i64 n, h, p]] m fun r m' => r = .bool (decide (mayP s)) ∧ Kept [] m m' := by
  refine ans_ret mixed ok26 ?_
  obtain ⟨rfl, rfl⟩ := hs
  have k0 := Kept.app [] m [Blk.row [.int .i64 s.1, .int .i64 s.2.1, h, p] false]
  by_cases h1 : s.1 ≥ 0
  · by_cases h2 : s.2.1 ≥ 0
    · by_cases h3 : s.1 ≤ 1099511627776
      · by_cases h4 : s.2.1 ≤ 1099511627776
        · simp -implicitDefEqProofs (disch := (first | omega | (simp only [lenB, lowB_len, numB_len, nsumB_len] <;> omega) | fail)) only [admQ, lenB, lowB_len, numB_len, nsumB_len, aFill, AK.cls, implies_true, ↓reduceIte, reduceCtorEq, if_true, if_false, Nat.reduceAdd, Nat.reduceEqDiff, Nat.reduceMod, Nat.reduceLT, Nat.reduceLeDiff, Nat.reduceSub, Nat.reduceMul, Nat.reduceBEq, Int.reduceAdd, Int.reduceSub, Int.reduceMul, Int.reduceNeg, Int.reduceLT, Int.reduceLE, Int.reduceToNat, Int.reduceEq, Int.reduceBEq, c26, r26, dec_t h1, dec_t h2, dec_t h3, dec_t h4, dec_t (show mayP s from ⟨⟨h1, h3⟩, h2, h4⟩)]
          exact k0
        · simp -implicitDefEqProofs (disch := (first | omega | (simp only [lenB, lowB_len, numB_len, nsumB_len] <;> omega) | fail)) only [admQ, lenB, lowB_len, numB_len, nsumB_len, aFill, AK.cls, implies_true, ↓reduceIte, reduceCtorEq, if_true, if_false, Nat.reduceAdd, Nat.reduceEqDiff, Nat.reduceMod, Nat.reduceLT, Nat.reduceLeDiff, Nat.reduceSub, Nat.reduceMul, Nat.reduceBEq, Int.reduceAdd, Int.reduceSub, Int.reduceMul, Int.reduceNeg, Int.reduceLT, Int.reduceLE, Int.reduceToNat, Int.reduceEq, Int.reduceBEq, c26, r26, dec_t h1, dec_t h2, dec_t h3, dec_f h4, dec_f (show ¬ mayP s from fun h => h4 h.2.2)]
          exact k0
      · simp -implicitDefEqProofs (disch := (first | omega | (simp only [lenB, lowB_len, numB_len, nsumB_len] <;> omega) | fail)) only [admQ, lenB, lowB_len, numB_len, nsumB_len, aFill, AK.cls, implies_true, ↓reduceIte, reduceCtorEq, if_true, if_false, Nat.reduceAdd, Nat.reduceEqDiff, Nat.reduceMod, Nat.reduceLT, Nat.reduceLeDiff, Nat.reduceSub, Nat.reduceMul, Nat.reduceBEq, Int.reduceAdd, Int.reduceSub, Int.reduceMul, Int.reduceNeg, Int.reduceLT, Int.reduceLE, Int.reduceToNat, Int.reduceEq, Int.reduceBEq, c26, r26, dec_t h1, dec_t h2, dec_f h3, dec_f (show ¬ mayP s from fun h => h3 h.1.2)]
        exact k0
    · simp -implicitDefEqProofs (disch := (first | omega | (simp only [lenB, lowB_len, numB_len, nsumB_len] <;> omega) | fail)) only [admQ, lenB, lowB_len, numB_len, nsumB_len, aFill, AK.cls, implies_true, ↓reduceIte, reduceCtorEq, if_true, if_false, Nat.reduceAdd, Nat.reduceEqDiff, Nat.reduceMod, Nat.reduceLT, Nat.reduceLeDiff, Nat.reduceSub, Nat.reduceMul, Nat.reduceBEq, Int.reduceAdd, Int.reduceSub, Int.reduceMul, Int.reduceNeg, Int.reduceLT, Int.reduceLE, Int.reduceToNat, Int.reduceEq, Int.reduceBEq, c26, r26, dec_t h1, dec_f h2, dec_f (show ¬ mayP s from fun h => h2 h.2.1)]
      exact k0
  · simp -implicitDefEqProofs (disch := (first | omega | (simp only [lenB, lowB_len, numB_len, nsumB_len] <;> omega) | fail)) only [admQ, lenB, lowB_len, numB_len, nsumB_len, aFill, AK.cls, implies_true, ↓reduceIte, reduceCtorEq, if_true, if_false, Nat.reduceAdd, Nat.reduceEqDiff, Nat.reduceMod, Nat.reduceLT, Nat.reduceLeDiff, Nat.reduceSub, Nat.reduceMul, Nat.reduceBEq, Int.reduceAdd, Int.reduceSub, Int.reduceMul, Int.reduceNeg, Int.reduceLT, Int.reduceLE, Int.reduceToNat, Int.reduceEq, Int.reduceBEq, c26, r26, dec_f h1, dec_f (show ¬ mayP s from fun h => h1 h.1.1)]
    exact k0
theorem nsealB_len (S : List Sd) (s : Sd) : (nsealB S s).length = s.2.2.2.length + 32 := by simp [nsealB, zeros, numB_len]
theorem nopenP_seal {S : List Sd} {e n : Int} {head plain : List B8} (S' : List Sd) (h : fidx (e, n, head, plain) S' = some (posN (e, n, head, plain) S - 1)) : nopenP S' e n head (nsealB S (e, n, head, plain)) ∧ (nsealB S (e, n, head, plain)).take ((nsealB S (e, n, head, plain)).length - 32) = plain := by
  have hl := nsealB_len S (e, n, head, plain)
  simp only at hl
  have e0 : (nsealB S (e, n, head, plain)).length - 32 = plain.length := by omega
  have e1 : (nsealB S (e, n, head, plain)).take plain.length = plain := by simp [nsealB]
  have e2 : (nsealB S (e, n, head, plain)).drop plain.length = zeros 24 ++ numB (posN (e, n, head, plain) S) := by simp [nsealB]
  rw [nopenP, e0, e1]
  refine ⟨⟨by omega, _, h, ?_⟩, rfl⟩
  rw [e2]; rfl
theorem ans_nworks (m : Mem) : Ans Try.prog 10 [] m fun r m' => r = .bool true ∧ Kept [] m m' := by
  refine ans_ret mixed ok10 ?_
  simp -implicitDefEqProofs (disch := (first | omega | (simp only [lenB, lowB_len, numB_len, nsumB_len] <;> omega) | fail)) only [admQ, lenB, lowB_len, numB_len, nsumB_len, aFill, AK.cls, implies_true, ↓reduceIte, reduceCtorEq, if_true, if_false, Nat.reduceAdd, Nat.reduceEqDiff, Nat.reduceMod, Nat.reduceLT, Nat.reduceLeDiff, Nat.reduceSub, Nat.reduceMul, Nat.reduceBEq, Int.reduceAdd, Int.reduceSub, Int.reduceMul, Int.reduceNeg, Int.reduceLT, Int.reduceLE, Int.reduceToNat, Int.reduceEq, Int.reduceBEq, c10, r10]
  have hcr : Ans Try.prog 29 [] m fun r m' => ∃ x W, r = .iface 25 (.ptr x 0) ∧ Kept [] m m' ∧ Nm m' x W [] [] ∧ ∀ b ∈ W, m.length ≤ b := by
    refine ans_ret mixed ok29 ?_
    simp -implicitDefEqProofs (disch := (first | omega | (simp only [lenB, lowB_len, numB_len, nsumB_len] <;> omega) | fail)) only [admQ, lenB, lowB_len, numB_len, nsumB_len, aFill, AK.cls, implies_true, ↓reduceIte, reduceCtorEq, if_true, if_false, Nat.reduceAdd, Nat.reduceEqDiff, Nat.reduceMod, Nat.reduceLT, Nat.reduceLeDiff, Nat.reduceSub, Nat.reduceMul, Nat.reduceBEq, Int.reduceAdd, Int.reduceSub, Int.reduceMul, Int.reduceNeg, Int.reduceLT, Int.reduceLE, Int.reduceToNat, Int.reduceEq, Int.reduceBEq, c29, r29]
    refine (ans_nnew _).mono ?_
    rintro _ m1 ⟨x, W, rfl, h⟩
    simp -implicitDefEqProofs (disch := (first | omega | (simp only [lenB, lowB_len, numB_len, nsumB_len] <;> omega) | fail)) only [admQ, lenB, lowB_len, numB_len, nsumB_len, aFill, AK.cls, implies_true, ↓reduceIte, reduceCtorEq, if_true, if_false, Nat.reduceAdd, Nat.reduceEqDiff, Nat.reduceMod, Nat.reduceLT, Nat.reduceLeDiff, Nat.reduceSub, Nat.reduceMul, Nat.reduceBEq, Int.reduceAdd, Int.reduceSub, Int.reduceMul, Int.reduceNeg, Int.reduceLT, Int.reduceLE, Int.reduceToNat, Int.reduceEq, Int.reduceBEq]
    exact ⟨x, W, rfl, h⟩
  refine hcr.mono ?_
  rintro _ m1 ⟨x, W, rfl, k1, hN, hW⟩
  simp -implicitDefEqProofs (disch := (first | omega | (simp only [lenB, lowB_len, numB_len, nsumB_len] <;> omega) | fail)) only [admQ, lenB, lowB_len, numB_len, nsumB_len, aFill, AK.cls, implies_true, ↓reduceIte, reduceCtorEq, if_true, if_false, Nat.reduceAdd, Nat.reduceEqDiff, Nat.reduceMod, Nat.reduceLT, Nat.reduceLeDiff, Nat.reduceSub, Nat.reduceMul, Nat.reduceBEq, Int.reduceAdd, Int.reduceSub, Int.reduceMul, Int.reduceNeg, Int.reduceLT, Int.reduceLE, Int.reduceToNat, Int.reduceEq, Int.reduceBEq, opW_invoke _ methn_seal, opDW_invoke _ methn_seal, opW_invoke _ methn_open, opDW_invoke _ methn_open, opW_invoke _ methn_sum, opDW_invoke _ methn_sum]
  have hml := k1.len
  have rH : RdB (m1 ++ [Blk.row [.int .u8 7] false, Blk.row [.int .u8 8, .int .u8 9] false]) (.sl m1.length 0 1 1 0) [7#8] := RdB.row (l := [7#8]) 1 0 (by rw [rowOf_app_at0]; rfl) (by simp)
  have rP : RdB (m1 ++ [Blk.row [.int .u8 7] false, Blk.row [.int .u8 8, .int .u8 9] false]) (.sl (m1.length + 1) 0 2 2 0) [8#8, 9#8] := RdB.row (l := [8#8, 9#8]) 2 0 (by rw [rowOf_app_at]; rfl) (by simp)
  have k2 := Kept.app [] m1 [Blk.row [.int .u8 7] false, Blk.row [.int .u8 8, .int .u8 9] false]
  have hC : (m1 ++ [Blk.row [.int .u8 7] false, Blk.row [.int .u8 8, .int .u8 9] false]).length = m1.length + 2 := by simp
  generalize m1 ++ [Blk.row [.int .u8 7] false, Blk.row [.int .u8 8, .int .u8 9] false] = C at *
  have hWC : ∀ b ∈ W, b < m1.length := hN.lt
  refine (ans_nseal (e := 1) (n := 2) (hN.kept0 k2) rH rP (by simp only [blkOf, List.mem_singleton]; rintro b rfl hb; have := hWC _ hb; omega) (by simp) (by simp)).mono ?_
  rintro s m3 ⟨h3, -⟩
  obtain ⟨W3, k3, hN3, hW3, g3, d3⟩ := h3 ⟨by decide, by decide⟩
  have K3 : Kept [] m m3 := (k1.trans k2).upon k3 hW
  have hsd : addN ((1 : Int), (2 : Int), [7#8], [8#8, 9#8]) ([] : List Sd) = [(1, 2, [7#8], [8#8, 9#8])] := by simp [addN]
  rw [hsd] at hN3
  have hSl : (nsealB [] (1, 2, [7#8], [8#8, 9#8])).length = 34 := nsealB_len _ _
  have hop := nopenP_seal (S := []) (e := 1) (n := 2) (head := [7#8]) (plain := [8#8, 9#8]) [(1, 2, [7#8], [8#8, 9#8])] rfl
  have hno : ¬ nopenP [(1, 2, [7#8], [8#8, 9#8])] 1 3 [7#8] (nsealB [] (1, 2, [7#8], [8#8, 9#8])) := by
    rintro ⟨_, i, hi, _⟩
    have h0 := fidx_some hi
    have hil := lt_of_get h0
    simp only [List.length_singleton] at hil
    obtain rfl : i = 0 := by omega
    simp at h0
  generalize hSB : nsealB [] (1, 2, [7#8], [8#8, 9#8]) = SB at *
  clear hSB
  simp -implicitDefEqProofs (disch := (first | omega | (simp only [lenB, lowB_len, numB_len, nsumB_len] <;> omega) | fail)) only [admQ, lenB, lowB_len, numB_len, nsumB_len, aFill, AK.cls, implies_true, ↓reduceIte, reduceCtorEq, if_true, if_false, Nat.reduceAdd, Nat.reduceEqDiff, Nat.reduceMod, Nat.reduceLT, Nat.reduceLeDiff, Nat.reduceSub, Nat.reduceMul, Nat.reduceBEq, Int.reduceAdd, Int.reduceSub, Int.reduceMul, Int.reduceNeg, Int.reduceLT, Int.reduceLE, Int.reduceToNat, Int.reduceEq, Int.reduceBEq, opW_invoke _ methn_seal, opDW_invoke _ methn_seal, opW_invoke _ methn_open, opDW_invoke _ methn_open, opW_invoke _ methn_sum, opDW_invoke _ methn_sum]
  have r7 : RdB (m3 ++ [Blk.row [.int .u8 7] false]) (.sl m3.length 0 1 1 0) [7#8] := RdB.row (l := [7#8]) 1 0 (by rw [rowOf_app_at0]; rfl) (by simp)
  refine (ans_nopen (e := 1) (n := 2) (hN3.kept0 (.app [] m3 _)) r7 (g3.rd.app _) (by simp) ⟨by simp, by omega⟩).mono ?_
  rintro _ m4 ⟨k4, h4, -⟩
  obtain ⟨v, rfl, g4, d4⟩ := h4 hop.1
  rw [hop.2] at g4
  have K34 := (Kept.app [] m3 [Blk.row [.int .u8 7] false]).trans k4
  simp -implicitDefEqProofs (disch := (first | omega | (simp only [lenB, lowB_len, numB_len, nsumB_len] <;> omega) | fail)) only [admQ, lenB, lowB_len, numB_len, nsumB_len, aFill, AK.cls, implies_true, ↓reduceIte, reduceCtorEq, if_true, if_false, Nat.reduceAdd, Nat.reduceEqDiff, Nat.reduceMod, Nat.reduceLT, Nat.reduceLeDiff, Nat.reduceSub, Nat.reduceMul, Nat.reduceBEq, Int.reduceAdd, Int.reduceSub, Int.reduceMul, Int.reduceNeg, Int.reduceLT, Int.reduceLE, Int.reduceToNat, Int.reduceEq, Int.reduceBEq, opW_invoke _ methn_seal, opDW_invoke _ methn_seal, opW_invoke _ methn_open, opDW_invoke _ methn_open, opW_invoke _ methn_sum, opDW_invoke _ methn_sum]
  have r8 : RdB (m4 ++ [Blk.row [.int .u8 7] false]) (.sl m4.length 0 1 1 0) [7#8] := RdB.row (l := [7#8]) 1 0 (by rw [rowOf_app_at0]; rfl) (by simp)
  have K45 := K34.trans (.app [] m4 [Blk.row [.int .u8 7] false])
  refine (ans_nopen (e := 1) (n := 3) (hN3.kept0 K45) r8 (g3.rd.kept0 K45) (by simp) ⟨by simp, by omega⟩).mono ?_
  rintro _ m5 ⟨k5, -, h5⟩
  obtain rfl := h5 hno
  have K35 := K45.trans k5
  have hq : ((SB.length : Int) == 34) = true := by rw [hSl]; rfl
  have hg5 := g4.kept0 ((Kept.app [] m4 [Blk.row [.int .u8 7] false]).trans k5)
  simp -implicitDefEqProofs (disch := (first | omega | (simp only [lenB, lowB_len, numB_len, nsumB_len] <;> omega) | fail)) only [admQ, lenB, lowB_len, numB_len, nsumB_len, aFill, AK.cls, implies_true, ↓reduceIte, reduceCtorEq, if_true, if_false, Nat.reduceAdd, Nat.reduceEqDiff, Nat.reduceMod, Nat.reduceLT, Nat.reduceLeDiff, Nat.reduceSub, Nat.reduceMul, Nat.reduceBEq, Int.reduceAdd, Int.reduceSub, Int.reduceMul, Int.reduceNeg, Int.reduceLT, Int.reduceLE, Int.reduceToNat, Int.reduceEq, Int.reduceBEq, opW_invoke _ methn_seal, opDW_invoke _ methn_seal, opW_invoke _ methn_open, opDW_invoke _ methn_open, opW_invoke _ methn_sum, opDW_invoke _ methn_sum, (g3.kept0 K35).len, hq, Bool.not_false]
  have r9 : RdB (m5 ++ [Blk.row [.int .u8 8, .int .u8 9] false]) (.sl m5.length 0 2 2 0) [8#8, 9#8] := RdB.row (l := [8#8, 9#8]) 2 0 (by rw [rowOf_app_at0]; rfl) (by simp)
  refine (ans_samebytes (hg5.rd.app _) r9 (by simp)).mono ?_
  rintro _ M ⟨rfl, hM⟩
  have K36 : Kept [] m3 M := by rw [hM]; exact K35.more_app _
  clear hM
  simp -implicitDefEqProofs (disch := (first | omega | (simp only [lenB, lowB_len, numB_len, nsumB_len] <;> omega) | fail)) only [admQ, lenB, lowB_len, numB_len, nsumB_len, aFill, AK.cls, implies_true, ↓reduceIte, reduceCtorEq, if_true, if_false, Nat.reduceAdd, Nat.reduceEqDiff, Nat.reduceMod, Nat.reduceLT, Nat.reduceLeDiff, Nat.reduceSub, Nat.reduceMul, Nat.reduceBEq, Int.reduceAdd, Int.reduceSub, Int.reduceMul, Int.reduceNeg, Int.reduceLT, Int.reduceLE, Int.reduceToNat, Int.reduceEq, Int.reduceBEq, opW_invoke _ methn_seal, opDW_invoke _ methn_seal, opW_invoke _ methn_open, opDW_invoke _ methn_open, opW_invoke _ methn_sum, opDW_invoke _ methn_sum, beq_self_eq_true]
  have hN6 := hN3.kept0 K36
  refine (ans_nsum hN6 (.nils _) (by simp [blkOf]) (by simp) (by simp)).mono ?_
  rintro _ m7 ⟨rfl, k7, hN7⟩
  simp -implicitDefEqProofs (disch := (first | omega | (simp only [lenB, lowB_len, numB_len, nsumB_len] <;> omega) | fail)) only [admQ, lenB, lowB_len, numB_len, nsumB_len, aFill, AK.cls, implies_true, ↓reduceIte, reduceCtorEq, if_true, if_false, Nat.reduceAdd, Nat.reduceEqDiff, Nat.reduceMod, Nat.reduceLT, Nat.reduceLeDiff, Nat.reduceSub, Nat.reduceMul, Nat.reduceBEq, Int.reduceAdd, Int.reduceSub, Int.reduceMul, Int.reduceNeg, Int.reduceLT, Int.reduceLE, Int.reduceToNat, Int.reduceEq, Int.reduceBEq, opW_invoke _ methn_seal, opDW_invoke _ methn_seal, opW_invoke _ methn_open, opDW_invoke _ methn_open, opW_invoke _ methn_sum, opDW_invoke _ methn_sum]
  refine (ans_nsum hN7 (.nils _) (by simp [blkOf]) (by decide) (by simp)).mono ?_
  rintro _ m8 ⟨rfl, k8, hN8⟩
  have e1 : (nsumB ([] : List (List B8)) [] == nsumB (addN [] []) []) = true := by decide
  simp -implicitDefEqProofs (disch := (first | omega | (simp only [lenB, lowB_len, numB_len, nsumB_len] <;> omega) | fail)) only [admQ, lenB, lowB_len, numB_len, nsumB_len, aFill, AK.cls, implies_true, ↓reduceIte, reduceCtorEq, if_true, if_false, Nat.reduceAdd, Nat.reduceEqDiff, Nat.reduceMod, Nat.reduceLT, Nat.reduceLeDiff, Nat.reduceSub, Nat.reduceMul, Nat.reduceBEq, Int.reduceAdd, Int.reduceSub, Int.reduceMul, Int.reduceNeg, Int.reduceLT, Int.reduceLE, Int.reduceToNat, Int.reduceEq, Int.reduceBEq, opW_invoke _ methn_seal, opDW_invoke _ methn_seal, opW_invoke _ methn_open, opDW_invoke _ methn_open, opW_invoke _ methn_sum, opDW_invoke _ methn_sum, aEq_bys _ _ (nsumB_len [] []) (nsumB_len (addN [] []) []), e1]
  refine (ans_nsum hN8 (.nils _) (by simp [blkOf]) (by decide) (by simp)).mono ?_
  rintro _ m9 ⟨rfl, k9, hN9⟩
  simp -implicitDefEqProofs (disch := (first | omega | (simp only [lenB, lowB_len, numB_len, nsumB_len] <;> omega) | fail)) only [admQ, lenB, lowB_len, numB_len, nsumB_len, aFill, AK.cls, implies_true, ↓reduceIte, reduceCtorEq, if_true, if_false, Nat.reduceAdd, Nat.reduceEqDiff, Nat.reduceMod, Nat.reduceLT, Nat.reduceLeDiff, Nat.reduceSub, Nat.reduceMul, Nat.reduceBEq, Int.reduceAdd, Int.reduceSub, Int.reduceMul, Int.reduceNeg, Int.reduceLT, Int.reduceLE, Int.reduceToNat, Int.reduceEq, Int.reduceBEq, opW_invoke _ methn_seal, opDW_invoke _ methn_seal, opW_invoke _ methn_open, opDW_invoke _ methn_open, opW_invoke _ methn_sum, opDW_invoke _ methn_sum]
  have r10 : RdB (m9 ++ [Blk.row [.int .u8 5] false]) (.sl m9.length 0 1 1 0) [5#8] := RdB.row (l := [5#8]) 1 0 (by rw [rowOf_app_at0]; rfl) (by simp)
  refine (ans_nsum (hN9.kept0 (.app [] m9 _)) r10 (by simp only [blkOf, List.mem_singleton]; rintro b rfl hb; have := hN9.lt _ hb; omega) (by decide) (by simp)).mono ?_
  rintro _ m10 ⟨rfl, k10, hN10⟩
  have e2 : (nsumB (addN [] (addN ([] : List B8) [])) [] == nsumB (addN [] (addN [] (addN [] []))) [5#8]) = false := by decide
  simp -implicitDefEqProofs (disch := (first | omega | (simp only [lenB, lowB_len, numB_len, nsumB_len] <;> omega) | fail)) only [admQ, lenB, lowB_len, numB_len, nsumB_len, aFill, AK.cls, implies_true, ↓reduceIte, reduceCtorEq, if_true, if_false, Nat.reduceAdd, Nat.reduceEqDiff, Nat.reduceMod, Nat.reduceLT, Nat.reduceLeDiff, Nat.reduceSub, Nat.reduceMul, Nat.reduceBEq, Int.reduceAdd, Int.reduceSub, Int.reduceMul, Int.reduceNeg, Int.reduceLT, Int.reduceLE, Int.reduceToNat, Int.reduceEq, Int.reduceBEq, opW_invoke _ methn_seal, opDW_invoke _ methn_seal, opW_invoke _ methn_open, opDW_invoke _ methn_open, opW_invoke _ methn_sum, opDW_invoke _ methn_sum, aEq_bys _ _ (nsumB_len _ _) (nsumB_len _ _), e2, Bool.not_false]
  have hWW : ∀ q ∈ W3, m.length ≤ q := fun q hq => (hW3 q hq).elim (hW q) (fun h => by omega)
  exact (((((K3.trans K36).upon k7 hWW).upon k8 hWW).upon k9 hWW).more_app _).upon k10 hWW
end Go.Proofs.Ytodkgembfcddbaa
end
section
/- Names: sums are apart just if the texts are. -/
namespace Go.Proofs.Ytodkgembfcddbaa
open Go Go.Adm
set_option linter.unusedSimpArgs false
set_option linter.unusedVariables false
set_option maxRecDepth 100000
theorem numB_inj {a b : Nat} (ha : a < 65536) (hb : b < 65536) (h : numB a = numB b) : a = b := by
  have h7 := congrArg (fun l => (gb l 7).toNat) h
  have h6 := congrArg (fun l => (gb l 6).toNat) h
  have e : ∀ v i, i < 8 → gb (numB v) i = byV v (7 - i) := fun v i hi => by rw [numB, lowB, gb_tab _ hi]
  simp only [e _ 7 (by omega), e _ 6 (by omega), byV, BitVec.toNat_ofNat] at h7 h6
  simp at h7 h6
  rw [Nat.shiftRight_eq_div_pow, Nat.shiftRight_eq_div_pow] at h6
  omega
def sumN (k : Nat) : List B8 := List.replicate 24 1#8 ++ numB k
theorem sumN_len (k : Nat) : (sumN k).length = 32 := by simp [sumN, numB_len]
theorem sumN_inj {a b : Nat} (ha : a < 65536) (hb : b < 65536) (h : sumN a = sumN b) : a = b := numB_inj ha hb (List.append_cancel_left h)
theorem nsumB_N (T : List (List B8)) (b : List B8) : nsumB T b = sumN (posN b T) := rfl
theorem fidx_add {α : Type} [DecidableEq α] {a b : α} {T : List α} {i : Nat} (h : fidx a T = some i) : fidx a (addN b T) = some i := by
  unfold addN; split
  · exact h
  · exact fidx_append h
theorem fidx_addself {α : Type} [DecidableEq α] (a : α) (T : List α) : fidx a (addN a T) = some (posN a T - 1) := by
  unfold addN posN
  by_cases h : a ∈ T
  · rw [if_pos h]
    cases hf : fidx a T with
    | none => exact absurd h (fidx_none.mp hf)
    | some i => simp
  · rw [if_neg h, fidx_new h, fidx_none.mpr h]; simp
theorem addN_len {α : Type} [DecidableEq α] (a : α) (T : List α) : (addN a T).length ≤ T.length + 1 := by
  unfold addN; split <;> simp
theorem posN_le {α : Type} [DecidableEq α] (a : α) (T : List α) : 1 ≤ posN a T ∧ posN a T ≤ T.length + 1 := by
  unfold posN
  cases hf : fidx a T with
  | none => simp
  | some i => have := fidx_lt hf; simp; omega
theorem addN_in {α : Type} [DecidableEq α] {a : α} {T : List α} {n : Nat} (h : fidx a T = some n) : addN a T = T ∧ posN a T = n + 1 :=
  ⟨if_pos (List.mem_of_getElem? (fidx_some h)), by simp [posN, h]⟩
def sumC (n : Nat) : List AV := bys (sumN (n + 1))
theorem sumC_len (n : Nat) : (sumC n).length = 32 := by simp [sumC, sumN_len]
/-- What is known while texts are summed. -/
structure ApJ (M : Mem) (L : List (List B8)) (x : Nat) (W : List Nat) (i : Nat) (v : AV) (ns : List Nat) (T : List (List B8)) (N : Mem) : Prop where
  le : i ≤ L.length
  kept : Kept [] M N
  nm : Nm N x W [] T
  tl : T.length ≤ i
  gr : GrA 32 0 N v (flatOf sumC ns)
  bl : ∀ b ∈ blkOf v, M.length ≤ b ∧ b ∉ W
  nl : ns.length = i
  at_ : ∀ (j n : Nat), ns[j]? = some n → ∃ a, L[j]? = some a ∧ fidx a T = some n
theorem ans_NamesApart {m : Mem} {y : AV} {L : List (List B8)} (hy : RdLs m y L) :
    Ans Try.prog 6 [y] m fun r m' => r = .bool true ∧ Kept [] m m' := by
  refine ans_ret mixed ok6 ?_
  simp -implicitDefEqProofs (disch := (first | omega | (simp only [lenB, lowB_len, numB_len, nsumB_len] <;> omega) | fail)) only [admQ, lenB, lowB_len, numB_len, nsumB_len, aFill, AK.cls, implies_true, ↓reduceIte, reduceCtorEq, if_true, if_false, Nat.reduceAdd, Nat.reduceEqDiff, Nat.reduceMod, Nat.reduceLT, Nat.reduceLeDiff, Nat.reduceSub, Nat.reduceMul, Nat.reduceBEq, Int.reduceAdd, Int.reduceSub, Int.reduceMul, Int.reduceNeg, Int.reduceLT, Int.reduceLE, Int.reduceToNat, Int.reduceEq, Int.reduceBEq, c6, r6]
  refine (ans_big hy 100 4096 (by omega) (by omega)).mono ?_
  rintro _ M ⟨c, rfl, hM, hc⟩
  subst hM
  cases c with
  | true =>
    simp -implicitDefEqProofs (disch := (first | omega | (simp only [lenB, lowB_len, numB_len, nsumB_len] <;> omega) | fail)) only [admQ, lenB, lowB_len, numB_len, nsumB_len, aFill, AK.cls, implies_true, ↓reduceIte, reduceCtorEq, if_true, if_false, Nat.reduceAdd, Nat.reduceEqDiff, Nat.reduceMod, Nat.reduceLT, Nat.reduceLeDiff, Nat.reduceSub, Nat.reduceMul, Nat.reduceBEq, Int.reduceAdd, Int.reduceSub, Int.reduceMul, Int.reduceNeg, Int.reduceLT, Int.reduceLE, Int.reduceToNat, Int.reduceEq, Int.reduceBEq]
    refine (ans_nworks _).mono ?_
    rintro _ m1 ⟨rfl, k1⟩
    simp -implicitDefEqProofs (disch := (first | omega | (simp only [lenB, lowB_len, numB_len, nsumB_len] <;> omega) | fail)) only [admQ, lenB, lowB_len, numB_len, nsumB_len, aFill, AK.cls, implies_true, ↓reduceIte, reduceCtorEq, if_true, if_false, Nat.reduceAdd, Nat.reduceEqDiff, Nat.reduceMod, Nat.reduceLT, Nat.reduceLeDiff, Nat.reduceSub, Nat.reduceMul, Nat.reduceBEq, Int.reduceAdd, Int.reduceSub, Int.reduceMul, Int.reduceNeg, Int.reduceLT, Int.reduceLE, Int.reduceToNat, Int.reduceEq, Int.reduceBEq]
    exact k1
  | false =>
    obtain ⟨hL, hl⟩ := hc rfl
    simp -implicitDefEqProofs (disch := (first | omega | (simp only [lenB, lowB_len, numB_len, nsumB_len] <;> omega) | fail)) only [admQ, lenB, lowB_len, numB_len, nsumB_len, aFill, AK.cls, implies_true, ↓reduceIte, reduceCtorEq, if_true, if_false, Nat.reduceAdd, Nat.reduceEqDiff, Nat.reduceMod, Nat.reduceLT, Nat.reduceLeDiff, Nat.reduceSub, Nat.reduceMul, Nat.reduceBEq, Int.reduceAdd, Int.reduceSub, Int.reduceMul, Int.reduceNeg, Int.reduceLT, Int.reduceLE, Int.reduceToNat, Int.reduceEq, Int.reduceBEq]
    refine (ans_nnew _).mono ?_
    rintro _ m1 ⟨x, W, rfl, k1, hN, hW⟩
    simp -implicitDefEqProofs (disch := (first | omega | (simp only [lenB, lowB_len, numB_len, nsumB_len] <;> omega) | fail)) only [admQ, lenB, lowB_len, numB_len, nsumB_len, aFill, AK.cls, implies_true, ↓reduceIte, reduceCtorEq, if_true, if_false, Nat.reduceAdd, Nat.reduceEqDiff, Nat.reduceMod, Nat.reduceLT, Nat.reduceLeDiff, Nat.reduceSub, Nat.reduceMul, Nat.reduceBEq, Int.reduceAdd, Int.reduceSub, Int.reduceMul, Int.reduceNeg, Int.reduceLT, Int.reduceLE, Int.reduceToNat, Int.reduceEq, Int.reduceBEq]
    refine LoopW.on (fun t : Nat × AV × List Nat × List (List B8) => [(0, y), (3, .ptr x 0), (4, t.2.1), (5, .int .i64 t.1)]) (fun t => L.length - t.1)
      (fun t N => ApJ M L x W t.1 t.2.1 t.2.2.1 t.2.2.2 N) ?_ (0, .nils, [], []) _ _ rfl ⟨Nat.zero_le _, k1, hN, by simp, .nils .., by simp [blkOf], rfl, fun j n h => by simp at h⟩
    rintro ⟨i, v, ns, T⟩ N X ⟨hi, kk, hN, hT, g, hv, hns, hj⟩ hX
    simp only at hi hN hT g hv hns hj
    by_cases hlt : i < L.length
    · have hlen := hy.len
      rcases hy with ⟨_, rfl⟩ | ⟨bl, cap, hs', rfl, hrow, hhl, hel⟩
      · simp at hlt
      obtain ⟨z, hz⟩ : ∃ z, hs'[i]? = some z := ⟨_, List.getElem?_eq_getElem (by omega)⟩
      obtain ⟨l, hll⟩ : ∃ l, L[i]? = some l := ⟨_, List.getElem?_eq_getElem hlt⟩
      have hzl := hel i z l hz hll
      have hll' := hl l (List.mem_of_getElem? hll)
      simp -implicitDefEqProofs (disch := (first | omega | (simp only [lenB, lowB_len, numB_len, nsumB_len] <;> omega) | fail)) only [admQ, lenB, lowB_len, numB_len, nsumB_len, aFill, AK.cls, implies_true, ↓reduceIte, reduceCtorEq, if_true, if_false, Nat.reduceAdd, Nat.reduceEqDiff, Nat.reduceMod, Nat.reduceLT, Nat.reduceLeDiff, Nat.reduceSub, Nat.reduceMul, Nat.reduceBEq, Int.reduceAdd, Int.reduceSub, Int.reduceMul, Int.reduceNeg, Int.reduceLT, Int.reduceLE, Int.reduceToNat, Int.reduceEq, Int.reduceBEq, kk.row hrow (by simp), hz]
      have hzW : ∀ q ∈ blkOf z, q ∉ W := fun q hq hw => by have := hzl.blk_lt q hq; have := hW q hw; omega
      refine (ans_nsum hN (hzl.kept0 kk) hzW (by omega) (by omega)).mono ?_
      rintro _ N2 ⟨rfl, k2, hN2⟩
      have hvW : ∀ b ∈ blkOf v, b ∉ W := fun b hb => (hv b hb).2
      have g2 := g.kept k2 hvW
      have K2 := kk.upon k2 hW
      rw [nsumB_N]
      have hpl := posN_le l T
      obtain ⟨p, hp⟩ : ∃ p, posN l T = p + 1 := ⟨posN l T - 1, by omega⟩
      rw [hp]
      have hsl := sumN_len (p + 1)
      simp -implicitDefEqProofs (disch := (first | omega | (simp only [lenB, lowB_len, numB_len, nsumB_len] <;> omega) | fail)) only [admQ, lenB, lowB_len, numB_len, nsumB_len, aFill, AK.cls, implies_true, ↓reduceIte, reduceCtorEq, if_true, if_false, Nat.reduceAdd, Nat.reduceEqDiff, Nat.reduceMod, Nat.reduceLT, Nat.reduceLeDiff, Nat.reduceSub, Nat.reduceMul, Nat.reduceBEq, Int.reduceAdd, Int.reduceSub, Int.reduceMul, Int.reduceNeg, Int.reduceLT, Int.reduceLE, Int.reduceToNat, Int.reduceEq, Int.reduceBEq]
      have hfl := flatOf_length sumC_len ns
      have hK2l := K2.len
      obtain ⟨v3, N3, e3, g3, k3, a3, n3⟩ := g2.push5 (bytes := 32) (by omega) (l := sumC p) (sumC_len p) (by rw [hfl]; omega) (Nat.zero_le _)
      refine someW_eq e3 ?_
      simp -implicitDefEqProofs (disch := (first | omega | (simp only [lenB, lowB_len, numB_len, nsumB_len] <;> omega) | fail)) only [admQ, lenB, lowB_len, numB_len, nsumB_len, aFill, AK.cls, implies_true, ↓reduceIte, reduceCtorEq, if_true, if_false, Nat.reduceAdd, Nat.reduceEqDiff, Nat.reduceMod, Nat.reduceLT, Nat.reduceLeDiff, Nat.reduceSub, Nat.reduceMul, Nat.reduceBEq, Int.reduceAdd, Int.reduceSub, Int.reduceMul, Int.reduceNeg, Int.reduceLT, Int.reduceLE, Int.reduceToNat, Int.reduceEq, Int.reduceBEq]
      refine hX (i + 1, v3, ns ++ [p], addN l T) _ _ rfl (by simp only; omega) ⟨by simp only; omega, ?_, hN2.kept k3 (fun b hb hb2 => hvW b hb2 hb), by have := addN_len l T; simp only; omega, ?_, fun b hb => ⟨by have := n3 b hb; omega, fun hw => ?_⟩, by simp [hns], fun j n hjn => ?_⟩
      · exact K2.upon k3 fun q hq => (hv q hq).1
      · simp only [flatOf, List.flatMap_append, List.flatMap_singleton]; exact g3
      · have := n3 b hb; have := hN2.lt b hw; omega
      · simp only at hjn
        by_cases hji : j < ns.length
        · rw [List.getElem?_append_left hji] at hjn
          obtain ⟨a, ha, hf⟩ := hj j n hjn
          exact ⟨a, ha, fidx_add hf⟩
        · rw [List.getElem?_append_right (by omega)] at hjn
          have hj0 : j = i := by have := lt_of_get hjn; simp at this; omega
          subst hj0
          rw [hns, Nat.sub_self] at hjn
          simp at hjn
          subst hjn
          exact ⟨l, hll, by have := fidx_addself l T; rw [hp] at this; exact this⟩
    · obtain rfl : i = L.length := by omega
      have hvW : ∀ b ∈ blkOf v, b ∉ W := fun b hb => (hv b hb).2
      simp -implicitDefEqProofs (disch := (first | omega | (simp only [lenB, lowB_len, numB_len, nsumB_len] <;> omega) | fail)) only [admQ, lenB, lowB_len, numB_len, nsumB_len, aFill, AK.cls, implies_true, ↓reduceIte, reduceCtorEq, if_true, if_false, Nat.reduceAdd, Nat.reduceEqDiff, Nat.reduceMod, Nat.reduceLT, Nat.reduceLeDiff, Nat.reduceSub, Nat.reduceMul, Nat.reduceBEq, Int.reduceAdd, Int.reduceSub, Int.reduceMul, Int.reduceNeg, Int.reduceLT, Int.reduceLE, Int.reduceToNat, Int.reduceEq, Int.reduceBEq, hy.len]
      clear hX X hlt hi
      have hfl := flatOf_length sumC_len ns
      have hget : ∀ i, i < L.length → ∃ n l, ns[i]? = some n ∧ L[i]? = some l ∧ fidx l T = some n ∧ n < 1000 ∧ List.take 32 (List.drop (i * 32) (flatOf sumC ns)) = bys (sumN (n + 1)) := fun i hi => by
        have h1 : ns[i]? = some (ns[i]'(by omega)) := List.getElem?_eq_getElem _
        obtain ⟨l, h2, h3⟩ := hj i _ h1
        have := fidx_lt h3
        exact ⟨_, l, h1, h2, h3, by omega, flatOf_get sumC_len ns i (by omega)⟩
      clear hj
      refine LoopW.on (fun i : Nat => [(0, y), (3, .ptr x 0), (4, v), (6, .int .i64 i)]) (fun i => L.length - i) (fun i N => i ≤ L.length ∧ Kept [] M N ∧ Nm N x W [] T ∧ GrA 32 0 N v (flatOf sumC ns)) ?_ 0 _ _ rfl ⟨by simp, kk, hN, g⟩
      clear kk hN g N
      rintro i N X ⟨hi, kk, hN, g⟩ hX
      by_cases hlt : i < L.length
      · obtain ⟨n, l, hn, hll, hfn, hnb, hgi⟩ := hget i hlt
        have hlen := hy.len
        obtain ⟨b, nn, rfl, hn0, hnn, hb, -⟩ := g.sl (by intro h0; have := congrArg List.length h0; rw [hfl] at this; simp at this; omega)
        rcases hy with ⟨_, rfl⟩ | ⟨bl, cap, hs', rfl, hrow, hhl, hel⟩
        · simp at hlt
        obtain rfl : nn = L.length := by omega
        obtain ⟨z, hz⟩ : ∃ z, hs'[i]? = some z := ⟨_, List.getElem?_eq_getElem (by omega)⟩
        have hzl := hel i z l hz hll
        have hll' := hl l (List.mem_of_getElem? hll)
        simp -implicitDefEqProofs (disch := (first | omega | (simp only [lenB, lowB_len, numB_len, nsumB_len] <;> omega) | fail)) only [admQ, lenB, lowB_len, numB_len, nsumB_len, aFill, AK.cls, implies_true, ↓reduceIte, reduceCtorEq, if_true, if_false, Nat.reduceAdd, Nat.reduceEqDiff, Nat.reduceMod, Nat.reduceLT, Nat.reduceLeDiff, Nat.reduceSub, Nat.reduceMul, Nat.reduceBEq, Int.reduceAdd, Int.reduceSub, Int.reduceMul, Int.reduceNeg, Int.reduceLT, Int.reduceLE, Int.reduceToNat, Int.reduceEq, Int.reduceBEq]
        refine LoopW.on (fun k : Nat => [(0, .sl bl 0 L.length cap 0), (3, .ptr x 0), (4, .sl b 0 L.length L.length 32), (6, .int .i64 i), (7, .int .i64 k)]) (fun k => L.length - k) (fun k N' => k ≤ L.length ∧ N' = N) ?_ 0 _ _ rfl ⟨by simp, rfl⟩
        rintro k _ Y ⟨hk, rfl⟩ hY
        have hrowN := kk.row hrow (by simp)
        by_cases hkt : k < L.length
        · obtain ⟨n2, l2, hn2, hll2, hfn2, hnb2, hgk⟩ := hget k hkt
          obtain ⟨z2, hz2⟩ : ∃ z, hs'[k]? = some z := ⟨_, List.getElem?_eq_getElem (by omega)⟩
          have hzl2 := hel k z2 l2 hz2 hll2
          have heq : (sumN (n + 1) == sumN (n2 + 1)) = (l == l2) := by
            rw [Bool.eq_iff_iff, beq_iff_eq, beq_iff_eq]
            constructor
            · intro h
              have := sumN_inj (by omega) (by omega) h
              obtain rfl : n = n2 := by omega
              have h1 := fidx_some hfn
              rw [fidx_some hfn2] at h1
              cases h1; rfl
            · rintro rfl
              rw [hfn] at hfn2; cases hfn2; rfl
          simp -implicitDefEqProofs (disch := (first | omega | (simp only [lenB, lowB_len, numB_len, nsumB_len] <;> omega) | fail)) only [admQ, lenB, lowB_len, numB_len, nsumB_len, aFill, AK.cls, implies_true, ↓reduceIte, reduceCtorEq, if_true, if_false, Nat.reduceAdd, Nat.reduceEqDiff, Nat.reduceMod, Nat.reduceLT, Nat.reduceLeDiff, Nat.reduceSub, Nat.reduceMul, Nat.reduceBEq, Int.reduceAdd, Int.reduceSub, Int.reduceMul, Int.reduceNeg, Int.reduceLT, Int.reduceLE, Int.reduceToNat, Int.reduceEq, Int.reduceBEq, rowOf_own hb, hgi, hgk, hrowN, hz, hz2, aEq_bys _ _ (sumN_len (n + 1)) (sumN_len (n2 + 1))]
          refine (ans_samebytes (hzl.kept0 kk) (hzl2.kept0 kk) (by omega)).mono ?_
          rintro _ M' ⟨rfl, hM'⟩
          subst hM'
          simp -implicitDefEqProofs (disch := (first | omega | (simp only [lenB, lowB_len, numB_len, nsumB_len] <;> omega) | fail)) only [admQ, lenB, lowB_len, numB_len, nsumB_len, aFill, AK.cls, implies_true, ↓reduceIte, reduceCtorEq, if_true, if_false, Nat.reduceAdd, Nat.reduceEqDiff, Nat.reduceMod, Nat.reduceLT, Nat.reduceLeDiff, Nat.reduceSub, Nat.reduceMul, Nat.reduceBEq, Int.reduceAdd, Int.reduceSub, Int.reduceMul, Int.reduceNeg, Int.reduceLT, Int.reduceLE, Int.reduceToNat, Int.reduceEq, Int.reduceBEq, rowOf_own hb, hgi, hgk, hrowN, hz, hz2, heq, beq_self_eq_true, Bool.not_true]
          exact hY (k + 1) _ _ rfl (by omega) ⟨by omega, rfl⟩
        · obtain rfl : k = L.length := by omega
          simp -implicitDefEqProofs (disch := (first | omega | (simp only [lenB, lowB_len, numB_len, nsumB_len] <;> omega) | fail)) only [admQ, lenB, lowB_len, numB_len, nsumB_len, aFill, AK.cls, implies_true, ↓reduceIte, reduceCtorEq, if_true, if_false, Nat.reduceAdd, Nat.reduceEqDiff, Nat.reduceMod, Nat.reduceLT, Nat.reduceLeDiff, Nat.reduceSub, Nat.reduceMul, Nat.reduceBEq, Int.reduceAdd, Int.reduceSub, Int.reduceMul, Int.reduceNeg, Int.reduceLT, Int.reduceLE, Int.reduceToNat, Int.reduceEq, Int.reduceBEq]
          have hzW : ∀ q ∈ blkOf z, q ∉ W := fun q hq hw => by have := hzl.blk_lt q hq; have := hW q hw; omega
          obtain ⟨had, hpo⟩ := addN_in hfn
          simp -implicitDefEqProofs (disch := (first | omega | (simp only [lenB, lowB_len, numB_len, nsumB_len] <;> omega) | fail)) only [admQ, lenB, lowB_len, numB_len, nsumB_len, aFill, AK.cls, implies_true, ↓reduceIte, reduceCtorEq, if_true, if_false, Nat.reduceAdd, Nat.reduceEqDiff, Nat.reduceMod, Nat.reduceLT, Nat.reduceLeDiff, Nat.reduceSub, Nat.reduceMul, Nat.reduceBEq, Int.reduceAdd, Int.reduceSub, Int.reduceMul, Int.reduceNeg, Int.reduceLT, Int.reduceLE, Int.reduceToNat, Int.reduceEq, Int.reduceBEq, hrowN, hz]
          refine (ans_nsum hN (hzl.kept0 kk) hzW (by omega) (by omega)).mono ?_
          rintro _ N2 ⟨rfl, k2, hN2⟩
          rw [had] at hN2
          have g2 := g.kept k2 hvW
          have K2 := kk.upon k2 hW
          have hb2 := k2.own hb (hvW b (by simp [blkOf]))
          rw [nsumB_N, hpo]
          simp -implicitDefEqProofs (disch := (first | omega | (simp only [lenB, lowB_len, numB_len, nsumB_len] <;> omega) | fail)) only [admQ, lenB, lowB_len, numB_len, nsumB_len, aFill, AK.cls, implies_true, ↓reduceIte, reduceCtorEq, if_true, if_false, Nat.reduceAdd, Nat.reduceEqDiff, Nat.reduceMod, Nat.reduceLT, Nat.reduceLeDiff, Nat.reduceSub, Nat.reduceMul, Nat.reduceBEq, Int.reduceAdd, Int.reduceSub, Int.reduceMul, Int.reduceNeg, Int.reduceLT, Int.reduceLE, Int.reduceToNat, Int.reduceEq, Int.reduceBEq, rowOf_own hb, rowOf_own hb2, hgi, K2.row hrow (by simp), hz, aEq_bys _ _ (sumN_len (n + 1)) (sumN_len (n + 1)), beq_self_eq_true, Bool.not_true]
          exact hX (i + 1) _ _ rfl (by omega) ⟨by omega, K2, hN2, g2⟩
      · obtain rfl : i = L.length := by omega
        simp -implicitDefEqProofs (disch := (first | omega | (simp only [lenB, lowB_len, numB_len, nsumB_len] <;> omega) | fail)) only [admQ, lenB, lowB_len, numB_len, nsumB_len, aFill, AK.cls, implies_true, ↓reduceIte, reduceCtorEq, if_true, if_false, Nat.reduceAdd, Nat.reduceEqDiff, Nat.reduceMod, Nat.reduceLT, Nat.reduceLeDiff, Nat.reduceSub, Nat.reduceMul, Nat.reduceBEq, Int.reduceAdd, Int.reduceSub, Int.reduceMul, Int.reduceNeg, Int.reduceLT, Int.reduceLE, Int.reduceToNat, Int.reduceEq, Int.reduceBEq, hy.len]
        refine (ans_nworks _).mono ?_
        rintro _ m1 ⟨rfl, k1⟩
        simp -implicitDefEqProofs (disch := (first | omega | (simp only [lenB, lowB_len, numB_len, nsumB_len] <;> omega) | fail)) only [admQ, lenB, lowB_len, numB_len, nsumB_len, aFill, AK.cls, implies_true, ↓reduceIte, reduceCtorEq, if_true, if_false, Nat.reduceAdd, Nat.reduceEqDiff, Nat.reduceMod, Nat.reduceLT, Nat.reduceLeDiff, Nat.reduceSub, Nat.reduceMul, Nat.reduceBEq, Int.reduceAdd, Int.reduceSub, Int.reduceMul, Int.reduceNeg, Int.reduceLT, Int.reduceLE, Int.reduceToNat, Int.reduceEq, Int.reduceBEq]
        exact kk.trans k1
end Go.Proofs.Ytodkgembfcddbaa
end
section
/- Names: what is sealed stays. -/
namespace Go.Proofs.Ytodkgembfcddbaa
open Go Go.Adm
set_option linter.unusedSimpArgs false
set_option linter.unusedVariables false
set_option maxRecDepth 100000
/-- What is remembered, and answered, behind a Seal. -/
def sealS2 (S : List Sd) (s : Sd) : List Sd := if mayP s then addN s S else S
def sealR (S : List Sd) (s : Sd) : List B8 := if mayP s then nsealB S s else []
theorem sealS2_len (S : List Sd) (s : Sd) : (sealS2 S s).length ≤ S.length + 1 := by
  unfold sealS2; split
  · exact addN_len s S
  · omega
theorem sealR_len (S : List Sd) (s : Sd) : (sealR S s).length ≤ s.2.2.2.length + 32 := by
  unfold sealR; split
  · rw [nsealB_len]; omega
  · simp
/-- Blocks that are none of a Names' own. -/
def Ap (B W : List Nat) : Prop := ∀ b ∈ B, b ∉ W
theorem Ap.new {B W W' : List Nat} {k : Nat} (h : Ap B W) (hW : ∀ b ∈ W', b ∈ W ∨ k ≤ b) (hB : ∀ b ∈ B, b < k) : Ap B W' := fun b hb hw => by
  rcases hW b hw with h1 | h1
  · exact h b hb h1
  · have := hB b hb; omega
theorem Ap.symm {B W : List Nat} (h : Ap B W) : Ap W B := fun b h1 h2 => h b h2 h1
theorem Ap.low {B W : List Nat} {k : Nat} (hB : ∀ b ∈ B, b < k) (hW : ∀ b ∈ W, k ≤ b) : Ap B W := fun b h1 h2 => by
  have := hB b h1
  have := hW b h2
  omega
theorem low_new {W W' : List Nat} {k k0 : Nat} (hW : ∀ b ∈ W', b ∈ W ∨ k ≤ b) (h : ∀ b ∈ W, k0 ≤ b) (hk : k0 ≤ k) : ∀ b ∈ W', k0 ≤ b := fun b hb => (hW b hb).elim (h b) (fun h => by omega)
theorem ans_nseal2 {m : Mem} {x : Nat} {W : List Nat} {S : List Sd} {T : List (List B8)} {hx bx : AV} {s : Sd} (hN : Nm m x W S T) (hh : RdB m hx s.2.2.1) (hb : RdB m bx s.2.2.2)
    (hd : Ap (blkOf bx) W) (hS : S.length ≤ 1000) (hl : s.2.2.1.length ≤ 100000 ∧ s.2.2.2.length ≤ 100000) :
    Ans Try.prog 16 [.ptr x 0, .int .i64 s.1, .int .i64 s.2.1, hx, bx] m fun r m' => ∃ W', Kept W m m' ∧ Nm m' x W' (sealS2 S s) T ∧ (∀ b ∈ W', b ∈ W ∨ m.length ≤ b) ∧ GrB m.length m' r (sealR S s) ∧ Ap (blkOf r) W' ∧ ∀ b ∈ blkOf r, m.length ≤ b ∧ b < m'.length := by
  obtain ⟨e, n, head, plain⟩ := s
  refine (ans_nseal hN hh hb hd hS hl).mono fun r m' ⟨h1, h2⟩ => ?_
  by_cases hp : mayP (e, n, head, plain)
  · obtain ⟨W', k, hN', hW, g, d⟩ := h1 hp
    refine ⟨W', k, by rw [sealS2, if_pos hp]; exact hN', hW, by rw [sealR, if_pos hp]; exact g, d, fun b hb => ⟨?_, g.lt b hb⟩⟩
    exact GrA.blk g (by intro h0; have := congrArg List.length h0; rw [List.length_map, nsealB_len] at this; simp at this) b hb
  · obtain ⟨rfl, k⟩ := h2 hp
    exact ⟨W, k.more (by simp), by rw [sealS2, if_neg hp]; exact hN.kept0 k, fun b hb => .inl hb, by rw [sealR, if_neg hp]; exact .nils .., by simp [Ap, blkOf], by simp [blkOf]⟩
theorem ans_nopen2 {m : Mem} {x : Nat} {W : List Nat} {S : List Sd} {T : List (List B8)} {hx bx : AV} {e n : Int} {head b : List B8} (hN : Nm m x W S T) (hh : RdB m hx head) (hb : RdB m bx b) (hS : S.length ≤ 1000) (hl : head.length ≤ 100000 ∧ b.length ≤ 100000) :
    Ans Try.prog 20 [.ptr x 0, .int .i64 e, .int .i64 n, hx, bx] m fun r m' => Kept [] m m' ∧ ∃ v o, r = .tup [v, .bool o] :=
  (ans_nopen hN hh hb hS hl).mono fun r m' ⟨h1, h2, h3⟩ => by
    by_cases hp : nopenP S e n head b
    · obtain ⟨v, rfl, _⟩ := h2 hp; exact ⟨h1, v, true, rfl⟩
    · exact ⟨h1, .nils, false, h3 hp⟩
structure StJ (M : Mem) (L : List Sd) (x y z : Nat) (i : Nat) (Wx Wy Wz : List Nat) (S : List Sd) (T : List (List B8)) (N : Mem) : Prop where
  le : i ≤ L.length
  kept : Kept [] M N
  nx : Nm N x Wx S []
  ny : Nm N y Wy S T
  nz : Nm N z Wz [] T
  sl : S.length ≤ i ∧ T.length ≤ i
  low : (∀ b ∈ Wx, M.length ≤ b) ∧ (∀ b ∈ Wy, M.length ≤ b) ∧ ∀ b ∈ Wz, M.length ≤ b
  ap : Ap Wx Wy ∧ Ap Wx Wz ∧ Ap Wy Wz
theorem ans_NamesStays {m : Mem} {l y : AV} {L : List Sd} {b : List B8} (hl : RdFs m l L) (hy : RdB m y b) :
    Ans Try.prog 8 [l, y] m fun r m' => r = .bool true ∧ Kept [] m m' := by
  refine ans_ret mixed ok8 ?_
  simp -implicitDefEqProofs (disch := (first | omega | (simp only [lenB, lowB_len, numB_len, nsumB_len] <;> omega) | fail)) only [admQ, lenB, lowB_len, numB_len, nsumB_len, aFill, AK.cls, implies_true, ↓reduceIte, reduceCtorEq, if_true, if_false, Nat.reduceAdd, Nat.reduceEqDiff, Nat.reduceMod, Nat.reduceLT, Nat.reduceLeDiff, Nat.reduceSub, Nat.reduceMul, Nat.reduceBEq, Int.reduceAdd, Int.reduceSub, Int.reduceMul, Int.reduceNeg, Int.reduceLT, Int.reduceLE, Int.reduceToNat, Int.reduceEq, Int.reduceBEq, c8, r8]
  refine (ans_ngreat hl).mono ?_
  rintro _ M ⟨c, rfl, hM, hc⟩
  subst hM
  cases c with
  | true =>
    simp -implicitDefEqProofs (disch := (first | omega | (simp only [lenB, lowB_len, numB_len, nsumB_len] <;> omega) | fail)) only [admQ, lenB, lowB_len, numB_len, nsumB_len, aFill, AK.cls, implies_true, ↓reduceIte, reduceCtorEq, if_true, if_false, Nat.reduceAdd, Nat.reduceEqDiff, Nat.reduceMod, Nat.reduceLT, Nat.reduceLeDiff, Nat.reduceSub, Nat.reduceMul, Nat.reduceBEq, Int.reduceAdd, Int.reduceSub, Int.reduceMul, Int.reduceNeg, Int.reduceLT, Int.reduceLE, Int.reduceToNat, Int.reduceEq, Int.reduceBEq]
    refine (ans_nworks _).mono ?_
    rintro _ m1 ⟨rfl, k1⟩
    simp -implicitDefEqProofs (disch := (first | omega | (simp only [lenB, lowB_len, numB_len, nsumB_len] <;> omega) | fail)) only [admQ, lenB, lowB_len, numB_len, nsumB_len, aFill, AK.cls, implies_true, ↓reduceIte, reduceCtorEq, if_true, if_false, Nat.reduceAdd, Nat.reduceEqDiff, Nat.reduceMod, Nat.reduceLT, Nat.reduceLeDiff, Nat.reduceSub, Nat.reduceMul, Nat.reduceBEq, Int.reduceAdd, Int.reduceSub, Int.reduceMul, Int.reduceNeg, Int.reduceLT, Int.reduceLE, Int.reduceToNat, Int.reduceEq, Int.reduceBEq]
    exact k1
  | false =>
    obtain ⟨hL, hle⟩ := hc rfl
    by_cases hbg : (b.length : Int) > 4096
    · simp -implicitDefEqProofs (disch := (first | omega | (simp only [lenB, lowB_len, numB_len, nsumB_len] <;> omega) | fail)) only [admQ, lenB, lowB_len, numB_len, nsumB_len, aFill, AK.cls, implies_true, ↓reduceIte, reduceCtorEq, if_true, if_false, Nat.reduceAdd, Nat.reduceEqDiff, Nat.reduceMod, Nat.reduceLT, Nat.reduceLeDiff, Nat.reduceSub, Nat.reduceMul, Nat.reduceBEq, Int.reduceAdd, Int.reduceSub, Int.reduceMul, Int.reduceNeg, Int.reduceLT, Int.reduceLE, Int.reduceToNat, Int.reduceEq, Int.reduceBEq, hy.len, dec_t hbg]
      refine (ans_nworks _).mono ?_
      rintro _ m1 ⟨rfl, k1⟩
      simp -implicitDefEqProofs (disch := (first | omega | (simp only [lenB, lowB_len, numB_len, nsumB_len] <;> omega) | fail)) only [admQ, lenB, lowB_len, numB_len, nsumB_len, aFill, AK.cls, implies_true, ↓reduceIte, reduceCtorEq, if_true, if_false, Nat.reduceAdd, Nat.reduceEqDiff, Nat.reduceMod, Nat.reduceLT, Nat.reduceLeDiff, Nat.reduceSub, Nat.reduceMul, Nat.reduceBEq, Int.reduceAdd, Int.reduceSub, Int.reduceMul, Int.reduceNeg, Int.reduceLT, Int.reduceLE, Int.reduceToNat, Int.reduceEq, Int.reduceBEq]
      exact k1
    simp -implicitDefEqProofs (disch := (first | omega | (simp only [lenB, lowB_len, numB_len, nsumB_len] <;> omega) | fail)) only [admQ, lenB, lowB_len, numB_len, nsumB_len, aFill, AK.cls, implies_true, ↓reduceIte, reduceCtorEq, if_true, if_false, Nat.reduceAdd, Nat.reduceEqDiff, Nat.reduceMod, Nat.reduceLT, Nat.reduceLeDiff, Nat.reduceSub, Nat.reduceMul, Nat.reduceBEq, Int.reduceAdd, Int.reduceSub, Int.reduceMul, Int.reduceNeg, Int.reduceLT, Int.reduceLE, Int.reduceToNat, Int.reduceEq, Int.reduceBEq, hy.len, dec_f hbg]
    refine (ans_nnew _).mono ?_
    rintro _ m1 ⟨px, Wx, rfl, k1, hN1, hW1⟩
    simp -implicitDefEqProofs (disch := (first | omega | (simp only [lenB, lowB_len, numB_len, nsumB_len] <;> omega) | fail)) only [admQ, lenB, lowB_len, numB_len, nsumB_len, aFill, AK.cls, implies_true, ↓reduceIte, reduceCtorEq, if_true, if_false, Nat.reduceAdd, Nat.reduceEqDiff, Nat.reduceMod, Nat.reduceLT, Nat.reduceLeDiff, Nat.reduceSub, Nat.reduceMul, Nat.reduceBEq, Int.reduceAdd, Int.reduceSub, Int.reduceMul, Int.reduceNeg, Int.reduceLT, Int.reduceLE, Int.reduceToNat, Int.reduceEq, Int.reduceBEq]
    refine (ans_nnew _).mono ?_
    rintro _ m2 ⟨py, Wy, rfl, k2, hN2, hW2⟩
    simp -implicitDefEqProofs (disch := (first | omega | (simp only [lenB, lowB_len, numB_len, nsumB_len] <;> omega) | fail)) only [admQ, lenB, lowB_len, numB_len, nsumB_len, aFill, AK.cls, implies_true, ↓reduceIte, reduceCtorEq, if_true, if_false, Nat.reduceAdd, Nat.reduceEqDiff, Nat.reduceMod, Nat.reduceLT, Nat.reduceLeDiff, Nat.reduceSub, Nat.reduceMul, Nat.reduceBEq, Int.reduceAdd, Int.reduceSub, Int.reduceMul, Int.reduceNeg, Int.reduceLT, Int.reduceLE, Int.reduceToNat, Int.reduceEq, Int.reduceBEq]
    refine (ans_nnew _).mono ?_
    rintro _ m3 ⟨pz, Wz, rfl, k3, hN3, hW3⟩
    simp -implicitDefEqProofs (disch := (first | omega | (simp only [lenB, lowB_len, numB_len, nsumB_len] <;> omega) | fail)) only [admQ, lenB, lowB_len, numB_len, nsumB_len, aFill, AK.cls, implies_true, ↓reduceIte, reduceCtorEq, if_true, if_false, Nat.reduceAdd, Nat.reduceEqDiff, Nat.reduceMod, Nat.reduceLT, Nat.reduceLeDiff, Nat.reduceSub, Nat.reduceMul, Nat.reduceBEq, Int.reduceAdd, Int.reduceSub, Int.reduceMul, Int.reduceNeg, Int.reduceLT, Int.reduceLE, Int.reduceToNat, Int.reduceEq, Int.reduceBEq]
    have hl1 := k1.len
    have hl2 := k2.len
    have hl3 := k3.len
    refine LoopW.on (fun t : Nat × List Nat × List Nat × List Nat × List Sd × List (List B8) => [(0, l), (1, y), (5, .ptr px 0), (6, .ptr py 0), (7, .ptr pz 0), (8, .int .i64 t.1)]) (fun t => L.length - t.1)
      (fun t N => StJ M L px py pz t.1 t.2.1 t.2.2.1 t.2.2.2.1 t.2.2.2.2.1 t.2.2.2.2.2 N) ?_ (0, Wx, Wy, Wz, [], []) _ _ rfl
      ⟨Nat.zero_le _, k1.trans (k2.trans k3), hN1.kept0 (k2.trans k3), hN2.kept0 k3, hN3, by simp, ⟨hW1, fun b hb => by have := hW2 b hb; omega, fun b hb => by have := hW3 b hb; omega⟩,
        .low (fun b hb => hN1.lt b hb) hW2, .low (fun b hb => by have := hN1.lt b hb; omega) hW3, .low (fun b hb => hN2.lt b hb) hW3⟩
    clear k1 k2 k3 hN1 hN2 hN3 hW1 hW2 hW3 hl1 hl2 hl3 Wx Wy Wz m1 m2 m3
    rintro ⟨i, Wx, Wy, Wz, S, T⟩ N X ⟨hi, kk, hx, hN, hz, ⟨hS, hT⟩, ⟨lx, ly, lz⟩, axy, axz, ayz⟩ hX
    simp only at hi hx hN hz hS hT lx ly lz axy axz ayz
    by_cases hlt : i < L.length
    · have hlen := hl.len
      rcases hl with ⟨_, rfl⟩ | ⟨bl, cap, xs, rfl, hrow, hhl, hel⟩
      · simp at hlt
      obtain ⟨s, hs⟩ : ∃ s, L[i]? = some s := ⟨_, List.getElem?_eq_getElem hlt⟩
      obtain ⟨h, p, a1, a2, a3, a4, a5, a6⟩ := hel i s hs
      obtain ⟨hh1, hp1⟩ := hle s (List.mem_of_getElem? hs)
      have r0 := kk.row hrow (by simp)
      have hpl : ∀ q ∈ blkOf p, q < M.length := a6.blk_lt
      simp -implicitDefEqProofs (disch := (first | omega | (simp only [lenB, lowB_len, numB_len, nsumB_len] <;> omega) | fail)) only [admQ, lenB, lowB_len, numB_len, nsumB_len, aFill, AK.cls, implies_true, ↓reduceIte, reduceCtorEq, if_true, if_false, Nat.reduceAdd, Nat.reduceEqDiff, Nat.reduceMod, Nat.reduceLT, Nat.reduceLeDiff, Nat.reduceSub, Nat.reduceMul, Nat.reduceBEq, Int.reduceAdd, Int.reduceSub, Int.reduceMul, Int.reduceNeg, Int.reduceLT, Int.reduceLE, Int.reduceToNat, Int.reduceEq, Int.reduceBEq, r0, a1, a2, a3, a4]
      refine (ans_nseal2 (s := s) hx (a5.kept0 kk) (a6.kept0 kk) (.low hpl lx) (by omega) ⟨by omega, by omega⟩).mono ?_
      rintro rs N1 ⟨Wx', k1, hx1, hW1, g1, d1, b1⟩
      have kk1 := kk.upon k1 lx
      have r1 := kk1.row hrow (by simp)
      have hy1 := hN.kept k1 axy.symm
      have hz1 := hz.kept k1 axz.symm
      have axy1 : Ap Wy Wx' := axy.symm.new hW1 hN.lt
      have axz1 : Ap Wz Wx' := axz.symm.new hW1 hz.lt
      have lx1 := low_new hW1 lx kk.len
      have asy : Ap (blkOf rs) Wy := fun q hq hw => by have := hN.lt q hw; have := b1 q hq; omega
      have asz : Ap (blkOf rs) Wz := fun q hq hw => by have := hz.lt q hw; have := b1 q hq; omega
      simp -implicitDefEqProofs (disch := (first | omega | (simp only [lenB, lowB_len, numB_len, nsumB_len] <;> omega) | fail)) only [admQ, lenB, lowB_len, numB_len, nsumB_len, aFill, AK.cls, implies_true, ↓reduceIte, reduceCtorEq, if_true, if_false, Nat.reduceAdd, Nat.reduceEqDiff, Nat.reduceMod, Nat.reduceLT, Nat.reduceLeDiff, Nat.reduceSub, Nat.reduceMul, Nat.reduceBEq, Int.reduceAdd, Int.reduceSub, Int.reduceMul, Int.reduceNeg, Int.reduceLT, Int.reduceLE, Int.reduceToNat, Int.reduceEq, Int.reduceBEq, r1, a1, a2, a3, a4]
      refine (ans_nsum hy1 (a6.kept0 kk1) (Ap.low hpl ly) (by omega) (by omega)).mono ?_
      rintro _ N2 ⟨rfl, k2, hy2⟩
      have kk2 := kk1.upon k2 ly
      have r2 := kk2.row hrow (by simp)
      simp -implicitDefEqProofs (disch := (first | omega | (simp only [lenB, lowB_len, numB_len, nsumB_len] <;> omega) | fail)) only [admQ, lenB, lowB_len, numB_len, nsumB_len, aFill, AK.cls, implies_true, ↓reduceIte, reduceCtorEq, if_true, if_false, Nat.reduceAdd, Nat.reduceEqDiff, Nat.reduceMod, Nat.reduceLT, Nat.reduceLeDiff, Nat.reduceSub, Nat.reduceMul, Nat.reduceBEq, Int.reduceAdd, Int.reduceSub, Int.reduceMul, Int.reduceNeg, Int.reduceLT, Int.reduceLE, Int.reduceToNat, Int.reduceEq, Int.reduceBEq, r2, a1, a2, a3, a4]
      refine (ans_nopen2 (e := s.1) (n := s.2.1) hy2 (a5.kept0 kk2) (hy.kept0 kk2) (by omega) ⟨by omega, by omega⟩).mono ?_
      rintro _ N3 ⟨k3, _, _, rfl⟩
      have kk3 := kk2.trans k3
      have r3 := kk3.row hrow (by simp)
      simp -implicitDefEqProofs (disch := (first | omega | (simp only [lenB, lowB_len, numB_len, nsumB_len] <;> omega) | fail)) only [admQ, lenB, lowB_len, numB_len, nsumB_len, aFill, AK.cls, implies_true, ↓reduceIte, reduceCtorEq, if_true, if_false, Nat.reduceAdd, Nat.reduceEqDiff, Nat.reduceMod, Nat.reduceLT, Nat.reduceLeDiff, Nat.reduceSub, Nat.reduceMul, Nat.reduceBEq, Int.reduceAdd, Int.reduceSub, Int.reduceMul, Int.reduceNeg, Int.reduceLT, Int.reduceLE, Int.reduceToNat, Int.reduceEq, Int.reduceBEq, r3, a1, a2, a3, a4]
      have hTl := addN_len s.2.2.2 T
      refine (ans_nseal2 (s := s) (hy2.kept0 k3) (a5.kept0 kk3) (a6.kept0 kk3) (.low hpl ly) (by omega) ⟨by omega, by omega⟩).mono ?_
      rintro rt N4 ⟨Wy', k4, hy4, hW4, g4, d4, b4⟩
      have kk4 := kk3.upon k4 ly
      have r4 := kk4.row hrow (by simp)
      have hSl := sealS2_len S s
      have hRl := sealR_len S s
      simp -implicitDefEqProofs (disch := (first | omega | (simp only [lenB, lowB_len, numB_len, nsumB_len] <;> omega) | fail)) only [admQ, lenB, lowB_len, numB_len, nsumB_len, aFill, AK.cls, implies_true, ↓reduceIte, reduceCtorEq, if_true, if_false, Nat.reduceAdd, Nat.reduceEqDiff, Nat.reduceMod, Nat.reduceLT, Nat.reduceLeDiff, Nat.reduceSub, Nat.reduceMul, Nat.reduceBEq, Int.reduceAdd, Int.reduceSub, Int.reduceMul, Int.reduceNeg, Int.reduceLT, Int.reduceLE, Int.reduceToNat, Int.reduceEq, Int.reduceBEq, r4, a1, a2, a3, a4]
      refine (ans_nopen2 (e := s.1) (n := s.2.1) hy4 (a5.kept0 kk4) g4.rd (by omega) ⟨by omega, by omega⟩).mono ?_
      rintro _ N5 ⟨k5, _, _, rfl⟩
      have kk5 := kk4.trans k5
      have r5 := kk5.row hrow (by simp)
      have hk1N := k1.len
      have hk2N := k2.len
      have hk3N := k3.len
      have hz5 : Nm N5 pz Wz [] T := (((hz1.kept k2 ayz.symm).kept0 k3).kept k4 ayz.symm).kept0 k5
      have hx5 : Nm N5 px Wx' (sealS2 S s) [] := (((hx1.kept k2 axy1.symm).kept0 k3).kept k4 axy1.symm).kept0 k5
      have g15 := (((g1.kept k2 asy).kept0 k3).kept k4 asy).kept0 k5
      have ayz4 : Ap Wz Wy' := ayz.symm.new hW4 (fun b hb => by have := hz.lt b hb; omega)
      have axy4 : Ap Wx' Wy' := axy1.symm.new hW4 (fun b hb => by have := hx1.lt b hb; omega)
      have ly4 := low_new hW4 ly kk3.len
      simp -implicitDefEqProofs (disch := (first | omega | (simp only [lenB, lowB_len, numB_len, nsumB_len] <;> omega) | fail)) only [admQ, lenB, lowB_len, numB_len, nsumB_len, aFill, AK.cls, implies_true, ↓reduceIte, reduceCtorEq, if_true, if_false, Nat.reduceAdd, Nat.reduceEqDiff, Nat.reduceMod, Nat.reduceLT, Nat.reduceLeDiff, Nat.reduceSub, Nat.reduceMul, Nat.reduceBEq, Int.reduceAdd, Int.reduceSub, Int.reduceMul, Int.reduceNeg, Int.reduceLT, Int.reduceLE, Int.reduceToNat, Int.reduceEq, Int.reduceBEq, r5, a1, a2, a3, a4]
      refine (ans_samebytes g15.rd (g4.kept0 k5).rd (by omega)).mono ?_
      rintro _ N6 ⟨rfl, hM⟩
      subst hM
      simp -implicitDefEqProofs (disch := (first | omega | (simp only [lenB, lowB_len, numB_len, nsumB_len] <;> omega) | fail)) only [admQ, lenB, lowB_len, numB_len, nsumB_len, aFill, AK.cls, implies_true, ↓reduceIte, reduceCtorEq, if_true, if_false, Nat.reduceAdd, Nat.reduceEqDiff, Nat.reduceMod, Nat.reduceLT, Nat.reduceLeDiff, Nat.reduceSub, Nat.reduceMul, Nat.reduceBEq, Int.reduceAdd, Int.reduceSub, Int.reduceMul, Int.reduceNeg, Int.reduceLT, Int.reduceLE, Int.reduceToNat, Int.reduceEq, Int.reduceBEq, r5, a1, a2, a3, a4, beq_self_eq_true, Bool.not_true]
      refine (ans_nsum hz5 (a6.kept0 kk5) (Ap.low hpl lz) (by omega) (by omega)).mono ?_
      rintro _ N7 ⟨rfl, k7, hz7⟩
      have kk7 := kk5.upon k7 lz
      have r7 := kk7.row hrow (by simp)
      have hy7 := (hy4.kept0 k5).kept k7 ayz4.symm
      simp -implicitDefEqProofs (disch := (first | omega | (simp only [lenB, lowB_len, numB_len, nsumB_len] <;> omega) | fail)) only [admQ, lenB, lowB_len, numB_len, nsumB_len, aFill, AK.cls, implies_true, ↓reduceIte, reduceCtorEq, if_true, if_false, Nat.reduceAdd, Nat.reduceEqDiff, Nat.reduceMod, Nat.reduceLT, Nat.reduceLeDiff, Nat.reduceSub, Nat.reduceMul, Nat.reduceBEq, Int.reduceAdd, Int.reduceSub, Int.reduceMul, Int.reduceNeg, Int.reduceLT, Int.reduceLE, Int.reduceToNat, Int.reduceEq, Int.reduceBEq, r5, r7, a1, a2, a3, a4, beq_self_eq_true, Bool.not_true]
      refine (ans_nsum hy7 (a6.kept0 kk7) (Ap.low hpl ly4) (by omega) (by omega)).mono ?_
      rintro _ N8 ⟨rfl, k8, hy8⟩
      have hpn := addN_in (fidx_addself s.2.2.2 T)
      have hpos := posN_le s.2.2.2 T
      have hpp : posN s.2.2.2 (addN s.2.2.2 T) = posN s.2.2.2 T := by rw [hpn.2]; omega
      rw [hpn.1] at hy8
      have hsum : (nsumB T s.2.2.2 == nsumB (addN s.2.2.2 T) s.2.2.2) = true := by rw [nsumB_N, nsumB_N, hpp]; exact beq_self_eq_true _
      have kk8 := kk7.upon k8 ly4
      have r8 := kk8.row hrow (by simp)
      simp -implicitDefEqProofs (disch := (first | omega | (simp only [lenB, lowB_len, numB_len, nsumB_len] <;> omega) | fail)) only [admQ, lenB, lowB_len, numB_len, nsumB_len, aFill, AK.cls, implies_true, ↓reduceIte, reduceCtorEq, if_true, if_false, Nat.reduceAdd, Nat.reduceEqDiff, Nat.reduceMod, Nat.reduceLT, Nat.reduceLeDiff, Nat.reduceSub, Nat.reduceMul, Nat.reduceBEq, Int.reduceAdd, Int.reduceSub, Int.reduceMul, Int.reduceNeg, Int.reduceLT, Int.reduceLE, Int.reduceToNat, Int.reduceEq, Int.reduceBEq, r5, r7, r8, a1, a2, a3, a4, aEq_bys _ _ (nsumB_len T s.2.2.2) (nsumB_len (addN s.2.2.2 T) s.2.2.2), hsum, Bool.not_true]
      exact hX (i + 1, Wx', Wy', Wz, sealS2 S s, addN s.2.2.2 T) _ _ rfl (by simp only; omega) ⟨by simp only; omega, kk8, (hx5.kept k7 (by have := axz1; exact axz1.symm)).kept k8 axy4, hy8, hz7.kept k8 ayz4, ⟨by simp only; omega, by simp only; omega⟩, ⟨lx1, ly4, lz⟩, axy4, axz1.symm, ayz4.symm⟩
    · obtain rfl : i = L.length := by omega
      simp -implicitDefEqProofs (disch := (first | omega | (simp only [lenB, lowB_len, numB_len, nsumB_len] <;> omega) | fail)) only [admQ, lenB, lowB_len, numB_len, nsumB_len, aFill, AK.cls, implies_true, ↓reduceIte, reduceCtorEq, if_true, if_false, Nat.reduceAdd, Nat.reduceEqDiff, Nat.reduceMod, Nat.reduceLT, Nat.reduceLeDiff, Nat.reduceSub, Nat.reduceMul, Nat.reduceBEq, Int.reduceAdd, Int.reduceSub, Int.reduceMul, Int.reduceNeg, Int.reduceLT, Int.reduceLE, Int.reduceToNat, Int.reduceEq, Int.reduceBEq, hl.len]
      refine (ans_nworks _).mono ?_
      rintro _ m1 ⟨rfl, k1⟩
      simp -implicitDefEqProofs (disch := (first | omega | (simp only [lenB, lowB_len, numB_len, nsumB_len] <;> omega) | fail)) only [admQ, lenB, lowB_len, numB_len, nsumB_len, aFill, AK.cls, implies_true, ↓reduceIte, reduceCtorEq, if_true, if_false, Nat.reduceAdd, Nat.reduceEqDiff, Nat.reduceMod, Nat.reduceLT, Nat.reduceLeDiff, Nat.reduceSub, Nat.reduceMul, Nat.reduceBEq, Int.reduceAdd, Int.reduceSub, Int.reduceMul, Int.reduceNeg, Int.reduceLT, Int.reduceLE, Int.reduceToNat, Int.reduceEq, Int.reduceBEq]
      exact kk.trans k1
end Go.Proofs.Ytodkgembfcddbaa
end
section
/- Names: nothing is forged. -/
namespace Go.Proofs.Ytodkgembfcddbaa
open Go Go.Adm
set_option linter.unusedSimpArgs false
set_option linter.unusedVariables false
set_option maxRecDepth 100000
/-- What was sealed, in order: what is remembered behind each. -/
def runS (L : List Sd) : Nat → List Sd
  | 0 => []
  | i + 1 => match L[i]? with
    | some s => sealS2 (runS L i) s
    | none => runS L i
theorem runS_succ {L : List Sd} {i : Nat} {s : Sd} (h : L[i]? = some s) : runS L (i + 1) = sealS2 (runS L i) s := by simp [runS, h]
theorem runS_len (L : List Sd) : ∀ i, (runS L i).length ≤ i := by
  intro i
  induction i with
  | zero => simp [runS]
  | succ i ih =>
    unfold runS
    split
    · rename_i s _; have := sealS2_len (runS L i) s; omega
    · omega
theorem mem_seal {S : List Sd} {s t : Sd} : t ∈ sealS2 S s ↔ t ∈ S ∨ (t = s ∧ mayP s) := by
  unfold sealS2 addN
  by_cases hp : mayP s
  · rw [if_pos hp]
    by_cases hs : s ∈ S
    · rw [if_pos hs]
      constructor
      · exact .inl
      · rintro (h | ⟨rfl, _⟩)
        · exact h
        · exact hs
    · rw [if_neg hs]; simp [hp]
  · rw [if_neg hp]; simp [hp]
theorem sealR_may {S : List Sd} {s : Sd} (h : mayP s) : sealR S s = nsealB S s := if_pos h
theorem fidx_seal {S : List Sd} {s t : Sd} {i : Nat} (h : fidx t S = some i) : fidx t (sealS2 S s) = some i := by
  unfold sealS2; split
  · exact fidx_add h
  · exact h
theorem runS_mem (L : List Sd) : ∀ (i : Nat) (t : Sd), t ∈ runS L i ↔ ∃ j, j < i ∧ L[j]? = some t ∧ mayP t := by
  intro i
  induction i with
  | zero => intro t; simp [runS]
  | succ i ih =>
    intro t
    unfold runS
    split
    · rename_i s hs
      rw [mem_seal, ih]
      constructor
      · rintro (⟨j, h1, h2, h3⟩ | ⟨rfl, h⟩)
        · exact ⟨j, by omega, h2, h3⟩
        · exact ⟨i, by omega, hs, h⟩
      · rintro ⟨j, h1, h2, h3⟩
        by_cases hj : j = i
        · subst hj; rw [hs] at h2; cases h2; exact .inr ⟨rfl, h3⟩
        · exact .inl ⟨j, by omega, h2, h3⟩
    · rename_i hs
      rw [ih]
      constructor
      · rintro ⟨j, h1, h2⟩; exact ⟨j, by omega, h2⟩
      · rintro ⟨j, h1, h2, h3⟩
        refine ⟨j, ?_, h2, h3⟩
        have : j ≠ i := by rintro rfl; rw [hs] at h2; cases h2
        omega
theorem runS_fidx {L : List Sd} {j : Nat} {s : Sd} (hs : L[j]? = some s) (hm : mayP s) : ∀ i, j < i → fidx s (runS L i) = some (posN s (runS L j) - 1) := by
  intro i hi
  induction i with
  | zero => omega
  | succ i ih =>
    by_cases hj : j = i
    · subst hj
      rw [runS_succ hs, sealS2, if_pos hm]
      exact fidx_addself s _
    · have := ih (by omega)
      cases hL : L[i]? with
      | some s' => rw [runS_succ hL]; exact fidx_seal this
      | none => rw [show runS L (i + 1) = runS L i by simp [runS, hL]]; exact this
theorem runS_first {L : List Sd} {i k : Nat} {t : Sd} (h : fidx t (runS L i) = some k) : ∃ j, j < i ∧ L[j]? = some t ∧ mayP t ∧ posN t (runS L j) = k + 1 := by
  obtain ⟨j, h1, h2, h3⟩ := (runS_mem L i t).mp (List.mem_of_getElem? (fidx_some h))
  have := runS_fidx h2 h3 i h1
  rw [h] at this
  cases this
  have := posN_le t (runS L j)
  exact ⟨j, h1, h2, h3, by omega⟩
/-- Was it sealed just so? -/
def sealedP (L : List Sd) (i : Nat) (e n : Int) (head b : List B8) : Prop := ∃ j s, j < i ∧ L[j]? = some s ∧ mayP s ∧ s.1 = e ∧ s.2.1 = n ∧ s.2.2.1 = head ∧ sealR (runS L j) s = b
theorem forged (L : List Sd) (i : Nat) (e n : Int) (head b : List B8) : nopenP (runS L i) e n head b ↔ sealedP L i e n head b := by
  constructor
  · rintro ⟨h32, k, hk, hq⟩
    obtain ⟨j, h1, h2, h3, h4⟩ := runS_first hk
    refine ⟨j, _, h1, h2, h3, rfl, rfl, rfl, ?_⟩
    rw [sealR_may h3, nsealB, h4, List.append_assoc, ← hq]
    exact List.take_append_drop _ _
  · rintro ⟨j, ⟨e', n', h', p⟩, h1, h2, h3, rfl, rfl, rfl, rfl⟩
    rw [sealR_may h3]
    exact (nopenP_seal _ (runS_fidx h2 h3 i h1)).1
structure FoJ (M : Mem) (L : List Sd) (e n : Int) (head b : List B8) (x : Nat) (i : Nat) (W : List Nat) (c : Bool) (N : Mem) : Prop where
  le : i ≤ L.length
  kept : Kept [] M N
  nm : Nm N x W (runS L i) []
  low : ∀ b ∈ W, M.length ≤ b
  sd : c = true ↔ sealedP L i e n head b
theorem sealedP_succ {L : List Sd} {i : Nat} {s : Sd} (hs : L[i]? = some s) {e n : Int} {head b : List B8} : sealedP L (i + 1) e n head b ↔ sealedP L i e n head b ∨ (mayP s ∧ s.1 = e ∧ s.2.1 = n ∧ s.2.2.1 = head ∧ sealR (runS L i) s = b) := by
  constructor
  · rintro ⟨j, t, h1, h2, h3⟩
    by_cases hj : j = i
    · subst hj; rw [hs] at h2; cases h2; exact .inr h3
    · exact .inl ⟨j, t, by omega, h2, h3⟩
  · rintro (⟨j, t, h1, h2, h3⟩ | h)
    · exact ⟨j, t, by omega, h2, h3⟩
    · exact ⟨i, s, by omega, hs, h⟩
theorem ans_NamesForged {m : Mem} {l hx y : AV} {L : List Sd} {e n : Int} {head b : List B8} (hl : RdFs m l L) (hh : RdB m hx head) (hy : RdB m y b) :
    Ans Try.prog 5 [l, .int .i64 e, .int .i64 n, hx, y] m fun r m' => r = .bool true ∧ Kept [] m m' := by
  refine ans_ret mixed ok5 ?_
  simp -implicitDefEqProofs (disch := (first | omega | (simp only [lenB, lowB_len, numB_len, nsumB_len] <;> omega) | fail)) only [admQ, lenB, lowB_len, numB_len, nsumB_len, aFill, AK.cls, implies_true, ↓reduceIte, reduceCtorEq, if_true, if_false, Nat.reduceAdd, Nat.reduceEqDiff, Nat.reduceMod, Nat.reduceLT, Nat.reduceLeDiff, Nat.reduceSub, Nat.reduceMul, Nat.reduceBEq, Int.reduceAdd, Int.reduceSub, Int.reduceMul, Int.reduceNeg, Int.reduceLT, Int.reduceLE, Int.reduceToNat, Int.reduceEq, Int.reduceBEq, c5, r5]
  refine (ans_ngreat hl).mono ?_
  rintro _ M ⟨c, rfl, hM, hc⟩
  subst hM
  cases c with
  | true =>
    simp -implicitDefEqProofs (disch := (first | omega | (simp only [lenB, lowB_len, numB_len, nsumB_len] <;> omega) | fail)) only [admQ, lenB, lowB_len, numB_len, nsumB_len, aFill, AK.cls, implies_true, ↓reduceIte, reduceCtorEq, if_true, if_false, Nat.reduceAdd, Nat.reduceEqDiff, Nat.reduceMod, Nat.reduceLT, Nat.reduceLeDiff, Nat.reduceSub, Nat.reduceMul, Nat.reduceBEq, Int.reduceAdd, Int.reduceSub, Int.reduceMul, Int.reduceNeg, Int.reduceLT, Int.reduceLE, Int.reduceToNat, Int.reduceEq, Int.reduceBEq]
    refine (ans_nworks _).mono ?_
    rintro _ m1 ⟨rfl, k1⟩
    simp -implicitDefEqProofs (disch := (first | omega | (simp only [lenB, lowB_len, numB_len, nsumB_len] <;> omega) | fail)) only [admQ, lenB, lowB_len, numB_len, nsumB_len, aFill, AK.cls, implies_true, ↓reduceIte, reduceCtorEq, if_true, if_false, Nat.reduceAdd, Nat.reduceEqDiff, Nat.reduceMod, Nat.reduceLT, Nat.reduceLeDiff, Nat.reduceSub, Nat.reduceMul, Nat.reduceBEq, Int.reduceAdd, Int.reduceSub, Int.reduceMul, Int.reduceNeg, Int.reduceLT, Int.reduceLE, Int.reduceToNat, Int.reduceEq, Int.reduceBEq]
    exact k1
  | false =>
    obtain ⟨hL, hle⟩ := hc rfl
    by_cases hhg : (head.length : Int) > 8192
    · simp -implicitDefEqProofs (disch := (first | omega | (simp only [lenB, lowB_len, numB_len, nsumB_len] <;> omega) | fail)) only [admQ, lenB, lowB_len, numB_len, nsumB_len, aFill, AK.cls, implies_true, ↓reduceIte, reduceCtorEq, if_true, if_false, Nat.reduceAdd, Nat.reduceEqDiff, Nat.reduceMod, Nat.reduceLT, Nat.reduceLeDiff, Nat.reduceSub, Nat.reduceMul, Nat.reduceBEq, Int.reduceAdd, Int.reduceSub, Int.reduceMul, Int.reduceNeg, Int.reduceLT, Int.reduceLE, Int.reduceToNat, Int.reduceEq, Int.reduceBEq, hh.len, dec_t hhg]
      refine (ans_nworks _).mono ?_
      rintro _ m1 ⟨rfl, k1⟩
      simp -implicitDefEqProofs (disch := (first | omega | (simp only [lenB, lowB_len, numB_len, nsumB_len] <;> omega) | fail)) only [admQ, lenB, lowB_len, numB_len, nsumB_len, aFill, AK.cls, implies_true, ↓reduceIte, reduceCtorEq, if_true, if_false, Nat.reduceAdd, Nat.reduceEqDiff, Nat.reduceMod, Nat.reduceLT, Nat.reduceLeDiff, Nat.reduceSub, Nat.reduceMul, Nat.reduceBEq, Int.reduceAdd, Int.reduceSub, Int.reduceMul, Int.reduceNeg, Int.reduceLT, Int.reduceLE, Int.reduceToNat, Int.reduceEq, Int.reduceBEq]
      exact k1
    by_cases hbg : (b.length : Int) > 8192
    · simp -implicitDefEqProofs (disch := (first | omega | (simp only [lenB, lowB_len, numB_len, nsumB_len] <;> omega) | fail)) only [admQ, lenB, lowB_len, numB_len, nsumB_len, aFill, AK.cls, implies_true, ↓reduceIte, reduceCtorEq, if_true, if_false, Nat.reduceAdd, Nat.reduceEqDiff, Nat.reduceMod, Nat.reduceLT, Nat.reduceLeDiff, Nat.reduceSub, Nat.reduceMul, Nat.reduceBEq, Int.reduceAdd, Int.reduceSub, Int.reduceMul, Int.reduceNeg, Int.reduceLT, Int.reduceLE, Int.reduceToNat, Int.reduceEq, Int.reduceBEq, hh.len, dec_f hhg, hy.len, dec_t hbg]
      refine (ans_nworks _).mono ?_
      rintro _ m1 ⟨rfl, k1⟩
      simp -implicitDefEqProofs (disch := (first | omega | (simp only [lenB, lowB_len, numB_len, nsumB_len] <;> omega) | fail)) only [admQ, lenB, lowB_len, numB_len, nsumB_len, aFill, AK.cls, implies_true, ↓reduceIte, reduceCtorEq, if_true, if_false, Nat.reduceAdd, Nat.reduceEqDiff, Nat.reduceMod, Nat.reduceLT, Nat.reduceLeDiff, Nat.reduceSub, Nat.reduceMul, Nat.reduceBEq, Int.reduceAdd, Int.reduceSub, Int.reduceMul, Int.reduceNeg, Int.reduceLT, Int.reduceLE, Int.reduceToNat, Int.reduceEq, Int.reduceBEq]
      exact k1
    simp -implicitDefEqProofs (disch := (first | omega | (simp only [lenB, lowB_len, numB_len, nsumB_len] <;> omega) | fail)) only [admQ, lenB, lowB_len, numB_len, nsumB_len, aFill, AK.cls, implies_true, ↓reduceIte, reduceCtorEq, if_true, if_false, Nat.reduceAdd, Nat.reduceEqDiff, Nat.reduceMod, Nat.reduceLT, Nat.reduceLeDiff, Nat.reduceSub, Nat.reduceMul, Nat.reduceBEq, Int.reduceAdd, Int.reduceSub, Int.reduceMul, Int.reduceNeg, Int.reduceLT, Int.reduceLE, Int.reduceToNat, Int.reduceEq, Int.reduceBEq, hh.len, dec_f hhg, hy.len, dec_f hbg]
    refine (ans_nnew _).mono ?_
    rintro _ m1 ⟨px, W, rfl, k1, hN1, hW1⟩
    simp -implicitDefEqProofs (disch := (first | omega | (simp only [lenB, lowB_len, numB_len, nsumB_len] <;> omega) | fail)) only [admQ, lenB, lowB_len, numB_len, nsumB_len, aFill, AK.cls, implies_true, ↓reduceIte, reduceCtorEq, if_true, if_false, Nat.reduceAdd, Nat.reduceEqDiff, Nat.reduceMod, Nat.reduceLT, Nat.reduceLeDiff, Nat.reduceSub, Nat.reduceMul, Nat.reduceBEq, Int.reduceAdd, Int.reduceSub, Int.reduceMul, Int.reduceNeg, Int.reduceLT, Int.reduceLE, Int.reduceToNat, Int.reduceEq, Int.reduceBEq]
    refine LoopW.on (fun t : Nat × List Nat × Bool => [(0, l), (1, .int .i64 e), (2, .int .i64 n), (3, hx), (4, y), (11, .ptr px 0), (12, .bool t.2.2), (13, .int .i64 t.1)]) (fun t => L.length - t.1)
      (fun t N => FoJ M L e n head b px t.1 t.2.1 t.2.2 N) ?_ (0, W, false) _ _ rfl ⟨Nat.zero_le _, k1, hN1, hW1, by simp [sealedP]⟩
    clear k1 hN1 hW1 W m1
    rintro ⟨i, W, c⟩ N X ⟨hi, kk, hN, lw, hsd⟩ hX
    simp only at hi hN lw hsd
    have hrl := runS_len L i
    by_cases hlt : i < L.length
    · have hlen := hl.len
      rcases hl with ⟨_, rfl⟩ | ⟨bl, cap, xs, rfl, hrow, hhl, hel⟩
      · simp at hlt
      obtain ⟨s, hs⟩ : ∃ s, L[i]? = some s := ⟨_, List.getElem?_eq_getElem hlt⟩
      obtain ⟨h, p, a1, a2, a3, a4, a5, a6⟩ := hel i s hs
      obtain ⟨hh1, hp1⟩ := hle s (List.mem_of_getElem? hs)
      have r0 := kk.row hrow (by simp)
      have hpl : ∀ q ∈ blkOf p, q < M.length := a6.blk_lt
      simp -implicitDefEqProofs (disch := (first | omega | (simp only [lenB, lowB_len, numB_len, nsumB_len] <;> omega) | fail)) only [admQ, lenB, lowB_len, numB_len, nsumB_len, aFill, AK.cls, implies_true, ↓reduceIte, reduceCtorEq, if_true, if_false, Nat.reduceAdd, Nat.reduceEqDiff, Nat.reduceMod, Nat.reduceLT, Nat.reduceLeDiff, Nat.reduceSub, Nat.reduceMul, Nat.reduceBEq, Int.reduceAdd, Int.reduceSub, Int.reduceMul, Int.reduceNeg, Int.reduceLT, Int.reduceLE, Int.reduceToNat, Int.reduceEq, Int.reduceBEq, r0, a1, a2, a3, a4]
      refine (ans_nseal2 (s := s) hN (a5.kept0 kk) (a6.kept0 kk) (.low hpl lw) (by omega) ⟨by omega, by omega⟩).mono ?_
      rintro rs N1 ⟨W', k1, hN1, hW1, g1, d1, b1⟩
      rw [← runS_succ hs] at hN1
      have kk1 := kk.upon k1 lw
      have r1 := kk1.row hrow (by simp)
      have lw1 := low_new hW1 lw kk.len
      have hRl := sealR_len (runS L i) s
      have t4 := take4 a1 a2 a3 a4
      have hst := sealedP_succ hs (e := e) (n := n) (head := head) (b := b)
      cases c with
      | true =>
        simp -implicitDefEqProofs (disch := (first | omega | (simp only [lenB, lowB_len, numB_len, nsumB_len] <;> omega) | fail)) only [admQ, lenB, lowB_len, numB_len, nsumB_len, aFill, AK.cls, implies_true, ↓reduceIte, reduceCtorEq, if_true, if_false, Nat.reduceAdd, Nat.reduceEqDiff, Nat.reduceMod, Nat.reduceLT, Nat.reduceLeDiff, Nat.reduceSub, Nat.reduceMul, Nat.reduceBEq, Int.reduceAdd, Int.reduceSub, Int.reduceMul, Int.reduceNeg, Int.reduceLT, Int.reduceLE, Int.reduceToNat, Int.reduceEq, Int.reduceBEq, r1, a1, a2, a3, a4]
        exact hX (i + 1, W', true) _ _ rfl (by simp only; omega) ⟨by simp only; omega, kk1, hN1, lw1, by simp only [hst, true_iff]; exact .inl (hsd.mp rfl)⟩
      | false =>
        have hns : ¬ sealedP L i e n head b := fun h => by have := hsd.mpr h; cases this
        simp -implicitDefEqProofs (disch := (first | omega | (simp only [lenB, lowB_len, numB_len, nsumB_len] <;> omega) | fail)) only [admQ, lenB, lowB_len, numB_len, nsumB_len, aFill, AK.cls, implies_true, ↓reduceIte, reduceCtorEq, if_true, if_false, Nat.reduceAdd, Nat.reduceEqDiff, Nat.reduceMod, Nat.reduceLT, Nat.reduceLeDiff, Nat.reduceSub, Nat.reduceMul, Nat.reduceBEq, Int.reduceAdd, Int.reduceSub, Int.reduceMul, Int.reduceNeg, Int.reduceLT, Int.reduceLE, Int.reduceToNat, Int.reduceEq, Int.reduceBEq, r1, a1, a2, a3, a4, t4, Bool.not_true]
        refine (ans_nmay (rd_one a5) s ⟨rfl, rfl⟩).mono ?_
        rintro _ N2 ⟨rfl, k2⟩
        have kk2 := kk1.trans k2
        have r2 := kk2.row hrow (by simp)
        have hN2 := hN1.kept0 k2
        have no : ∀ N', Kept [] N2 N' → ¬ (mayP s ∧ s.1 = e ∧ s.2.1 = n ∧ s.2.2.1 = head ∧ sealR (runS L i) s = b) → FoJ M L e n head b px (i + 1) W' false N' := fun N' k' hno =>
          ⟨by omega, kk2.trans k', hN2.kept0 k', lw1, by rw [hst]; simp [hns, hno]⟩
        by_cases hm : mayP s
        · by_cases he : s.1 = e
          · by_cases hn : s.2.1 = n
            · simp -implicitDefEqProofs (disch := (first | omega | (simp only [lenB, lowB_len, numB_len, nsumB_len] <;> omega) | fail)) only [admQ, lenB, lowB_len, numB_len, nsumB_len, aFill, AK.cls, implies_true, ↓reduceIte, reduceCtorEq, if_true, if_false, Nat.reduceAdd, Nat.reduceEqDiff, Nat.reduceMod, Nat.reduceLT, Nat.reduceLeDiff, Nat.reduceSub, Nat.reduceMul, Nat.reduceBEq, Int.reduceAdd, Int.reduceSub, Int.reduceMul, Int.reduceNeg, Int.reduceLT, Int.reduceLE, Int.reduceToNat, Int.reduceEq, Int.reduceBEq, dec_t hm, r2, a1, a2, a3, a4, beq_iff_eq.mpr he, beq_iff_eq.mpr hn]
              refine (ans_samebytes (a5.kept0 kk2) (hh.kept0 kk2) (by omega)).mono ?_
              rintro _ N3 ⟨rfl, hM⟩
              subst hM
              by_cases hhd : s.2.2.1 = head
              · simp -implicitDefEqProofs (disch := (first | omega | (simp only [lenB, lowB_len, numB_len, nsumB_len] <;> omega) | fail)) only [admQ, lenB, lowB_len, numB_len, nsumB_len, aFill, AK.cls, implies_true, ↓reduceIte, reduceCtorEq, if_true, if_false, Nat.reduceAdd, Nat.reduceEqDiff, Nat.reduceMod, Nat.reduceLT, Nat.reduceLeDiff, Nat.reduceSub, Nat.reduceMul, Nat.reduceBEq, Int.reduceAdd, Int.reduceSub, Int.reduceMul, Int.reduceNeg, Int.reduceLT, Int.reduceLE, Int.reduceToNat, Int.reduceEq, Int.reduceBEq, beq_iff_eq.mpr hhd, r2, a1, a2, a3, a4]
                refine (ans_samebytes (g1.rd.kept0 k2) (hy.kept0 kk2) (by omega)).mono ?_
                rintro _ N4 ⟨rfl, hM⟩
                subst hM
                by_cases hq : sealR (runS L i) s = b
                · simp -implicitDefEqProofs (disch := (first | omega | (simp only [lenB, lowB_len, numB_len, nsumB_len] <;> omega) | fail)) only [admQ, lenB, lowB_len, numB_len, nsumB_len, aFill, AK.cls, implies_true, ↓reduceIte, reduceCtorEq, if_true, if_false, Nat.reduceAdd, Nat.reduceEqDiff, Nat.reduceMod, Nat.reduceLT, Nat.reduceLeDiff, Nat.reduceSub, Nat.reduceMul, Nat.reduceBEq, Int.reduceAdd, Int.reduceSub, Int.reduceMul, Int.reduceNeg, Int.reduceLT, Int.reduceLE, Int.reduceToNat, Int.reduceEq, Int.reduceBEq, beq_iff_eq.mpr hq]
                  exact hX (i + 1, W', true) _ _ rfl (by simp only; omega) ⟨by simp only; omega, kk2, hN2, lw1, by simp only [hst, true_iff]; exact .inr ⟨hm, he, hn, hhd, hq⟩⟩
                · simp -implicitDefEqProofs (disch := (first | omega | (simp only [lenB, lowB_len, numB_len, nsumB_len] <;> omega) | fail)) only [admQ, lenB, lowB_len, numB_len, nsumB_len, aFill, AK.cls, implies_true, ↓reduceIte, reduceCtorEq, if_true, if_false, Nat.reduceAdd, Nat.reduceEqDiff, Nat.reduceMod, Nat.reduceLT, Nat.reduceLeDiff, Nat.reduceSub, Nat.reduceMul, Nat.reduceBEq, Int.reduceAdd, Int.reduceSub, Int.reduceMul, Int.reduceNeg, Int.reduceLT, Int.reduceLE, Int.reduceToNat, Int.reduceEq, Int.reduceBEq, beq_eq_false_iff_ne.mpr hq]
                  exact hX (i + 1, W', false) _ _ rfl (by simp only; omega) (no _ (.refl _ _) fun h => hq h.2.2.2.2)
              · simp -implicitDefEqProofs (disch := (first | omega | (simp only [lenB, lowB_len, numB_len, nsumB_len] <;> omega) | fail)) only [admQ, lenB, lowB_len, numB_len, nsumB_len, aFill, AK.cls, implies_true, ↓reduceIte, reduceCtorEq, if_true, if_false, Nat.reduceAdd, Nat.reduceEqDiff, Nat.reduceMod, Nat.reduceLT, Nat.reduceLeDiff, Nat.reduceSub, Nat.reduceMul, Nat.reduceBEq, Int.reduceAdd, Int.reduceSub, Int.reduceMul, Int.reduceNeg, Int.reduceLT, Int.reduceLE, Int.reduceToNat, Int.reduceEq, Int.reduceBEq, beq_eq_false_iff_ne.mpr hhd, r2, a1, a2, a3, a4]
                exact hX (i + 1, W', false) _ _ rfl (by simp only; omega) (no _ (.refl _ _) fun h => hhd h.2.2.2.1)
            · simp -implicitDefEqProofs (disch := (first | omega | (simp only [lenB, lowB_len, numB_len, nsumB_len] <;> omega) | fail)) only [admQ, lenB, lowB_len, numB_len, nsumB_len, aFill, AK.cls, implies_true, ↓reduceIte, reduceCtorEq, if_true, if_false, Nat.reduceAdd, Nat.reduceEqDiff, Nat.reduceMod, Nat.reduceLT, Nat.reduceLeDiff, Nat.reduceSub, Nat.reduceMul, Nat.reduceBEq, Int.reduceAdd, Int.reduceSub, Int.reduceMul, Int.reduceNeg, Int.reduceLT, Int.reduceLE, Int.reduceToNat, Int.reduceEq, Int.reduceBEq, dec_t hm, r2, a1, a2, a3, a4, beq_iff_eq.mpr he, beq_eq_false_iff_ne.mpr hn]
              exact hX (i + 1, W', false) _ _ rfl (by simp only; omega) (no _ (.refl _ _) fun h => hn h.2.2.1)
          · simp -implicitDefEqProofs (disch := (first | omega | (simp only [lenB, lowB_len, numB_len, nsumB_len] <;> omega) | fail)) only [admQ, lenB, lowB_len, numB_len, nsumB_len, aFill, AK.cls, implies_true, ↓reduceIte, reduceCtorEq, if_true, if_false, Nat.reduceAdd, Nat.reduceEqDiff, Nat.reduceMod, Nat.reduceLT, Nat.reduceLeDiff, Nat.reduceSub, Nat.reduceMul, Nat.reduceBEq, Int.reduceAdd, Int.reduceSub, Int.reduceMul, Int.reduceNeg, Int.reduceLT, Int.reduceLE, Int.reduceToNat, Int.reduceEq, Int.reduceBEq, dec_t hm, r2, a1, a2, a3, a4, beq_eq_false_iff_ne.mpr he]
            exact hX (i + 1, W', false) _ _ rfl (by simp only; omega) (no _ (.refl _ _) fun h => he h.2.1)
        · simp -implicitDefEqProofs (disch := (first | omega | (simp only [lenB, lowB_len, numB_len, nsumB_len] <;> omega) | fail)) only [admQ, lenB, lowB_len, numB_len, nsumB_len, aFill, AK.cls, implies_true, ↓reduceIte, reduceCtorEq, if_true, if_false, Nat.reduceAdd, Nat.reduceEqDiff, Nat.reduceMod, Nat.reduceLT, Nat.reduceLeDiff, Nat.reduceSub, Nat.reduceMul, Nat.reduceBEq, Int.reduceAdd, Int.reduceSub, Int.reduceMul, Int.reduceNeg, Int.reduceLT, Int.reduceLE, Int.reduceToNat, Int.reduceEq, Int.reduceBEq, dec_f hm, r2, a1, a2, a3, a4]
          exact hX (i + 1, W', false) _ _ rfl (by simp only; omega) (no _ (.refl _ _) fun h => hm h.1)
    · obtain rfl : i = L.length := by omega
      simp -implicitDefEqProofs (disch := (first | omega | (simp only [lenB, lowB_len, numB_len, nsumB_len] <;> omega) | fail)) only [admQ, lenB, lowB_len, numB_len, nsumB_len, aFill, AK.cls, implies_true, ↓reduceIte, reduceCtorEq, if_true, if_false, Nat.reduceAdd, Nat.reduceEqDiff, Nat.reduceMod, Nat.reduceLT, Nat.reduceLeDiff, Nat.reduceSub, Nat.reduceMul, Nat.reduceBEq, Int.reduceAdd, Int.reduceSub, Int.reduceMul, Int.reduceNeg, Int.reduceLT, Int.reduceLE, Int.reduceToNat, Int.reduceEq, Int.reduceBEq, hl.len]
      refine (ans_nopen hN (hh.kept0 kk) (hy.kept0 kk) (by omega) ⟨by omega, by omega⟩).mono ?_
      rintro r N2 ⟨k2, g2, g2'⟩
      have hf := forged L L.length e n head b
      have works : Ans Try.prog 10 [] N2 fun r m' => r = .bool true ∧ Kept [] M m' := (ans_nworks _).mono fun r m' ⟨h1, h2⟩ => ⟨h1, (kk.trans k2).trans h2⟩
      by_cases ho : nopenP (runS L L.length) e n head b
      · obtain ⟨v, rfl, _⟩ := g2 ho
        have hct := hsd.mpr (hf.mp ho)
        simp -implicitDefEqProofs (disch := (first | omega | (simp only [lenB, lowB_len, numB_len, nsumB_len] <;> omega) | fail)) only [admQ, lenB, lowB_len, numB_len, nsumB_len, aFill, AK.cls, implies_true, ↓reduceIte, reduceCtorEq, if_true, if_false, Nat.reduceAdd, Nat.reduceEqDiff, Nat.reduceMod, Nat.reduceLT, Nat.reduceLeDiff, Nat.reduceSub, Nat.reduceMul, Nat.reduceBEq, Int.reduceAdd, Int.reduceSub, Int.reduceMul, Int.reduceNeg, Int.reduceLT, Int.reduceLE, Int.reduceToNat, Int.reduceEq, Int.reduceBEq, hct, beq_self_eq_true]
        refine works.mono ?_
        rintro _ m1 ⟨rfl, k1⟩
        simp -implicitDefEqProofs (disch := (first | omega | (simp only [lenB, lowB_len, numB_len, nsumB_len] <;> omega) | fail)) only [admQ, lenB, lowB_len, numB_len, nsumB_len, aFill, AK.cls, implies_true, ↓reduceIte, reduceCtorEq, if_true, if_false, Nat.reduceAdd, Nat.reduceEqDiff, Nat.reduceMod, Nat.reduceLT, Nat.reduceLeDiff, Nat.reduceSub, Nat.reduceMul, Nat.reduceBEq, Int.reduceAdd, Int.reduceSub, Int.reduceMul, Int.reduceNeg, Int.reduceLT, Int.reduceLE, Int.reduceToNat, Int.reduceEq, Int.reduceBEq]
        exact k1
      · obtain rfl := g2' ho
        have hcf : c = false := by
          cases c with
          | false => rfl
          | true => exact absurd (hf.mpr (hsd.mp rfl)) ho
        simp -implicitDefEqProofs (disch := (first | omega | (simp only [lenB, lowB_len, numB_len, nsumB_len] <;> omega) | fail)) only [admQ, lenB, lowB_len, numB_len, nsumB_len, aFill, AK.cls, implies_true, ↓reduceIte, reduceCtorEq, if_true, if_false, Nat.reduceAdd, Nat.reduceEqDiff, Nat.reduceMod, Nat.reduceLT, Nat.reduceLeDiff, Nat.reduceSub, Nat.reduceMul, Nat.reduceBEq, Int.reduceAdd, Int.reduceSub, Int.reduceMul, Int.reduceNeg, Int.reduceLT, Int.reduceLE, Int.reduceToNat, Int.reduceEq, Int.reduceBEq, hcf, beq_self_eq_true]
        refine works.mono ?_
        rintro _ m1 ⟨rfl, k1⟩
        simp -implicitDefEqProofs (disch := (first | omega | (simp only [lenB, lowB_len, numB_len, nsumB_len] <;> omega) | fail)) only [admQ, lenB, lowB_len, numB_len, nsumB_len, aFill, AK.cls, implies_true, ↓reduceIte, reduceCtorEq, if_true, if_false, Nat.reduceAdd, Nat.reduceEqDiff, Nat.reduceMod, Nat.reduceLT, Nat.reduceLeDiff, Nat.reduceSub, Nat.reduceMul, Nat.reduceBEq, Int.reduceAdd, Int.reduceSub, Int.reduceMul, Int.reduceNeg, Int.reduceLT, Int.reduceLE, Int.reduceToNat, Int.reduceEq, Int.reduceBEq]
        exact k1
end Go.Proofs.Ytodkgembfcddbaa
end
section
/- Names: each is opened as it was sealed. -/
namespace Go.Proofs.Ytodkgembfcddbaa
open Go Go.Adm
set_option linter.unusedSimpArgs false
set_option linter.unusedVariables false
set_option maxRecDepth 100000
theorem nsealB_split (S : List Sd) (s : Sd) : (nsealB S s).take ((nsealB S s).length - 32) = s.2.2.2 ∧ (nsealB S s).drop ((nsealB S s).length - 32) = zeros 24 ++ numB (posN s S) := by
  have hl := nsealB_len S s
  have e0 : (nsealB S s).length - 32 = s.2.2.2.length := by omega
  rw [e0]
  constructor
  · simp [nsealB]
  · simp [nsealB]
/-- What was sealed is opened under just its own epoch, number and head. -/
theorem back {L : List Sd} {i n : Nat} {s : Sd} (hs : L[i]? = some s) (hm : mayP s) (hi : i < n) (hn : n < 60000) (e n' : Int) (head : List B8) :
    nopenP (runS L n) e n' head (nsealB (runS L i) s) ↔ e = s.1 ∧ n' = s.2.1 ∧ head = s.2.2.1 := by
  have hf := runS_fidx hs hm n hi
  have hp := posN_le s (runS L i)
  have hrl := runS_len L i
  have hl := nsealB_len (runS L i) s
  obtain ⟨e1, e2⟩ := nsealB_split (runS L i) s
  rw [nopenP, e1, e2]
  constructor
  · rintro ⟨_, j, hj, hq⟩
    have hjn := fidx_lt hj
    have hrn := runS_len L n
    have := numB_inj (by omega) (by omega) (List.append_cancel_left hq)
    obtain rfl : j = posN s (runS L i) - 1 := by omega
    have h1 := fidx_some hj
    rw [fidx_some hf] at h1
    simp only [Option.some.injEq] at h1
    rw [h1]
    exact ⟨rfl, rfl, rfl⟩
  · rintro ⟨rfl, rfl, rfl⟩
    exact ⟨by omega, _, hf, by congr 2⟩
/-- Two that have one plain are sealed alike just if they are the same. -/
theorem alike {L : List Sd} {i k n : Nat} {s t : Sd} (hs : L[i]? = some s) (ht : L[k]? = some t) (hm : mayP s) (hm2 : mayP t) (hi : i < n) (hk : k < n) (hn : n < 60000) (hp : s.2.2.2 = t.2.2.2) :
    nsealB (runS L i) s = nsealB (runS L k) t ↔ s = t := by
  have hf := runS_fidx hs hm n hi
  have hf2 := runS_fidx ht hm2 n hk
  have hp1 := posN_le s (runS L i)
  have hp2 := posN_le t (runS L k)
  have hl1 := runS_len L i
  have hl2 := runS_len L k
  constructor
  · intro h
    obtain ⟨_, e2⟩ := nsealB_split (runS L i) s
    obtain ⟨_, e4⟩ := nsealB_split (runS L k) t
    rw [h, e4] at e2
    have := numB_inj (by omega) (by omega) (List.append_cancel_left e2)
    rw [this] at hf2
    have h1 := fidx_some hf
    rw [fidx_some hf2] at h1
    exact (Option.some.inj h1).symm
  · rintro rfl
    rw [hf] at hf2
    simp only [Option.some.injEq] at hf2
    unfold nsealB
    rw [show posN s (runS L i) = posN s (runS L k) by omega]
theorem rdb_keptA {X : List Nat} {m m' : Mem} {x : AV} {l : List B8} (h : RdB m x l) (hk : Kept X m m') (ha : Ap (blkOf x) X) : RdB m' x l :=
  h.kept hk fun b o n cap s e => ha b (by rw [e]; simp [blkOf])
theorem ans_nsame {m : Mem} {h1 p1 h2 p2 : AV} {s t : Sd} (a1 : RdB m h1 s.2.2.1) (a2 : RdB m p1 s.2.2.2) (b1 : RdB m h2 t.2.2.1) (b2 : RdB m p2 t.2.2.2) (hl : s.2.2.1.length < 100000 ∧ s.2.2.2.length < 100000) :
    Ans Try.prog 27 [.agg [.int .i64 s.1, .int .i64 s.2.1, h1, p1], .agg [.int .i64 t.1, .int .i64 t.2.1, h2, p2]] m fun r m' => r = .bool (decide (s = t)) ∧ Kept [] m m' := by
  refine ans_ret mixed ok27 ?_
  have k0 := Kept.app [] m [Blk.row [.int .i64 s.1, .int .i64 s.2.1, h1, p1] false, Blk.row [.int .i64 t.1, .int .i64 t.2.1, h2, p2] false]
  by_cases he : s.1 = t.1
  · by_cases hn : s.2.1 = t.2.1
    · simp -implicitDefEqProofs (disch := (first | omega | (simp only [lenB, lowB_len, numB_len, nsumB_len] <;> omega) | fail)) only [admQ, lenB, lowB_len, numB_len, nsumB_len, aFill, AK.cls, implies_true, ↓reduceIte, reduceCtorEq, if_true, if_false, Nat.reduceAdd, Nat.reduceEqDiff, Nat.reduceMod, Nat.reduceLT, Nat.reduceLeDiff, Nat.reduceSub, Nat.reduceMul, Nat.reduceBEq, Int.reduceAdd, Int.reduceSub, Int.reduceMul, Int.reduceNeg, Int.reduceLT, Int.reduceLE, Int.reduceToNat, Int.reduceEq, Int.reduceBEq, c27, r27, beq_iff_eq.mpr he, beq_iff_eq.mpr hn]
      refine (ans_samebytes (a1.kept0 k0) (b1.kept0 k0) (by omega)).mono ?_
      rintro _ M ⟨rfl, hM⟩
      subst hM
      by_cases hh : s.2.2.1 = t.2.2.1
      · simp -implicitDefEqProofs (disch := (first | omega | (simp only [lenB, lowB_len, numB_len, nsumB_len] <;> omega) | fail)) only [admQ, lenB, lowB_len, numB_len, nsumB_len, aFill, AK.cls, implies_true, ↓reduceIte, reduceCtorEq, if_true, if_false, Nat.reduceAdd, Nat.reduceEqDiff, Nat.reduceMod, Nat.reduceLT, Nat.reduceLeDiff, Nat.reduceSub, Nat.reduceMul, Nat.reduceBEq, Int.reduceAdd, Int.reduceSub, Int.reduceMul, Int.reduceNeg, Int.reduceLT, Int.reduceLE, Int.reduceToNat, Int.reduceEq, Int.reduceBEq, beq_iff_eq.mpr hh]
        refine (ans_samebytes (a2.kept0 k0) (b2.kept0 k0) (by omega)).mono ?_
        rintro _ M ⟨rfl, hM⟩
        subst hM
        simp -implicitDefEqProofs (disch := (first | omega | (simp only [lenB, lowB_len, numB_len, nsumB_len] <;> omega) | fail)) only [admQ, lenB, lowB_len, numB_len, nsumB_len, aFill, AK.cls, implies_true, ↓reduceIte, reduceCtorEq, if_true, if_false, Nat.reduceAdd, Nat.reduceEqDiff, Nat.reduceMod, Nat.reduceLT, Nat.reduceLeDiff, Nat.reduceSub, Nat.reduceMul, Nat.reduceBEq, Int.reduceAdd, Int.reduceSub, Int.reduceMul, Int.reduceNeg, Int.reduceLT, Int.reduceLE, Int.reduceToNat, Int.reduceEq, Int.reduceBEq]
        refine ⟨?_, k0⟩
        congr 1
        rw [Bool.eq_iff_iff, beq_iff_eq, decide_eq_true_iff]
        obtain ⟨s1, s2, s3, s4⟩ := s
        obtain ⟨t1, t2, t3, t4⟩ := t
        simp_all
      · simp -implicitDefEqProofs (disch := (first | omega | (simp only [lenB, lowB_len, numB_len, nsumB_len] <;> omega) | fail)) only [admQ, lenB, lowB_len, numB_len, nsumB_len, aFill, AK.cls, implies_true, ↓reduceIte, reduceCtorEq, if_true, if_false, Nat.reduceAdd, Nat.reduceEqDiff, Nat.reduceMod, Nat.reduceLT, Nat.reduceLeDiff, Nat.reduceSub, Nat.reduceMul, Nat.reduceBEq, Int.reduceAdd, Int.reduceSub, Int.reduceMul, Int.reduceNeg, Int.reduceLT, Int.reduceLE, Int.reduceToNat, Int.reduceEq, Int.reduceBEq, beq_eq_false_iff_ne.mpr hh, dec_f (show ¬ s = t from fun h => hh (by rw [h]))]
        exact k0
    · simp -implicitDefEqProofs (disch := (first | omega | (simp only [lenB, lowB_len, numB_len, nsumB_len] <;> omega) | fail)) only [admQ, lenB, lowB_len, numB_len, nsumB_len, aFill, AK.cls, implies_true, ↓reduceIte, reduceCtorEq, if_true, if_false, Nat.reduceAdd, Nat.reduceEqDiff, Nat.reduceMod, Nat.reduceLT, Nat.reduceLeDiff, Nat.reduceSub, Nat.reduceMul, Nat.reduceBEq, Int.reduceAdd, Int.reduceSub, Int.reduceMul, Int.reduceNeg, Int.reduceLT, Int.reduceLE, Int.reduceToNat, Int.reduceEq, Int.reduceBEq, c27, r27, beq_iff_eq.mpr he, beq_eq_false_iff_ne.mpr hn, dec_f (show ¬ s = t from fun h => hn (by rw [h]))]
      exact k0
  · simp -implicitDefEqProofs (disch := (first | omega | (simp only [lenB, lowB_len, numB_len, nsumB_len] <;> omega) | fail)) only [admQ, lenB, lowB_len, numB_len, nsumB_len, aFill, AK.cls, implies_true, ↓reduceIte, reduceCtorEq, if_true, if_false, Nat.reduceAdd, Nat.reduceEqDiff, Nat.reduceMod, Nat.reduceLT, Nat.reduceLeDiff, Nat.reduceSub, Nat.reduceMul, Nat.reduceBEq, Int.reduceAdd, Int.reduceSub, Int.reduceMul, Int.reduceNeg, Int.reduceLT, Int.reduceLE, Int.reduceToNat, Int.reduceEq, Int.reduceBEq, c27, r27, beq_eq_false_iff_ne.mpr he, dec_f (show ¬ s = t from fun h => he (by rw [h]))]
    exact k0
/-- What is known of the things sealed. -/
def Got (M : Mem) (L : List Sd) (W : List Nat) (v : AV) (gs : List AV) (N : Mem) : Prop :=
  ∀ (j : Nat) (r : AV), gs[j]? = some r → ∃ s, L[j]? = some s ∧ RdB N r (sealR (runS L j) s) ∧ Ap (blkOf r) W ∧ ∀ b ∈ blkOf r, M.length ≤ b ∧ b ∉ blkOf v
theorem Got.kept {M : Mem} {L : List Sd} {W : List Nat} {v : AV} {gs : List AV} {N N' : Mem} (h : Got M L W v gs N) (hk : Kept W N N') : Got M L W v gs N' := fun j r hr => by
  obtain ⟨s, h1, h2, h3, h4⟩ := h j r hr
  exact ⟨s, h1, rdb_keptA h2 hk h3, h3, h4⟩
structure BkJ (M : Mem) (L : List Sd) (x : Nat) (i : Nat) (W : List Nat) (v : AV) (gs : List AV) (N : Mem) : Prop where
  le : i ≤ L.length
  kept : Kept [] M N
  nm : Nm N x W (runS L i) []
  low : ∀ b ∈ W, M.length ≤ b
  gr : GrA 1 0 N v gs
  gl : gs.length = i
  bl : ∀ b ∈ blkOf v, M.length ≤ b ∧ b ∉ W
  got : Got M L W v gs N
structure Bk2 (M : Mem) (L : List Sd) (x : Nat) (W : List Nat) (v : AV) (gs : List AV) (N : Mem) : Prop where
  kept : Kept [] M N
  nm : Nm N x W (runS L L.length) []
  low : ∀ b ∈ W, M.length ≤ b
  gr : GrA 1 0 N v gs
  bl : ∀ b ∈ blkOf v, b ∉ W
  got : Got M L W v gs N
set_option maxHeartbeats 4000000 in
theorem ans_NamesBack {m : Mem} {l : AV} {L : List Sd} (hl : RdFs m l L) : Ans Try.prog 4 [l] m fun r m' => r = .bool true ∧ Kept [] m m' := by
  refine ans_ret mixed ok4 ?_
  simp -implicitDefEqProofs (disch := (first | omega | (simp only [lenB, lowB_len, numB_len, nsumB_len] <;> omega) | fail)) only [admQ, lenB, lowB_len, numB_len, nsumB_len, aFill, AK.cls, implies_true, ↓reduceIte, reduceCtorEq, if_true, if_false, Nat.reduceAdd, Nat.reduceEqDiff, Nat.reduceMod, Nat.reduceLT, Nat.reduceLeDiff, Nat.reduceSub, Nat.reduceMul, Nat.reduceBEq, Int.reduceAdd, Int.reduceSub, Int.reduceMul, Int.reduceNeg, Int.reduceLT, Int.reduceLE, Int.reduceToNat, Int.reduceEq, Int.reduceBEq, c4, r4]
  refine (ans_ngreat hl).mono ?_
  rintro _ M ⟨c, rfl, hM, hc⟩
  subst hM
  cases c with
  | true =>
    simp -implicitDefEqProofs (disch := (first | omega | (simp only [lenB, lowB_len, numB_len, nsumB_len] <;> omega) | fail)) only [admQ, lenB, lowB_len, numB_len, nsumB_len, aFill, AK.cls, implies_true, ↓reduceIte, reduceCtorEq, if_true, if_false, Nat.reduceAdd, Nat.reduceEqDiff, Nat.reduceMod, Nat.reduceLT, Nat.reduceLeDiff, Nat.reduceSub, Nat.reduceMul, Nat.reduceBEq, Int.reduceAdd, Int.reduceSub, Int.reduceMul, Int.reduceNeg, Int.reduceLT, Int.reduceLE, Int.reduceToNat, Int.reduceEq, Int.reduceBEq]
    refine (ans_nworks _).mono ?_
    rintro _ m1 ⟨rfl, k1⟩
    simp -implicitDefEqProofs (disch := (first | omega | (simp only [lenB, lowB_len, numB_len, nsumB_len] <;> omega) | fail)) only [admQ, lenB, lowB_len, numB_len, nsumB_len, aFill, AK.cls, implies_true, ↓reduceIte, reduceCtorEq, if_true, if_false, Nat.reduceAdd, Nat.reduceEqDiff, Nat.reduceMod, Nat.reduceLT, Nat.reduceLeDiff, Nat.reduceSub, Nat.reduceMul, Nat.reduceBEq, Int.reduceAdd, Int.reduceSub, Int.reduceMul, Int.reduceNeg, Int.reduceLT, Int.reduceLE, Int.reduceToNat, Int.reduceEq, Int.reduceBEq]
    exact k1
  | false =>
    obtain ⟨hL, hle⟩ := hc rfl
    simp -implicitDefEqProofs (disch := (first | omega | (simp only [lenB, lowB_len, numB_len, nsumB_len] <;> omega) | fail)) only [admQ, lenB, lowB_len, numB_len, nsumB_len, aFill, AK.cls, implies_true, ↓reduceIte, reduceCtorEq, if_true, if_false, Nat.reduceAdd, Nat.reduceEqDiff, Nat.reduceMod, Nat.reduceLT, Nat.reduceLeDiff, Nat.reduceSub, Nat.reduceMul, Nat.reduceBEq, Int.reduceAdd, Int.reduceSub, Int.reduceMul, Int.reduceNeg, Int.reduceLT, Int.reduceLE, Int.reduceToNat, Int.reduceEq, Int.reduceBEq]
    refine (ans_nnew _).mono ?_
    rintro _ m1 ⟨px, W, rfl, k1, hN1, hW1⟩
    simp -implicitDefEqProofs (disch := (first | omega | (simp only [lenB, lowB_len, numB_len, nsumB_len] <;> omega) | fail)) only [admQ, lenB, lowB_len, numB_len, nsumB_len, aFill, AK.cls, implies_true, ↓reduceIte, reduceCtorEq, if_true, if_false, Nat.reduceAdd, Nat.reduceEqDiff, Nat.reduceMod, Nat.reduceLT, Nat.reduceLeDiff, Nat.reduceSub, Nat.reduceMul, Nat.reduceBEq, Int.reduceAdd, Int.reduceSub, Int.reduceMul, Int.reduceNeg, Int.reduceLT, Int.reduceLE, Int.reduceToNat, Int.reduceEq, Int.reduceBEq]
    refine LoopW.on (fun t : Nat × List Nat × AV × List AV => [(0, l), (3, .ptr px 0), (4, t.2.2.1), (5, .int .i64 t.1)]) (fun t => L.length - t.1)
      (fun t N => BkJ M L px t.1 t.2.1 t.2.2.1 t.2.2.2 N) ?_ (0, W, .nils, []) _ _ rfl ⟨Nat.zero_le _, k1, hN1, hW1, .nils .., rfl, by simp [blkOf], fun j r h => by simp at h⟩
    clear k1 hN1 hW1 W m1
    rintro ⟨i, W, v, gs⟩ N X ⟨hi, kk, hN, lw, gv, hgl, bv, got⟩ hX
    simp only at hi hN lw gv hgl bv got
    have hrl := runS_len L i
    by_cases hlt : i < L.length
    · have hlen := hl.len
      rcases hl with ⟨_, rfl⟩ | ⟨bl, cap, xs, rfl, hrow, hhl, hel⟩
      · simp at hlt
      obtain ⟨s, hs⟩ : ∃ s, L[i]? = some s := ⟨_, List.getElem?_eq_getElem hlt⟩
      obtain ⟨h, p, a1, a2, a3, a4, a5, a6⟩ := hel i s hs
      obtain ⟨hh1, hp1⟩ := hle s (List.mem_of_getElem? hs)
      have r0 := kk.row hrow (by simp)
      have hpl : ∀ q ∈ blkOf p, q < M.length := a6.blk_lt
      have hMN := kk.len
      simp -implicitDefEqProofs (disch := (first | omega | (simp only [lenB, lowB_len, numB_len, nsumB_len] <;> omega) | fail)) only [admQ, lenB, lowB_len, numB_len, nsumB_len, aFill, AK.cls, implies_true, ↓reduceIte, reduceCtorEq, if_true, if_false, Nat.reduceAdd, Nat.reduceEqDiff, Nat.reduceMod, Nat.reduceLT, Nat.reduceLeDiff, Nat.reduceSub, Nat.reduceMul, Nat.reduceBEq, Int.reduceAdd, Int.reduceSub, Int.reduceMul, Int.reduceNeg, Int.reduceLT, Int.reduceLE, Int.reduceToNat, Int.reduceEq, Int.reduceBEq, r0, a1, a2, a3, a4]
      refine (ans_nseal2 (s := s) hN (a5.kept0 kk) (a6.kept0 kk) (.low hpl lw) (by omega) ⟨by omega, by omega⟩).mono ?_
      rintro rs N1 ⟨W', k1, hN1, hW1, g1, d1, b1⟩
      rw [← runS_succ hs] at hN1
      have kk1 := kk.upon k1 lw
      have r1 := kk1.row hrow (by simp)
      have lw1 := low_new hW1 lw kk.len
      have t4 := take4 a1 a2 a3 a4
      have hvl : ∀ b ∈ blkOf v, b < N.length := gv.lt
      have gv1 := gv.kept k1 fun b hb => (bv b hb).2
      have got1 := got.kept k1
      simp -implicitDefEqProofs (disch := (first | omega | (simp only [lenB, lowB_len, numB_len, nsumB_len] <;> omega) | fail)) only [admQ, lenB, lowB_len, numB_len, nsumB_len, aFill, AK.cls, implies_true, ↓reduceIte, reduceCtorEq, if_true, if_false, Nat.reduceAdd, Nat.reduceEqDiff, Nat.reduceMod, Nat.reduceLT, Nat.reduceLeDiff, Nat.reduceSub, Nat.reduceMul, Nat.reduceBEq, Int.reduceAdd, Int.reduceSub, Int.reduceMul, Int.reduceNeg, Int.reduceLT, Int.reduceLE, Int.reduceToNat, Int.reduceEq, Int.reduceBEq, r1, a1, a2, a3, a4, t4]
      refine (ans_nmay (rd_one a5) s ⟨rfl, rfl⟩).mono ?_
      rintro _ N2 ⟨rfl, k2⟩
      have kk2 := kk1.trans k2
      have r2 := kk2.row hrow (by simp)
      have step : ∀ N3, Kept [] N1 N3 → ∃ v3 N4, aAppend 1 24 v (.sl N3.length 0 1 1 0) (N3 ++ [.row [rs] false]) = some (v3, N4) ∧ BkJ M L px (i + 1) W' v3 (gs ++ [rs]) N4 := by
        intro N3 k3
        have hl13 := k3.len
        have hl01 := k1.len
        obtain ⟨v3, N4, e4, g4, k4, a4, n4⟩ := (gv1.kept0 k3).push5 (bytes := 24) (by omega) (l := [rs]) rfl (by omega) (Nat.zero_le _)
        refine ⟨v3, N4, e4, by omega, (kk1.trans k3).upon k4 fun q hq => (bv q hq).1, (hN1.kept0 k3).kept k4 fun b hb hb2 => ?_, lw1, g4, by simp [hgl], fun b hb => ⟨by have := n4 b hb; omega, fun hw => by have := n4 b hb; have := hN1.lt b hw; omega⟩, fun j r hr => ?_⟩
        · rcases hW1 b hb with h1 | h1
          · exact (bv b hb2).2 h1
          · have := hvl b hb2; omega
        · by_cases hj : j < gs.length
          · rw [List.getElem?_append_left hj] at hr
            obtain ⟨s', h1, h2, h3, h4⟩ := got j r hr
            have hb2 := h2.blk_lt
            have h2' := (rdb_keptA h2 k1 h3).kept0 k3
            refine ⟨s', h1, rdb_keptA h2' k4 fun b hb => (h4 b hb).2, h3.new hW1 hb2, fun b hb => ⟨(h4 b hb).1, fun hb3 => ?_⟩⟩
            have := n4 b hb3
            have := hb2 b hb
            omega
          · rw [List.getElem?_append_right (by omega)] at hr
            have hj0 : j = i := by have := lt_of_get hr; simp at this; omega
            subst hj0
            rw [hgl, Nat.sub_self] at hr
            simp at hr
            subst hr
            refine ⟨s, hs, rdb_keptA (g1.rd.kept0 k3) k4 fun b hb hb2 => ?_, d1, fun b hb => ⟨by have := b1 b hb; omega, fun hb3 => ?_⟩⟩
            · have := b1 b hb; have := hvl b hb2; omega
            · have := n4 b hb3; have := b1 b hb; omega
      by_cases hm : mayP s
      · have hsl : (sealR (runS L i) s).length = s.2.2.2.length + 32 := by rw [sealR_may hm, nsealB_len]
        have hq : (((sealR (runS L i) s).length : Int) == ((s.2.2.2.length + 32 : Nat) : Int)) = true := by rw [hsl]; exact beq_self_eq_true _
        simp -implicitDefEqProofs (disch := (first | omega | (simp only [lenB, lowB_len, numB_len, nsumB_len] <;> omega) | fail)) only [admQ, lenB, lowB_len, numB_len, nsumB_len, aFill, AK.cls, implies_true, ↓reduceIte, reduceCtorEq, if_true, if_false, Nat.reduceAdd, Nat.reduceEqDiff, Nat.reduceMod, Nat.reduceLT, Nat.reduceLeDiff, Nat.reduceSub, Nat.reduceMul, Nat.reduceBEq, Int.reduceAdd, Int.reduceSub, Int.reduceMul, Int.reduceNeg, Int.reduceLT, Int.reduceLE, Int.reduceToNat, Int.reduceEq, Int.reduceBEq, dec_t hm, r1, r2, a1, a2, a3, a4, t4, (g1.kept0 k2).len, (a6.kept0 kk2).len, hq, beq_self_eq_true, Bool.not_true]
        refine (ans_nmay (rd_one a5) s ⟨rfl, rfl⟩).mono ?_
        rintro _ N3 ⟨rfl, k3⟩
        have r3 := (kk2.trans k3).row hrow (by simp)
        obtain ⟨v3, N4, e4, J⟩ := step N3 (k2.trans k3)
        simp -implicitDefEqProofs (disch := (first | omega | (simp only [lenB, lowB_len, numB_len, nsumB_len] <;> omega) | fail)) only [admQ, lenB, lowB_len, numB_len, nsumB_len, aFill, AK.cls, implies_true, ↓reduceIte, reduceCtorEq, if_true, if_false, Nat.reduceAdd, Nat.reduceEqDiff, Nat.reduceMod, Nat.reduceLT, Nat.reduceLeDiff, Nat.reduceSub, Nat.reduceMul, Nat.reduceBEq, Int.reduceAdd, Int.reduceSub, Int.reduceMul, Int.reduceNeg, Int.reduceLT, Int.reduceLE, Int.reduceToNat, Int.reduceEq, Int.reduceBEq, dec_t hm, r1, r2, r3, a1, a2, a3, a4, t4, Bool.not_true, (rd_one g1.rd).1, (rd_one g1.rd).2, e4]
        exact hX (i + 1, W', v3, gs ++ [rs]) _ _ rfl (by simp only; omega) J
      · have hsl : sealR (runS L i) s = [] := if_neg hm
        rw [hsl] at g1
        have hq : ((0 : Int) == ((s.2.2.2.length + 32 : Nat) : Int)) = false := by rw [beq_eq_false_iff_ne]; omega
        have hlen0 : pLen [rs] = some (.int .i64 0) := g1.len
        simp -implicitDefEqProofs (disch := (first | omega | (simp only [lenB, lowB_len, numB_len, nsumB_len] <;> omega) | fail)) only [admQ, lenB, lowB_len, numB_len, nsumB_len, aFill, AK.cls, implies_true, ↓reduceIte, reduceCtorEq, if_true, if_false, Nat.reduceAdd, Nat.reduceEqDiff, Nat.reduceMod, Nat.reduceLT, Nat.reduceLeDiff, Nat.reduceSub, Nat.reduceMul, Nat.reduceBEq, Int.reduceAdd, Int.reduceSub, Int.reduceMul, Int.reduceNeg, Int.reduceLT, Int.reduceLE, Int.reduceToNat, Int.reduceEq, Int.reduceBEq, dec_f hm, r1, r2, a1, a2, a3, a4, t4, hlen0, (a6.kept0 kk2).len, hq, beq_self_eq_true, Bool.not_true]
        refine (ans_nmay (rd_one a5) s ⟨rfl, rfl⟩).mono ?_
        rintro _ N3 ⟨rfl, k3⟩
        have r3 := (kk2.trans k3).row hrow (by simp)
        obtain ⟨v3, N4, e4, J⟩ := step N3 (k2.trans k3)
        simp -implicitDefEqProofs (disch := (first | omega | (simp only [lenB, lowB_len, numB_len, nsumB_len] <;> omega) | fail)) only [admQ, lenB, lowB_len, numB_len, nsumB_len, aFill, AK.cls, implies_true, ↓reduceIte, reduceCtorEq, if_true, if_false, Nat.reduceAdd, Nat.reduceEqDiff, Nat.reduceMod, Nat.reduceLT, Nat.reduceLeDiff, Nat.reduceSub, Nat.reduceMul, Nat.reduceBEq, Int.reduceAdd, Int.reduceSub, Int.reduceMul, Int.reduceNeg, Int.reduceLT, Int.reduceLE, Int.reduceToNat, Int.reduceEq, Int.reduceBEq, dec_f hm, r1, r2, r3, a1, a2, a3, a4, t4, hlen0, Bool.not_false, (rd_one g1.rd).1, (rd_one g1.rd).2, e4]
        exact hX (i + 1, W', v3, gs ++ [rs]) _ _ rfl (by simp only; omega) J
    · obtain rfl : i = L.length := by omega
      simp -implicitDefEqProofs (disch := (first | omega | (simp only [lenB, lowB_len, numB_len, nsumB_len] <;> omega) | fail)) only [admQ, lenB, lowB_len, numB_len, nsumB_len, aFill, AK.cls, implies_true, ↓reduceIte, reduceCtorEq, if_true, if_false, Nat.reduceAdd, Nat.reduceEqDiff, Nat.reduceMod, Nat.reduceLT, Nat.reduceLeDiff, Nat.reduceSub, Nat.reduceMul, Nat.reduceBEq, Int.reduceAdd, Int.reduceSub, Int.reduceMul, Int.reduceNeg, Int.reduceLT, Int.reduceLE, Int.reduceToNat, Int.reduceEq, Int.reduceBEq, hl.len]
      clear hX X hlt hi hrl
      refine LoopW.on (fun t : Nat × List Nat => [(0, l), (3, .ptr px 0), (4, v), (7, .int .i64 t.1)]) (fun t => L.length - t.1) (fun t N => t.1 ≤ L.length ∧ Bk2 M L px t.2 v gs N) ?_ (0, W) _ _ rfl ⟨Nat.zero_le _, kk, hN, lw, gv, fun b hb => (bv b hb).2, got⟩
      clear kk hN lw gv bv got N W
      rintro ⟨i, W⟩ N X ⟨hi, kk, hN, lw, gv, bv, got⟩ hX
      simp only at hi hN lw gv bv got
      have hrl := runS_len L L.length
      by_cases hlt : i < L.length
      · have hlen := hl.len
        rcases hl with ⟨_, rfl⟩ | ⟨bl, cap, xs, rfl, hrow, hhl, hel⟩
        · simp at hlt
        obtain ⟨bvv, nn, rfl, hn0, hnl, hb, -⟩ := gv.sl (by intro h0; rw [h0] at hgl; simp at hgl; omega)
        rw [Nat.mul_one] at hnl
        obtain rfl : nn = L.length := by omega
        obtain ⟨ri, hri⟩ : ∃ r, gs[i]? = some r := ⟨_, List.getElem?_eq_getElem (by omega)⟩
        obtain ⟨s, hs, h2i, hAi, hLi⟩ := got i ri hri
        obtain ⟨h, p, a1, a2, a3, a4, a5, a6⟩ := hel i s hs
        obtain ⟨hh1, hp1⟩ := hle s (List.mem_of_getElem? hs)
        have t4 := take4 a1 a2 a3 a4
        have hsl := sealR_len (runS L i) s
        have hpl : ∀ q ∈ blkOf p, q < M.length := a6.blk_lt
        simp -implicitDefEqProofs (disch := (first | omega | (simp only [lenB, lowB_len, numB_len, nsumB_len] <;> omega) | fail)) only [admQ, lenB, lowB_len, numB_len, nsumB_len, aFill, AK.cls, implies_true, ↓reduceIte, reduceCtorEq, if_true, if_false, Nat.reduceAdd, Nat.reduceEqDiff, Nat.reduceMod, Nat.reduceLT, Nat.reduceLeDiff, Nat.reduceSub, Nat.reduceMul, Nat.reduceBEq, Int.reduceAdd, Int.reduceSub, Int.reduceMul, Int.reduceNeg, Int.reduceLT, Int.reduceLE, Int.reduceToNat, Int.reduceEq, Int.reduceBEq]
        refine LoopW.on (fun k : Nat => [(0, .sl bl 0 L.length cap 0), (3, .ptr px 0), (4, .sl bvv 0 L.length L.length 1), (7, .int .i64 i), (8, .int .i64 k)]) (fun k => L.length - k) (fun k N' => k ≤ L.length ∧ Kept [] N N') ?_ 0 _ _ rfl ⟨by simp, .refl _ _⟩
        rintro k N1 Y ⟨hk, k1⟩ hY
        have kk1 := kk.trans k1
        have r1 := kk1.row hrow (by simp)
        have o1 := k1.own hb (by simp)
        by_cases hkt : k < L.length
        · obtain ⟨rk, hrk⟩ : ∃ r, gs[k]? = some r := ⟨_, List.getElem?_eq_getElem (by omega)⟩
          obtain ⟨t, ht, h2k, hAk, hLk⟩ := got k rk hrk
          obtain ⟨h', p', b1, b2, b3, b4, b5, b6⟩ := hel k t ht
          obtain ⟨hh1', hp1'⟩ := hle t (List.mem_of_getElem? ht)
          have t4' := take4 b1 b2 b3 b4
          have hsl' := sealR_len (runS L k) t
          simp -implicitDefEqProofs (disch := (first | omega | (simp only [lenB, lowB_len, numB_len, nsumB_len] <;> omega) | fail)) only [admQ, lenB, lowB_len, numB_len, nsumB_len, aFill, AK.cls, implies_true, ↓reduceIte, reduceCtorEq, if_true, if_false, Nat.reduceAdd, Nat.reduceEqDiff, Nat.reduceMod, Nat.reduceLT, Nat.reduceLeDiff, Nat.reduceSub, Nat.reduceMul, Nat.reduceBEq, Int.reduceAdd, Int.reduceSub, Int.reduceMul, Int.reduceNeg, Int.reduceLT, Int.reduceLE, Int.reduceToNat, Int.reduceEq, Int.reduceBEq, r1, a1, a2, a3, a4, b1, b2, b3, b4, t4, t4', hri, hrk]
          refine (ans_nmay (rd_one a5) s ⟨rfl, rfl⟩).mono ?_
          rintro _ N2 ⟨rfl, k2⟩
          have K2 := k1.trans k2
          have kk2 := kk.trans K2
          have r2 := kk2.row hrow (by simp)
          have o2 := K2.own hb (by simp)
          by_cases hm : mayP s
          · simp -implicitDefEqProofs (disch := (first | omega | (simp only [lenB, lowB_len, numB_len, nsumB_len] <;> omega) | fail)) only [admQ, lenB, lowB_len, numB_len, nsumB_len, aFill, AK.cls, implies_true, ↓reduceIte, reduceCtorEq, if_true, if_false, Nat.reduceAdd, Nat.reduceEqDiff, Nat.reduceMod, Nat.reduceLT, Nat.reduceLeDiff, Nat.reduceSub, Nat.reduceMul, Nat.reduceBEq, Int.reduceAdd, Int.reduceSub, Int.reduceMul, Int.reduceNeg, Int.reduceLT, Int.reduceLE, Int.reduceToNat, Int.reduceEq, Int.reduceBEq, dec_t hm, Bool.not_true, r2, rowOf_own o2, a1, a2, a3, a4, b1, b2, b3, b4, t4, t4', hri, hrk]
            refine (ans_nopen (hN.kept0 K2) (b5.kept0 kk2) (h2i.kept0 K2) (by omega) ⟨by omega, by omega⟩).mono ?_
            rintro r N3 ⟨k3, g3, g3'⟩
            have KN := K2.trans k3
            have KK := kk.trans KN
            have r3 := KK.row hrow (by simp)
            have o3 := KN.own hb (by simp)
            rw [sealR_may hm] at g3 g3'
            have hbk := back hs hm hlt (by omega) t.1 t.2.1 t.2.2.1
            by_cases he : t.1 = s.1
            · by_cases hn : t.2.1 = s.2.1
              · by_cases hhd : t.2.2.1 = s.2.2.1
                · obtain ⟨w, rfl, gw, -⟩ := g3 (hbk.mpr ⟨he, hn, hhd⟩)
                  rw [(nsealB_split (runS L i) s).1] at gw
                  simp -implicitDefEqProofs (disch := (first | omega | (simp only [lenB, lowB_len, numB_len, nsumB_len] <;> omega) | fail)) only [admQ, lenB, lowB_len, numB_len, nsumB_len, aFill, AK.cls, implies_true, ↓reduceIte, reduceCtorEq, if_true, if_false, Nat.reduceAdd, Nat.reduceEqDiff, Nat.reduceMod, Nat.reduceLT, Nat.reduceLeDiff, Nat.reduceSub, Nat.reduceMul, Nat.reduceBEq, Int.reduceAdd, Int.reduceSub, Int.reduceMul, Int.reduceNeg, Int.reduceLT, Int.reduceLE, Int.reduceToNat, Int.reduceEq, Int.reduceBEq, r2, rowOf_own o2, r3, rowOf_own o3, a1, a2, a3, a4, b1, b2, b3, b4, t4, t4', hri, hrk, beq_iff_eq.mpr he, beq_iff_eq.mpr hn]
                  refine (ans_samebytes (b5.kept0 KK) (a5.kept0 KK) (by omega)).mono ?_
                  rintro _ N4 ⟨rfl, hM⟩
                  subst hM
                  simp -implicitDefEqProofs (disch := (first | omega | (simp only [lenB, lowB_len, numB_len, nsumB_len] <;> omega) | fail)) only [admQ, lenB, lowB_len, numB_len, nsumB_len, aFill, AK.cls, implies_true, ↓reduceIte, reduceCtorEq, if_true, if_false, Nat.reduceAdd, Nat.reduceEqDiff, Nat.reduceMod, Nat.reduceLT, Nat.reduceLeDiff, Nat.reduceSub, Nat.reduceMul, Nat.reduceBEq, Int.reduceAdd, Int.reduceSub, Int.reduceMul, Int.reduceNeg, Int.reduceLT, Int.reduceLE, Int.reduceToNat, Int.reduceEq, Int.reduceBEq, r2, rowOf_own o2, r3, rowOf_own o3, a1, a2, a3, a4, b1, b2, b3, b4, t4, t4', hri, hrk, beq_iff_eq.mpr hhd, beq_self_eq_true, Bool.not_true, Bool.not_false]
                  refine (ans_samebytes gw.rd (a6.kept0 KK) (by omega)).mono ?_
                  rintro _ N4 ⟨rfl, hM⟩
                  subst hM
                  simp -implicitDefEqProofs (disch := (first | omega | (simp only [lenB, lowB_len, numB_len, nsumB_len] <;> omega) | fail)) only [admQ, lenB, lowB_len, numB_len, nsumB_len, aFill, AK.cls, implies_true, ↓reduceIte, reduceCtorEq, if_true, if_false, Nat.reduceAdd, Nat.reduceEqDiff, Nat.reduceMod, Nat.reduceLT, Nat.reduceLeDiff, Nat.reduceSub, Nat.reduceMul, Nat.reduceBEq, Int.reduceAdd, Int.reduceSub, Int.reduceMul, Int.reduceNeg, Int.reduceLT, Int.reduceLE, Int.reduceToNat, Int.reduceEq, Int.reduceBEq, r2, rowOf_own o2, r3, rowOf_own o3, a1, a2, a3, a4, b1, b2, b3, b4, t4, t4', hri, hrk, beq_self_eq_true, Bool.not_true, Bool.not_false]
                  refine (ans_nmay (rd_one b5) t ⟨rfl, rfl⟩).mono ?_
                  rintro _ N4 ⟨rfl, k4⟩
                  have kk4 := KK.trans k4
                  have r4 := kk4.row hrow (by simp)
                  have o4 := (KN.trans k4).own hb (by simp)
                  by_cases hmt : mayP t
                  · simp -implicitDefEqProofs (disch := (first | omega | (simp only [lenB, lowB_len, numB_len, nsumB_len] <;> omega) | fail)) only [admQ, lenB, lowB_len, numB_len, nsumB_len, aFill, AK.cls, implies_true, ↓reduceIte, reduceCtorEq, if_true, if_false, Nat.reduceAdd, Nat.reduceEqDiff, Nat.reduceMod, Nat.reduceLT, Nat.reduceLeDiff, Nat.reduceSub, Nat.reduceMul, Nat.reduceBEq, Int.reduceAdd, Int.reduceSub, Int.reduceMul, Int.reduceNeg, Int.reduceLT, Int.reduceLE, Int.reduceToNat, Int.reduceEq, Int.reduceBEq, dec_t hmt, r2, rowOf_own o2, r3, rowOf_own o3, r4, rowOf_own o4, a1, a2, a3, a4, b1, b2, b3, b4, t4, t4', hri, hrk, Bool.not_true, Bool.not_false]
                    have g4i := ((h2i.kept0 KN).kept0 k4)
                    have g4k := ((h2k.kept0 KN).kept0 k4)
                    refine (ans_samebytes g4i g4k (by omega)).mono ?_
                    rintro _ N5 ⟨rfl, hM⟩
                    subst hM
                    simp -implicitDefEqProofs (disch := (first | omega | (simp only [lenB, lowB_len, numB_len, nsumB_len] <;> omega) | fail)) only [admQ, lenB, lowB_len, numB_len, nsumB_len, aFill, AK.cls, implies_true, ↓reduceIte, reduceCtorEq, if_true, if_false, Nat.reduceAdd, Nat.reduceEqDiff, Nat.reduceMod, Nat.reduceLT, Nat.reduceLeDiff, Nat.reduceSub, Nat.reduceMul, Nat.reduceBEq, Int.reduceAdd, Int.reduceSub, Int.reduceMul, Int.reduceNeg, Int.reduceLT, Int.reduceLE, Int.reduceToNat, Int.reduceEq, Int.reduceBEq, dec_t hmt, r2, rowOf_own o2, r3, rowOf_own o3, r4, rowOf_own o4, a1, a2, a3, a4, b1, b2, b3, b4, t4, t4', hri, hrk, Bool.not_true, Bool.not_false]
                    refine (ans_nsame (a5.kept0 kk4) (a6.kept0 kk4) (b5.kept0 kk4) (b6.kept0 kk4) ⟨by omega, by omega⟩).mono ?_
                    rintro _ N6 ⟨rfl, k6⟩
                    have kk6 := kk4.trans k6
                    have r6 := kk6.row hrow (by simp)
                    have o6 := k6.own o4 (by simp)
                    by_cases hd : (sealR (runS L i) s == sealR (runS L k) t) = decide (s = t)
                    · simp -implicitDefEqProofs (disch := (first | omega | (simp only [lenB, lowB_len, numB_len, nsumB_len] <;> omega) | fail)) only [admQ, lenB, lowB_len, numB_len, nsumB_len, aFill, AK.cls, implies_true, ↓reduceIte, reduceCtorEq, if_true, if_false, Nat.reduceAdd, Nat.reduceEqDiff, Nat.reduceMod, Nat.reduceLT, Nat.reduceLeDiff, Nat.reduceSub, Nat.reduceMul, Nat.reduceBEq, Int.reduceAdd, Int.reduceSub, Int.reduceMul, Int.reduceNeg, Int.reduceLT, Int.reduceLE, Int.reduceToNat, Int.reduceEq, Int.reduceBEq, hd, beq_self_eq_true, dec_t hmt, r2, rowOf_own o2, r3, rowOf_own o3, r4, rowOf_own o4, r6, rowOf_own o6, a1, a2, a3, a4, b1, b2, b3, b4, t4, t4', hri, hrk, Bool.not_true, Bool.not_false]
                      exact hY (k + 1) _ _ rfl (by omega) ⟨by omega, (KN.trans k4).trans k6⟩
                    · have hd' : ((sealR (runS L i) s == sealR (runS L k) t) == decide (s = t)) = false := beq_eq_false_iff_ne.mpr hd
                      have hpp : ¬ s.2.2.2 = t.2.2.2 := fun hpp => hd (by
                        rw [sealR_may hm, sealR_may hmt, Bool.eq_iff_iff, beq_iff_eq, decide_eq_true_iff]
                        exact alike hs ht hm hmt hlt hkt (by omega) hpp)
                      simp -implicitDefEqProofs (disch := (first | omega | (simp only [lenB, lowB_len, numB_len, nsumB_len] <;> omega) | fail)) only [admQ, lenB, lowB_len, numB_len, nsumB_len, aFill, AK.cls, implies_true, ↓reduceIte, reduceCtorEq, if_true, if_false, Nat.reduceAdd, Nat.reduceEqDiff, Nat.reduceMod, Nat.reduceLT, Nat.reduceLeDiff, Nat.reduceSub, Nat.reduceMul, Nat.reduceBEq, Int.reduceAdd, Int.reduceSub, Int.reduceMul, Int.reduceNeg, Int.reduceLT, Int.reduceLE, Int.reduceToNat, Int.reduceEq, Int.reduceBEq, hd', dec_t hmt, r2, rowOf_own o2, r3, rowOf_own o3, r4, rowOf_own o4, r6, rowOf_own o6, a1, a2, a3, a4, b1, b2, b3, b4, t4, t4', hri, hrk, Bool.not_true, Bool.not_false]
                      refine (ans_samebytes (a6.kept0 kk6) (b6.kept0 kk6) (by omega)).mono ?_
                      rintro _ N7 ⟨rfl, hM⟩
                      subst hM
                      simp -implicitDefEqProofs (disch := (first | omega | (simp only [lenB, lowB_len, numB_len, nsumB_len] <;> omega) | fail)) only [admQ, lenB, lowB_len, numB_len, nsumB_len, aFill, AK.cls, implies_true, ↓reduceIte, reduceCtorEq, if_true, if_false, Nat.reduceAdd, Nat.reduceEqDiff, Nat.reduceMod, Nat.reduceLT, Nat.reduceLeDiff, Nat.reduceSub, Nat.reduceMul, Nat.reduceBEq, Int.reduceAdd, Int.reduceSub, Int.reduceMul, Int.reduceNeg, Int.reduceLT, Int.reduceLE, Int.reduceToNat, Int.reduceEq, Int.reduceBEq, beq_eq_false_iff_ne.mpr hpp, dec_t hmt, r2, rowOf_own o2, r3, rowOf_own o3, r4, rowOf_own o4, r6, rowOf_own o6, a1, a2, a3, a4, b1, b2, b3, b4, t4, t4', hri, hrk, Bool.not_true, Bool.not_false]
                      exact hY (k + 1) _ _ rfl (by omega) ⟨by omega, (KN.trans k4).trans k6⟩
                  · simp -implicitDefEqProofs (disch := (first | omega | (simp only [lenB, lowB_len, numB_len, nsumB_len] <;> omega) | fail)) only [admQ, lenB, lowB_len, numB_len, nsumB_len, aFill, AK.cls, implies_true, ↓reduceIte, reduceCtorEq, if_true, if_false, Nat.reduceAdd, Nat.reduceEqDiff, Nat.reduceMod, Nat.reduceLT, Nat.reduceLeDiff, Nat.reduceSub, Nat.reduceMul, Nat.reduceBEq, Int.reduceAdd, Int.reduceSub, Int.reduceMul, Int.reduceNeg, Int.reduceLT, Int.reduceLE, Int.reduceToNat, Int.reduceEq, Int.reduceBEq, dec_f hmt, r2, rowOf_own o2, r3, rowOf_own o3, r4, rowOf_own o4, a1, a2, a3, a4, b1, b2, b3, b4, t4, t4', hri, hrk, Bool.not_true, Bool.not_false]
                    exact hY (k + 1) _ _ rfl (by omega) ⟨by omega, KN.trans k4⟩
                · obtain rfl := g3' (fun h => hhd (hbk.mp h).2.2)
                  simp -implicitDefEqProofs (disch := (first | omega | (simp only [lenB, lowB_len, numB_len, nsumB_len] <;> omega) | fail)) only [admQ, lenB, lowB_len, numB_len, nsumB_len, aFill, AK.cls, implies_true, ↓reduceIte, reduceCtorEq, if_true, if_false, Nat.reduceAdd, Nat.reduceEqDiff, Nat.reduceMod, Nat.reduceLT, Nat.reduceLeDiff, Nat.reduceSub, Nat.reduceMul, Nat.reduceBEq, Int.reduceAdd, Int.reduceSub, Int.reduceMul, Int.reduceNeg, Int.reduceLT, Int.reduceLE, Int.reduceToNat, Int.reduceEq, Int.reduceBEq, r2, rowOf_own o2, r3, rowOf_own o3, a1, a2, a3, a4, b1, b2, b3, b4, t4, t4', hri, hrk, beq_iff_eq.mpr he, beq_iff_eq.mpr hn]
                  refine (ans_samebytes (b5.kept0 KK) (a5.kept0 KK) (by omega)).mono ?_
                  rintro _ N4 ⟨rfl, hM⟩
                  subst hM
                  simp -implicitDefEqProofs (disch := (first | omega | (simp only [lenB, lowB_len, numB_len, nsumB_len] <;> omega) | fail)) only [admQ, lenB, lowB_len, numB_len, nsumB_len, aFill, AK.cls, implies_true, ↓reduceIte, reduceCtorEq, if_true, if_false, Nat.reduceAdd, Nat.reduceEqDiff, Nat.reduceMod, Nat.reduceLT, Nat.reduceLeDiff, Nat.reduceSub, Nat.reduceMul, Nat.reduceBEq, Int.reduceAdd, Int.reduceSub, Int.reduceMul, Int.reduceNeg, Int.reduceLT, Int.reduceLE, Int.reduceToNat, Int.reduceEq, Int.reduceBEq, r2, rowOf_own o2, r3, rowOf_own o3, a1, a2, a3, a4, b1, b2, b3, b4, t4, t4', hri, hrk, beq_eq_false_iff_ne.mpr hhd, beq_self_eq_true, Bool.not_true, Bool.not_false]
                  refine (ans_nmay (rd_one b5) t ⟨rfl, rfl⟩).mono ?_
                  rintro _ N4 ⟨rfl, k4⟩
                  have kk4 := KK.trans k4
                  have r4 := kk4.row hrow (by simp)
                  have o4 := (KN.trans k4).own hb (by simp)
                  by_cases hmt : mayP t
                  · simp -implicitDefEqProofs (disch := (first | omega | (simp only [lenB, lowB_len, numB_len, nsumB_len] <;> omega) | fail)) only [admQ, lenB, lowB_len, numB_len, nsumB_len, aFill, AK.cls, implies_true, ↓reduceIte, reduceCtorEq, if_true, if_false, Nat.reduceAdd, Nat.reduceEqDiff, Nat.reduceMod, Nat.reduceLT, Nat.reduceLeDiff, Nat.reduceSub, Nat.reduceMul, Nat.reduceBEq, Int.reduceAdd, Int.reduceSub, Int.reduceMul, Int.reduceNeg, Int.reduceLT, Int.reduceLE, Int.reduceToNat, Int.reduceEq, Int.reduceBEq, dec_t hmt, r2, rowOf_own o2, r3, rowOf_own o3, r4, rowOf_own o4, a1, a2, a3, a4, b1, b2, b3, b4, t4, t4', hri, hrk, Bool.not_true, Bool.not_false]
                    have g4i := ((h2i.kept0 KN).kept0 k4)
                    have g4k := ((h2k.kept0 KN).kept0 k4)
                    refine (ans_samebytes g4i g4k (by omega)).mono ?_
                    rintro _ N5 ⟨rfl, hM⟩
                    subst hM
                    simp -implicitDefEqProofs (disch := (first | omega | (simp only [lenB, lowB_len, numB_len, nsumB_len] <;> omega) | fail)) only [admQ, lenB, lowB_len, numB_len, nsumB_len, aFill, AK.cls, implies_true, ↓reduceIte, reduceCtorEq, if_true, if_false, Nat.reduceAdd, Nat.reduceEqDiff, Nat.reduceMod, Nat.reduceLT, Nat.reduceLeDiff, Nat.reduceSub, Nat.reduceMul, Nat.reduceBEq, Int.reduceAdd, Int.reduceSub, Int.reduceMul, Int.reduceNeg, Int.reduceLT, Int.reduceLE, Int.reduceToNat, Int.reduceEq, Int.reduceBEq, dec_t hmt, r2, rowOf_own o2, r3, rowOf_own o3, r4, rowOf_own o4, a1, a2, a3, a4, b1, b2, b3, b4, t4, t4', hri, hrk, Bool.not_true, Bool.not_false]
                    refine (ans_nsame (a5.kept0 kk4) (a6.kept0 kk4) (b5.kept0 kk4) (b6.kept0 kk4) ⟨by omega, by omega⟩).mono ?_
                    rintro _ N6 ⟨rfl, k6⟩
                    have kk6 := kk4.trans k6
                    have r6 := kk6.row hrow (by simp)
                    have o6 := k6.own o4 (by simp)
                    by_cases hd : (sealR (runS L i) s == sealR (runS L k) t) = decide (s = t)
                    · simp -implicitDefEqProofs (disch := (first | omega | (simp only [lenB, lowB_len, numB_len, nsumB_len] <;> omega) | fail)) only [admQ, lenB, lowB_len, numB_len, nsumB_len, aFill, AK.cls, implies_true, ↓reduceIte, reduceCtorEq, if_true, if_false, Nat.reduceAdd, Nat.reduceEqDiff, Nat.reduceMod, Nat.reduceLT, Nat.reduceLeDiff, Nat.reduceSub, Nat.reduceMul, Nat.reduceBEq, Int.reduceAdd, Int.reduceSub, Int.reduceMul, Int.reduceNeg, Int.reduceLT, Int.reduceLE, Int.reduceToNat, Int.reduceEq, Int.reduceBEq, hd, beq_self_eq_true, dec_t hmt, r2, rowOf_own o2, r3, rowOf_own o3, r4, rowOf_own o4, r6, rowOf_own o6, a1, a2, a3, a4, b1, b2, b3, b4, t4, t4', hri, hrk, Bool.not_true, Bool.not_false]
                      exact hY (k + 1) _ _ rfl (by omega) ⟨by omega, (KN.trans k4).trans k6⟩
                    · have hd' : ((sealR (runS L i) s == sealR (runS L k) t) == decide (s = t)) = false := beq_eq_false_iff_ne.mpr hd
                      have hpp : ¬ s.2.2.2 = t.2.2.2 := fun hpp => hd (by
                        rw [sealR_may hm, sealR_may hmt, Bool.eq_iff_iff, beq_iff_eq, decide_eq_true_iff]
                        exact alike hs ht hm hmt hlt hkt (by omega) hpp)
                      simp -implicitDefEqProofs (disch := (first | omega | (simp only [lenB, lowB_len, numB_len, nsumB_len] <;> omega) | fail)) only [admQ, lenB, lowB_len, numB_len, nsumB_len, aFill, AK.cls, implies_true, ↓reduceIte, reduceCtorEq, if_true, if_false, Nat.reduceAdd, Nat.reduceEqDiff, Nat.reduceMod, Nat.reduceLT, Nat.reduceLeDiff, Nat.reduceSub, Nat.reduceMul, Nat.reduceBEq, Int.reduceAdd, Int.reduceSub, Int.reduceMul, Int.reduceNeg, Int.reduceLT, Int.reduceLE, Int.reduceToNat, Int.reduceEq, Int.reduceBEq, hd', dec_t hmt, r2, rowOf_own o2, r3, rowOf_own o3, r4, rowOf_own o4, r6, rowOf_own o6, a1, a2, a3, a4, b1, b2, b3, b4, t4, t4', hri, hrk, Bool.not_true, Bool.not_false]
                      refine (ans_samebytes (a6.kept0 kk6) (b6.kept0 kk6) (by omega)).mono ?_
                      rintro _ N7 ⟨rfl, hM⟩
                      subst hM
                      simp -implicitDefEqProofs (disch := (first | omega | (simp only [lenB, lowB_len, numB_len, nsumB_len] <;> omega) | fail)) only [admQ, lenB, lowB_len, numB_len, nsumB_len, aFill, AK.cls, implies_true, ↓reduceIte, reduceCtorEq, if_true, if_false, Nat.reduceAdd, Nat.reduceEqDiff, Nat.reduceMod, Nat.reduceLT, Nat.reduceLeDiff, Nat.reduceSub, Nat.reduceMul, Nat.reduceBEq, Int.reduceAdd, Int.reduceSub, Int.reduceMul, Int.reduceNeg, Int.reduceLT, Int.reduceLE, Int.reduceToNat, Int.reduceEq, Int.reduceBEq, beq_eq_false_iff_ne.mpr hpp, dec_t hmt, r2, rowOf_own o2, r3, rowOf_own o3, r4, rowOf_own o4, r6, rowOf_own o6, a1, a2, a3, a4, b1, b2, b3, b4, t4, t4', hri, hrk, Bool.not_true, Bool.not_false]
                      exact hY (k + 1) _ _ rfl (by omega) ⟨by omega, (KN.trans k4).trans k6⟩
                  · simp -implicitDefEqProofs (disch := (first | omega | (simp only [lenB, lowB_len, numB_len, nsumB_len] <;> omega) | fail)) only [admQ, lenB, lowB_len, numB_len, nsumB_len, aFill, AK.cls, implies_true, ↓reduceIte, reduceCtorEq, if_true, if_false, Nat.reduceAdd, Nat.reduceEqDiff, Nat.reduceMod, Nat.reduceLT, Nat.reduceLeDiff, Nat.reduceSub, Nat.reduceMul, Nat.reduceBEq, Int.reduceAdd, Int.reduceSub, Int.reduceMul, Int.reduceNeg, Int.reduceLT, Int.reduceLE, Int.reduceToNat, Int.reduceEq, Int.reduceBEq, dec_f hmt, r2, rowOf_own o2, r3, rowOf_own o3, r4, rowOf_own o4, a1, a2, a3, a4, b1, b2, b3, b4, t4, t4', hri, hrk, Bool.not_true, Bool.not_false]
                    exact hY (k + 1) _ _ rfl (by omega) ⟨by omega, KN.trans k4⟩
              · obtain rfl := g3' (fun h => hn (hbk.mp h).2.1)
                simp -implicitDefEqProofs (disch := (first | omega | (simp only [lenB, lowB_len, numB_len, nsumB_len] <;> omega) | fail)) only [admQ, lenB, lowB_len, numB_len, nsumB_len, aFill, AK.cls, implies_true, ↓reduceIte, reduceCtorEq, if_true, if_false, Nat.reduceAdd, Nat.reduceEqDiff, Nat.reduceMod, Nat.reduceLT, Nat.reduceLeDiff, Nat.reduceSub, Nat.reduceMul, Nat.reduceBEq, Int.reduceAdd, Int.reduceSub, Int.reduceMul, Int.reduceNeg, Int.reduceLT, Int.reduceLE, Int.reduceToNat, Int.reduceEq, Int.reduceBEq, r2, rowOf_own o2, r3, rowOf_own o3, a1, a2, a3, a4, b1, b2, b3, b4, t4, t4', hri, hrk, beq_iff_eq.mpr he, beq_eq_false_iff_ne.mpr hn, beq_self_eq_true, Bool.not_true, Bool.not_false]
                refine (ans_nmay (rd_one b5) t ⟨rfl, rfl⟩).mono ?_
                rintro _ N4 ⟨rfl, k4⟩
                have kk4 := KK.trans k4
                have r4 := kk4.row hrow (by simp)
                have o4 := (KN.trans k4).own hb (by simp)
                by_cases hmt : mayP t
                · simp -implicitDefEqProofs (disch := (first | omega | (simp only [lenB, lowB_len, numB_len, nsumB_len] <;> omega) | fail)) only [admQ, lenB, lowB_len, numB_len, nsumB_len, aFill, AK.cls, implies_true, ↓reduceIte, reduceCtorEq, if_true, if_false, Nat.reduceAdd, Nat.reduceEqDiff, Nat.reduceMod, Nat.reduceLT, Nat.reduceLeDiff, Nat.reduceSub, Nat.reduceMul, Nat.reduceBEq, Int.reduceAdd, Int.reduceSub, Int.reduceMul, Int.reduceNeg, Int.reduceLT, Int.reduceLE, Int.reduceToNat, Int.reduceEq, Int.reduceBEq, dec_t hmt, r2, rowOf_own o2, r3, rowOf_own o3, r4, rowOf_own o4, a1, a2, a3, a4, b1, b2, b3, b4, t4, t4', hri, hrk, Bool.not_true, Bool.not_false]
                  have g4i := ((h2i.kept0 KN).kept0 k4)
                  have g4k := ((h2k.kept0 KN).kept0 k4)
                  refine (ans_samebytes g4i g4k (by omega)).mono ?_
                  rintro _ N5 ⟨rfl, hM⟩
                  subst hM
                  simp -implicitDefEqProofs (disch := (first | omega | (simp only [lenB, lowB_len, numB_len, nsumB_len] <;> omega) | fail)) only [admQ, lenB, lowB_len, numB_len, nsumB_len, aFill, AK.cls, implies_true, ↓reduceIte, reduceCtorEq, if_true, if_false, Nat.reduceAdd, Nat.reduceEqDiff, Nat.reduceMod, Nat.reduceLT, Nat.reduceLeDiff, Nat.reduceSub, Nat.reduceMul, Nat.reduceBEq, Int.reduceAdd, Int.reduceSub, Int.reduceMul, Int.reduceNeg, Int.reduceLT, Int.reduceLE, Int.reduceToNat, Int.reduceEq, Int.reduceBEq, dec_t hmt, r2, rowOf_own o2, r3, rowOf_own o3, r4, rowOf_own o4, a1, a2, a3, a4, b1, b2, b3, b4, t4, t4', hri, hrk, Bool.not_true, Bool.not_false]
                  refine (ans_nsame (a5.kept0 kk4) (a6.kept0 kk4) (b5.kept0 kk4) (b6.kept0 kk4) ⟨by omega, by omega⟩).mono ?_
                  rintro _ N6 ⟨rfl, k6⟩
                  have kk6 := kk4.trans k6
                  have r6 := kk6.row hrow (by simp)
                  have o6 := k6.own o4 (by simp)
                  by_cases hd : (sealR (runS L i) s == sealR (runS L k) t) = decide (s = t)
                  · simp -implicitDefEqProofs (disch := (first | omega | (simp only [lenB, lowB_len, numB_len, nsumB_len] <;> omega) | fail)) only [admQ, lenB, lowB_len, numB_len, nsumB_len, aFill, AK.cls, implies_true, ↓reduceIte, reduceCtorEq, if_true, if_false, Nat.reduceAdd, Nat.reduceEqDiff, Nat.reduceMod, Nat.reduceLT, Nat.reduceLeDiff, Nat.reduceSub, Nat.reduceMul, Nat.reduceBEq, Int.reduceAdd, Int.reduceSub, Int.reduceMul, Int.reduceNeg, Int.reduceLT, Int.reduceLE, Int.reduceToNat, Int.reduceEq, Int.reduceBEq, hd, beq_self_eq_true, dec_t hmt, r2, rowOf_own o2, r3, rowOf_own o3, r4, rowOf_own o4, r6, rowOf_own o6, a1, a2, a3, a4, b1, b2, b3, b4, t4, t4', hri, hrk, Bool.not_true, Bool.not_false]
                    exact hY (k + 1) _ _ rfl (by omega) ⟨by omega, (KN.trans k4).trans k6⟩
                  · have hd' : ((sealR (runS L i) s == sealR (runS L k) t) == decide (s = t)) = false := beq_eq_false_iff_ne.mpr hd
                    have hpp : ¬ s.2.2.2 = t.2.2.2 := fun hpp => hd (by
                      rw [sealR_may hm, sealR_may hmt, Bool.eq_iff_iff, beq_iff_eq, decide_eq_true_iff]
                      exact alike hs ht hm hmt hlt hkt (by omega) hpp)
                    simp -implicitDefEqProofs (disch := (first | omega | (simp only [lenB, lowB_len, numB_len, nsumB_len] <;> omega) | fail)) only [admQ, lenB, lowB_len, numB_len, nsumB_len, aFill, AK.cls, implies_true, ↓reduceIte, reduceCtorEq, if_true, if_false, Nat.reduceAdd, Nat.reduceEqDiff, Nat.reduceMod, Nat.reduceLT, Nat.reduceLeDiff, Nat.reduceSub, Nat.reduceMul, Nat.reduceBEq, Int.reduceAdd, Int.reduceSub, Int.reduceMul, Int.reduceNeg, Int.reduceLT, Int.reduceLE, Int.reduceToNat, Int.reduceEq, Int.reduceBEq, hd', dec_t hmt, r2, rowOf_own o2, r3, rowOf_own o3, r4, rowOf_own o4, r6, rowOf_own o6, a1, a2, a3, a4, b1, b2, b3, b4, t4, t4', hri, hrk, Bool.not_true, Bool.not_false]
                    refine (ans_samebytes (a6.kept0 kk6) (b6.kept0 kk6) (by omega)).mono ?_
                    rintro _ N7 ⟨rfl, hM⟩
                    subst hM
                    simp -implicitDefEqProofs (disch := (first | omega | (simp only [lenB, lowB_len, numB_len, nsumB_len] <;> omega) | fail)) only [admQ, lenB, lowB_len, numB_len, nsumB_len, aFill, AK.cls, implies_true, ↓reduceIte, reduceCtorEq, if_true, if_false, Nat.reduceAdd, Nat.reduceEqDiff, Nat.reduceMod, Nat.reduceLT, Nat.reduceLeDiff, Nat.reduceSub, Nat.reduceMul, Nat.reduceBEq, Int.reduceAdd, Int.reduceSub, Int.reduceMul, Int.reduceNeg, Int.reduceLT, Int.reduceLE, Int.reduceToNat, Int.reduceEq, Int.reduceBEq, beq_eq_false_iff_ne.mpr hpp, dec_t hmt, r2, rowOf_own o2, r3, rowOf_own o3, r4, rowOf_own o4, r6, rowOf_own o6, a1, a2, a3, a4, b1, b2, b3, b4, t4, t4', hri, hrk, Bool.not_true, Bool.not_false]
                    exact hY (k + 1) _ _ rfl (by omega) ⟨by omega, (KN.trans k4).trans k6⟩
                · simp -implicitDefEqProofs (disch := (first | omega | (simp only [lenB, lowB_len, numB_len, nsumB_len] <;> omega) | fail)) only [admQ, lenB, lowB_len, numB_len, nsumB_len, aFill, AK.cls, implies_true, ↓reduceIte, reduceCtorEq, if_true, if_false, Nat.reduceAdd, Nat.reduceEqDiff, Nat.reduceMod, Nat.reduceLT, Nat.reduceLeDiff, Nat.reduceSub, Nat.reduceMul, Nat.reduceBEq, Int.reduceAdd, Int.reduceSub, Int.reduceMul, Int.reduceNeg, Int.reduceLT, Int.reduceLE, Int.reduceToNat, Int.reduceEq, Int.reduceBEq, dec_f hmt, r2, rowOf_own o2, r3, rowOf_own o3, r4, rowOf_own o4, a1, a2, a3, a4, b1, b2, b3, b4, t4, t4', hri, hrk, Bool.not_true, Bool.not_false]
                  exact hY (k + 1) _ _ rfl (by omega) ⟨by omega, KN.trans k4⟩
            · obtain rfl := g3' (fun h => he (hbk.mp h).1)
              simp -implicitDefEqProofs (disch := (first | omega | (simp only [lenB, lowB_len, numB_len, nsumB_len] <;> omega) | fail)) only [admQ, lenB, lowB_len, numB_len, nsumB_len, aFill, AK.cls, implies_true, ↓reduceIte, reduceCtorEq, if_true, if_false, Nat.reduceAdd, Nat.reduceEqDiff, Nat.reduceMod, Nat.reduceLT, Nat.reduceLeDiff, Nat.reduceSub, Nat.reduceMul, Nat.reduceBEq, Int.reduceAdd, Int.reduceSub, Int.reduceMul, Int.reduceNeg, Int.reduceLT, Int.reduceLE, Int.reduceToNat, Int.reduceEq, Int.reduceBEq, r2, rowOf_own o2, r3, rowOf_own o3, a1, a2, a3, a4, b1, b2, b3, b4, t4, t4', hri, hrk, beq_eq_false_iff_ne.mpr he, beq_self_eq_true, Bool.not_true, Bool.not_false]
              refine (ans_nmay (rd_one b5) t ⟨rfl, rfl⟩).mono ?_
              rintro _ N4 ⟨rfl, k4⟩
              have kk4 := KK.trans k4
              have r4 := kk4.row hrow (by simp)
              have o4 := (KN.trans k4).own hb (by simp)
              by_cases hmt : mayP t
              · simp -implicitDefEqProofs (disch := (first | omega | (simp only [lenB, lowB_len, numB_len, nsumB_len] <;> omega) | fail)) only [admQ, lenB, lowB_len, numB_len, nsumB_len, aFill, AK.cls, implies_true, ↓reduceIte, reduceCtorEq, if_true, if_false, Nat.reduceAdd, Nat.reduceEqDiff, Nat.reduceMod, Nat.reduceLT, Nat.reduceLeDiff, Nat.reduceSub, Nat.reduceMul, Nat.reduceBEq, Int.reduceAdd, Int.reduceSub, Int.reduceMul, Int.reduceNeg, Int.reduceLT, Int.reduceLE, Int.reduceToNat, Int.reduceEq, Int.reduceBEq, dec_t hmt, r2, rowOf_own o2, r3, rowOf_own o3, r4, rowOf_own o4, a1, a2, a3, a4, b1, b2, b3, b4, t4, t4', hri, hrk, Bool.not_true, Bool.not_false]
                have g4i := ((h2i.kept0 KN).kept0 k4)
                have g4k := ((h2k.kept0 KN).kept0 k4)
                refine (ans_samebytes g4i g4k (by omega)).mono ?_
                rintro _ N5 ⟨rfl, hM⟩
                subst hM
                simp -implicitDefEqProofs (disch := (first | omega | (simp only [lenB, lowB_len, numB_len, nsumB_len] <;> omega) | fail)) only [admQ, lenB, lowB_len, numB_len, nsumB_len, aFill, AK.cls, implies_true, ↓reduceIte, reduceCtorEq, if_true, if_false, Nat.reduceAdd, Nat.reduceEqDiff, Nat.reduceMod, Nat.reduceLT, Nat.reduceLeDiff, Nat.reduceSub, Nat.reduceMul, Nat.reduceBEq, Int.reduceAdd, Int.reduceSub, Int.reduceMul, Int.reduceNeg, Int.reduceLT, Int.reduceLE, Int.reduceToNat, Int.reduceEq, Int.reduceBEq, dec_t hmt, r2, rowOf_own o2, r3, rowOf_own o3, r4, rowOf_own o4, a1, a2, a3, a4, b1, b2, b3, b4, t4, t4', hri, hrk, Bool.not_true, Bool.not_false]
                refine (ans_nsame (a5.kept0 kk4) (a6.kept0 kk4) (b5.kept0 kk4) (b6.kept0 kk4) ⟨by omega, by omega⟩).mono ?_
                rintro _ N6 ⟨rfl, k6⟩
                have kk6 := kk4.trans k6
                have r6 := kk6.row hrow (by simp)
                have o6 := k6.own o4 (by simp)
                by_cases hd : (sealR (runS L i) s == sealR (runS L k) t) = decide (s = t)
                · simp -implicitDefEqProofs (disch := (first | omega | (simp only [lenB, lowB_len, numB_len, nsumB_len] <;> omega) | fail)) only [admQ, lenB, lowB_len, numB_len, nsumB_len, aFill, AK.cls, implies_true, ↓reduceIte, reduceCtorEq, if_true, if_false, Nat.reduceAdd, Nat.reduceEqDiff, Nat.reduceMod, Nat.reduceLT, Nat.reduceLeDiff, Nat.reduceSub, Nat.reduceMul, Nat.reduceBEq, Int.reduceAdd, Int.reduceSub, Int.reduceMul, Int.reduceNeg, Int.reduceLT, Int.reduceLE, Int.reduceToNat, Int.reduceEq, Int.reduceBEq, hd, beq_self_eq_true, dec_t hmt, r2, rowOf_own o2, r3, rowOf_own o3, r4, rowOf_own o4, r6, rowOf_own o6, a1, a2, a3, a4, b1, b2, b3, b4, t4, t4', hri, hrk, Bool.not_true, Bool.not_false]
                  exact hY (k + 1) _ _ rfl (by omega) ⟨by omega, (KN.trans k4).trans k6⟩
                · have hd' : ((sealR (runS L i) s == sealR (runS L k) t) == decide (s = t)) = false := beq_eq_false_iff_ne.mpr hd
                  have hpp : ¬ s.2.2.2 = t.2.2.2 := fun hpp => hd (by
                    rw [sealR_may hm, sealR_may hmt, Bool.eq_iff_iff, beq_iff_eq, decide_eq_true_iff]
                    exact alike hs ht hm hmt hlt hkt (by omega) hpp)
                  simp -implicitDefEqProofs (disch := (first | omega | (simp only [lenB, lowB_len, numB_len, nsumB_len] <;> omega) | fail)) only [admQ, lenB, lowB_len, numB_len, nsumB_len, aFill, AK.cls, implies_true, ↓reduceIte, reduceCtorEq, if_true, if_false, Nat.reduceAdd, Nat.reduceEqDiff, Nat.reduceMod, Nat.reduceLT, Nat.reduceLeDiff, Nat.reduceSub, Nat.reduceMul, Nat.reduceBEq, Int.reduceAdd, Int.reduceSub, Int.reduceMul, Int.reduceNeg, Int.reduceLT, Int.reduceLE, Int.reduceToNat, Int.reduceEq, Int.reduceBEq, hd', dec_t hmt, r2, rowOf_own o2, r3, rowOf_own o3, r4, rowOf_own o4, r6, rowOf_own o6, a1, a2, a3, a4, b1, b2, b3, b4, t4, t4', hri, hrk, Bool.not_true, Bool.not_false]
                  refine (ans_samebytes (a6.kept0 kk6) (b6.kept0 kk6) (by omega)).mono ?_
                  rintro _ N7 ⟨rfl, hM⟩
                  subst hM
                  simp -implicitDefEqProofs (disch := (first | omega | (simp only [lenB, lowB_len, numB_len, nsumB_len] <;> omega) | fail)) only [admQ, lenB, lowB_len, numB_len, nsumB_len, aFill, AK.cls, implies_true, ↓reduceIte, reduceCtorEq, if_true, if_false, Nat.reduceAdd, Nat.reduceEqDiff, Nat.reduceMod, Nat.reduceLT, Nat.reduceLeDiff, Nat.reduceSub, Nat.reduceMul, Nat.reduceBEq, Int.reduceAdd, Int.reduceSub, Int.reduceMul, Int.reduceNeg, Int.reduceLT, Int.reduceLE, Int.reduceToNat, Int.reduceEq, Int.reduceBEq, beq_eq_false_iff_ne.mpr hpp, dec_t hmt, r2, rowOf_own o2, r3, rowOf_own o3, r4, rowOf_own o4, r6, rowOf_own o6, a1, a2, a3, a4, b1, b2, b3, b4, t4, t4', hri, hrk, Bool.not_true, Bool.not_false]
                  exact hY (k + 1) _ _ rfl (by omega) ⟨by omega, (KN.trans k4).trans k6⟩
              · simp -implicitDefEqProofs (disch := (first | omega | (simp only [lenB, lowB_len, numB_len, nsumB_len] <;> omega) | fail)) only [admQ, lenB, lowB_len, numB_len, nsumB_len, aFill, AK.cls, implies_true, ↓reduceIte, reduceCtorEq, if_true, if_false, Nat.reduceAdd, Nat.reduceEqDiff, Nat.reduceMod, Nat.reduceLT, Nat.reduceLeDiff, Nat.reduceSub, Nat.reduceMul, Nat.reduceBEq, Int.reduceAdd, Int.reduceSub, Int.reduceMul, Int.reduceNeg, Int.reduceLT, Int.reduceLE, Int.reduceToNat, Int.reduceEq, Int.reduceBEq, dec_f hmt, r2, rowOf_own o2, r3, rowOf_own o3, r4, rowOf_own o4, a1, a2, a3, a4, b1, b2, b3, b4, t4, t4', hri, hrk, Bool.not_true, Bool.not_false]
                exact hY (k + 1) _ _ rfl (by omega) ⟨by omega, KN.trans k4⟩
          · simp -implicitDefEqProofs (disch := (first | omega | (simp only [lenB, lowB_len, numB_len, nsumB_len] <;> omega) | fail)) only [admQ, lenB, lowB_len, numB_len, nsumB_len, aFill, AK.cls, implies_true, ↓reduceIte, reduceCtorEq, if_true, if_false, Nat.reduceAdd, Nat.reduceEqDiff, Nat.reduceMod, Nat.reduceLT, Nat.reduceLeDiff, Nat.reduceSub, Nat.reduceMul, Nat.reduceBEq, Int.reduceAdd, Int.reduceSub, Int.reduceMul, Int.reduceNeg, Int.reduceLT, Int.reduceLE, Int.reduceToNat, Int.reduceEq, Int.reduceBEq, dec_f hm, Bool.not_false]
            exact hY (k + 1) _ _ rfl (by omega) ⟨by omega, K2⟩
        · obtain rfl : k = L.length := by omega
          simp -implicitDefEqProofs (disch := (first | omega | (simp only [lenB, lowB_len, numB_len, nsumB_len] <;> omega) | fail)) only [admQ, lenB, lowB_len, numB_len, nsumB_len, aFill, AK.cls, implies_true, ↓reduceIte, reduceCtorEq, if_true, if_false, Nat.reduceAdd, Nat.reduceEqDiff, Nat.reduceMod, Nat.reduceLT, Nat.reduceLeDiff, Nat.reduceSub, Nat.reduceMul, Nat.reduceBEq, Int.reduceAdd, Int.reduceSub, Int.reduceMul, Int.reduceNeg, Int.reduceLT, Int.reduceLE, Int.reduceToNat, Int.reduceEq, Int.reduceBEq, r1, a1, a2, a3, a4, hri, rowOf_own o1]
          refine (ans_nseal2 (s := s) (hN.kept0 k1) (a5.kept0 kk1) (a6.kept0 kk1) (.low hpl lw) (by omega) ⟨by omega, by omega⟩).mono ?_
          rintro rs N2 ⟨W', k2, hN2, hW2, g2, d2, c2⟩
          have kk2 := kk1.upon k2 lw
          have r2 := kk2.row hrow (by simp)
          have o2 := k2.own o1 (bv bvv (by simp [blkOf]))
          have hsame : sealS2 (runS L L.length) s = runS L L.length ∧ sealR (runS L L.length) s = sealR (runS L i) s := by
            by_cases hm : mayP s
            · have hf := runS_fidx hs hm L.length hlt
              have hp := addN_in hf
              have hpl := posN_le s (runS L i)
              refine ⟨by rw [sealS2, if_pos hm]; exact hp.1, ?_⟩
              rw [sealR_may hm, sealR_may hm, nsealB, nsealB, hp.2, show posN s (runS L i) - 1 + 1 = posN s (runS L i) by omega]
            · exact ⟨if_neg hm, by rw [sealR, sealR, if_neg hm, if_neg hm]⟩
          rw [hsame.1] at hN2
          rw [hsame.2] at g2
          have got2 : Got M L W (.sl bvv 0 L.length L.length 1) gs N2 := (got.kept (k1.more (by simp))).kept k2
          simp -implicitDefEqProofs (disch := (first | omega | (simp only [lenB, lowB_len, numB_len, nsumB_len] <;> omega) | fail)) only [admQ, lenB, lowB_len, numB_len, nsumB_len, aFill, AK.cls, implies_true, ↓reduceIte, reduceCtorEq, if_true, if_false, Nat.reduceAdd, Nat.reduceEqDiff, Nat.reduceMod, Nat.reduceLT, Nat.reduceLeDiff, Nat.reduceSub, Nat.reduceMul, Nat.reduceBEq, Int.reduceAdd, Int.reduceSub, Int.reduceMul, Int.reduceNeg, Int.reduceLT, Int.reduceLE, Int.reduceToNat, Int.reduceEq, Int.reduceBEq, r1, r2, a1, a2, a3, a4, hri, rowOf_own o1, rowOf_own o2]
          refine (ans_samebytes g2.rd (rdb_keptA (h2i.kept0 k1) k2 hAi) (by omega)).mono ?_
          rintro _ N3 ⟨rfl, hM⟩
          subst hM
          simp -implicitDefEqProofs (disch := (first | omega | (simp only [lenB, lowB_len, numB_len, nsumB_len] <;> omega) | fail)) only [admQ, lenB, lowB_len, numB_len, nsumB_len, aFill, AK.cls, implies_true, ↓reduceIte, reduceCtorEq, if_true, if_false, Nat.reduceAdd, Nat.reduceEqDiff, Nat.reduceMod, Nat.reduceLT, Nat.reduceLeDiff, Nat.reduceSub, Nat.reduceMul, Nat.reduceBEq, Int.reduceAdd, Int.reduceSub, Int.reduceMul, Int.reduceNeg, Int.reduceLT, Int.reduceLE, Int.reduceToNat, Int.reduceEq, Int.reduceBEq, r1, r2, a1, a2, a3, a4, hri, rowOf_own o1, rowOf_own o2, beq_self_eq_true, Bool.not_true]
          have hlk := k1.len
          refine hX (i + 1, W') _ _ rfl (by simp only; omega) ⟨by simp only; omega, kk2, hN2, low_new hW2 lw kk1.len, .inr ⟨bvv, L.length, hn0, by omega, rfl, o2, Nat.zero_le _⟩, fun b hb => ?_, fun j r hr => ?_⟩
          · have hbl := own_lt o1
            simp only [blkOf, List.mem_singleton] at hb
            subst hb
            intro hw
            rcases hW2 b hw with h1 | h1
            · exact bv b (by simp [blkOf]) h1
            · omega
          · obtain ⟨s', e1, e2, e3, e4⟩ := got2 j r hr
            obtain ⟨_, _, f2, f3, _⟩ := got j r hr
            have := f2.blk_lt
            exact ⟨s', e1, e2, e3.new hW2 (fun b hb => by have := this b hb; omega), e4⟩
      · obtain rfl : i = L.length := by omega
        simp -implicitDefEqProofs (disch := (first | omega | (simp only [lenB, lowB_len, numB_len, nsumB_len] <;> omega) | fail)) only [admQ, lenB, lowB_len, numB_len, nsumB_len, aFill, AK.cls, implies_true, ↓reduceIte, reduceCtorEq, if_true, if_false, Nat.reduceAdd, Nat.reduceEqDiff, Nat.reduceMod, Nat.reduceLT, Nat.reduceLeDiff, Nat.reduceSub, Nat.reduceMul, Nat.reduceBEq, Int.reduceAdd, Int.reduceSub, Int.reduceMul, Int.reduceNeg, Int.reduceLT, Int.reduceLE, Int.reduceToNat, Int.reduceEq, Int.reduceBEq, hl.len]
        refine (ans_nworks _).mono ?_
        rintro _ m1 ⟨rfl, k1⟩
        simp -implicitDefEqProofs (disch := (first | omega | (simp only [lenB, lowB_len, numB_len, nsumB_len] <;> omega) | fail)) only [admQ, lenB, lowB_len, numB_len, nsumB_len, aFill, AK.cls, implies_true, ↓reduceIte, reduceCtorEq, if_true, if_false, Nat.reduceAdd, Nat.reduceEqDiff, Nat.reduceMod, Nat.reduceLT, Nat.reduceLeDiff, Nat.reduceSub, Nat.reduceMul, Nat.reduceBEq, Int.reduceAdd, Int.reduceSub, Int.reduceMul, Int.reduceNeg, Int.reduceLT, Int.reduceLE, Int.reduceToNat, Int.reduceEq, Int.reduceBEq]
        exact kk.trans k1
end Go.Proofs.Ytodkgembfcddbaa
end
section
/- Names as the document has them: what is remembered. -/
namespace Go.Proofs.Ytodkgembfcddbaa
open Go Go.Adm
set_option linter.unusedSimpArgs false
set_option linter.unusedVariables false
set_option maxRecDepth 100000
theorem nfdiv_pow (v k : Nat) : ((v : Nat) : Int).fdiv (2 ^ Nat.min k IntKind.i64.bits) = ((v >>> Nat.min k 64 : Nat) : Int) := by
  have e : (2 : Int) ^ Nat.min k IntKind.i64.bits = ((2 ^ Nat.min k 64 : Nat) : Int) := by simp [IntKind.bits]
  rw [e, Int.fdiv_eq_ediv_of_nonneg _ (Int.natCast_nonneg _), Nat.shiftRight_eq_div_pow, ← Int.natCast_ediv]
theorem ans_nreight (v : Nat) (hv : v < 4611686018427387904) (m : Mem) : Ans Try.prog 38 [.int .i64 v] m fun r m' => Kept [] m m' ∧ GrB m.length m' r (numB v) := by
  refine ans_ret mixed ok38 ?_
  simp -implicitDefEqProofs (disch := (first | omega | (simp only [lenB, lowB_len, numB_len, nsumB_len] <;> omega) | fail)) only [admQ, lenB, lowB_len, numB_len, nsumB_len, aFill, AK.cls, implies_true, ↓reduceIte, reduceCtorEq, if_true, if_false, Nat.reduceAdd, Nat.reduceEqDiff, Nat.reduceMod, Nat.reduceLT, Nat.reduceLeDiff, Nat.reduceSub, Nat.reduceMul, Nat.reduceBEq, Int.reduceAdd, Int.reduceSub, Int.reduceMul, Int.reduceNeg, Int.reduceLT, Int.reduceLE, Int.reduceToNat, Int.reduceEq, Int.reduceBEq, c38, r38]
  refine LoopW.on (fun t : Nat × AV => [(0, .int .i64 v), (3, t.2), (4, .int .i64 (7 - (t.1 : Int)))]) (fun t => 8 - t.1)
    (fun t M => t.1 ≤ 8 ∧ Kept [] m M ∧ GrB m.length M t.2 (tab t.1 (fun i => byV v (7 - i)))) ?_ (0, .nils) _ _ rfl ⟨by simp, .refl _ _, .nils ..⟩
  rintro ⟨k, x⟩ M X ⟨hk, kk, g⟩ hX
  change GrB m.length M x (tab k (fun i => byV v (7 - i))) at g
  simp only at hk
  by_cases hlt : k < 8
  · rw [show (7 - (k : Int)) = ((7 - k : Nat) : Int) by omega]
    have hw : IntKind.u8.wrap ((v >>> (8 * (7 - k)) : Nat) : Int) = ((byV v (7 - k)).toNat : Int) := wrap_u8 _
    have hmin : Nat.min (8 * (7 - k)) 64 = 8 * (7 - k) := Nat.min_eq_left (by omega)
    simp -implicitDefEqProofs (disch := (first | omega | (simp only [lenB, lowB_len, numB_len, nsumB_len] <;> omega) | fail)) only [admQ, lenB, lowB_len, numB_len, nsumB_len, aFill, AK.cls, implies_true, ↓reduceIte, reduceCtorEq, if_true, if_false, Nat.reduceAdd, Nat.reduceEqDiff, Nat.reduceMod, Nat.reduceLT, Nat.reduceLeDiff, Nat.reduceSub, Nat.reduceMul, Nat.reduceBEq, Int.reduceAdd, Int.reduceSub, Int.reduceMul, Int.reduceNeg, Int.reduceLT, Int.reduceLE, Int.reduceToNat, Int.reduceEq, Int.reduceBEq, nfdiv_pow, hmin, hw, @nw64]
    obtain ⟨x3, m3, e3, g3, k3, a3⟩ := g.push (byV v (7 - k)) (by simp [tab_len]; omega) kk.len
    refine someW_eq e3 ?_
    simp -implicitDefEqProofs (disch := (first | omega | (simp only [lenB, lowB_len, numB_len, nsumB_len] <;> omega) | fail)) only [admQ, lenB, lowB_len, numB_len, nsumB_len, aFill, AK.cls, implies_true, ↓reduceIte, reduceCtorEq, if_true, if_false, Nat.reduceAdd, Nat.reduceEqDiff, Nat.reduceMod, Nat.reduceLT, Nat.reduceLeDiff, Nat.reduceSub, Nat.reduceMul, Nat.reduceBEq, Int.reduceAdd, Int.reduceSub, Int.reduceMul, Int.reduceNeg, Int.reduceLT, Int.reduceLE, Int.reduceToNat, Int.reduceEq, Int.reduceBEq]
    rw [show ((7 - k : Nat) : Int) - 1 = 7 - ((k + 1 : Nat) : Int) by omega]
    refine hX (k + 1, x3) _ _ rfl (by simp only; omega) ⟨by simp only; omega, a3 _ _ kk (Nat.le_refl _), ?_⟩
    show GrB m.length m3 x3 (tab (k + 1) _)
    rw [tab_succ]; exact g3
  · obtain rfl : k = 8 := by omega
    simp -implicitDefEqProofs (disch := (first | omega | (simp only [lenB, lowB_len, numB_len, nsumB_len] <;> omega) | fail)) only [admQ, lenB, lowB_len, numB_len, nsumB_len, aFill, AK.cls, implies_true, ↓reduceIte, reduceCtorEq, if_true, if_false, Nat.reduceAdd, Nat.reduceEqDiff, Nat.reduceMod, Nat.reduceLT, Nat.reduceLeDiff, Nat.reduceSub, Nat.reduceMul, Nat.reduceBEq, Int.reduceAdd, Int.reduceSub, Int.reduceMul, Int.reduceNeg, Int.reduceLT, Int.reduceLE, Int.reduceToNat, Int.reduceEq, Int.reduceBEq]
    exact ⟨kk, g⟩
/-- Bytes under way: all of a block, made or grown. -/
def GrZ (m0 : Nat) (m : Mem) (x : AV) (l : List B8) : Prop := (∃ z, x = .sl z 0 l.length l.length 0 ∧ own m z = some (bys l)) ∨ GrB m0 m x l
theorem GrZ.push {m0 : Nat} {m : Mem} {x : AV} {l : List B8} (h : GrZ m0 m x l) (v : B8) (hb : l.length + 1 ≤ 1099511627776) (hm : m0 ≤ m.length) :
    ∃ x' m', aAppend 1 1 x (.sl m.length 0 1 1 0) (m ++ [.row [b8 v] false]) = some (x', m') ∧ GrB m0 m' x' (l ++ [v]) ∧ ∀ (Y : List Nat) (M : Mem), Kept Y M m → M.length ≤ m0 → Kept Y M m' := by
  rcases h with ⟨z, rfl, ho⟩ | h
  · have hr := RdB.row (m := m ++ [.row [b8 v] false]) l.length 0 (rowOf_own (own_app ho _)) (Nat.le_refl _)
    refine ⟨.sl (m.length + 1) 0 (l.length + 1) (l.length + 1) 1, m ++ [.row [b8 v] false, .row (bys (l ++ [v])) false], ?_, .inr ⟨m.length + 1, l.length + 1, by omega, by simp, rfl, by rw [own_app_at]; rfl, by omega⟩, fun Y M hk _ => hk.more_app _⟩
    have he := elems_one m (b8 v)
    have hl2 : lenA (.sl m.length 0 1 1 0) = some 1 := rfl
    unfold aAppend
    simp only [hl2, Option.bind_some, he, if_neg (show ¬ 1 = 0 by omega), if_neg (show ¬ l.length + 1 ≤ l.length by omega), if_pos (show (l.length + 1) * 1 ≤ 1099511627776 ∧ l.length + 1 ≤ 1099511627776 from ⟨by omega, hb⟩), hr.elems]
    simp [bys, List.map_append]
  · obtain ⟨x', m', h1, h2, h3, h4⟩ := GrB.push h v hb hm
    exact ⟨x', m', h1, h2, h4⟩
theorem ans_nrtag (k : Nat) (hk : k < 4611686018427387904) (m : Mem) : Ans Try.prog 35 [.int .i64 k] m fun r m' => Kept [] m m' ∧ GrB m.length m' r (zeros 24 ++ numB k) := by
  refine ans_ret mixed ok35 ?_
  simp -implicitDefEqProofs (disch := (first | omega | (simp only [lenB, lowB_len, numB_len, nsumB_len] <;> omega) | fail)) only [admQ, lenB, lowB_len, numB_len, nsumB_len, aFill, AK.cls, implies_true, ↓reduceIte, reduceCtorEq, if_true, if_false, Nat.reduceAdd, Nat.reduceEqDiff, Nat.reduceMod, Nat.reduceLT, Nat.reduceLeDiff, Nat.reduceSub, Nat.reduceMul, Nat.reduceBEq, Int.reduceAdd, Int.reduceSub, Int.reduceMul, Int.reduceNeg, Int.reduceLT, Int.reduceLE, Int.reduceToNat, Int.reduceEq, Int.reduceBEq, c35, r35]
  have hr : rep 24 [AV.int .u8 0] = bys (zeros 24) := rfl
  simp -implicitDefEqProofs (disch := (first | omega | (simp only [lenB, lowB_len, numB_len, nsumB_len] <;> omega) | fail)) only [admQ, lenB, lowB_len, numB_len, nsumB_len, aFill, AK.cls, implies_true, ↓reduceIte, reduceCtorEq, if_true, if_false, Nat.reduceAdd, Nat.reduceEqDiff, Nat.reduceMod, Nat.reduceLT, Nat.reduceLeDiff, Nat.reduceSub, Nat.reduceMul, Nat.reduceBEq, Int.reduceAdd, Int.reduceSub, Int.reduceMul, Int.reduceNeg, Int.reduceLT, Int.reduceLE, Int.reduceToNat, Int.reduceEq, Int.reduceBEq, hr]
  refine (ans_nreight k hk _).mono ?_
  rintro y m1 ⟨k1, g1⟩
  have oZ := k1.own (show own (m ++ [Blk.row (bys (zeros 24)) false]) m.length = some (bys (zeros 24)) by rw [own_app_at0]; rfl) (by simp)
  have K1 := (Kept.app [] m [Blk.row (bys (zeros 24)) false]).trans k1
  have hnl := numB_len k
  simp -implicitDefEqProofs (disch := (first | omega | (simp only [lenB, lowB_len, numB_len, nsumB_len] <;> omega) | fail)) only [admQ, lenB, lowB_len, numB_len, nsumB_len, aFill, AK.cls, implies_true, ↓reduceIte, reduceCtorEq, if_true, if_false, Nat.reduceAdd, Nat.reduceEqDiff, Nat.reduceMod, Nat.reduceLT, Nat.reduceLeDiff, Nat.reduceSub, Nat.reduceMul, Nat.reduceBEq, Int.reduceAdd, Int.reduceSub, Int.reduceMul, Int.reduceNeg, Int.reduceLT, Int.reduceLE, Int.reduceToNat, Int.reduceEq, Int.reduceBEq]
  refine LoopW.on (fun t : Nat × AV => [(3, t.2), (4, y), (5, .int .i64 t.1)]) (fun t => 8 - t.1) (fun t M => t.1 ≤ 8 ∧ Kept [] m1 M ∧ GrZ m1.length M t.2 (zeros 24 ++ (numB k).take t.1) ∧ (0 < t.1 → GrB m1.length M t.2 (zeros 24 ++ (numB k).take t.1))) ?_ (0, .sl m.length 0 24 24 0) _ _ rfl ⟨by simp, .refl _ _, .inl ⟨m.length, by simp [zeros], by simpa using oZ⟩, fun h => absurd h (by simp)⟩
  rintro ⟨i, v⟩ M X ⟨hi, kk1, g, gg⟩ hX
  change GrZ m1.length M v (zeros 24 ++ (numB k).take i) at g
  simp only at hi gg
  by_cases hlt : i < 8
  · have g1' := g1.kept0 kk1
    obtain ⟨b, o, cap, s, c, rfl, hrow, hat, _⟩ := g1'.rd.cons (i := i) (by omega)
    have e := hat i (by omega)
    simp -implicitDefEqProofs (disch := (first | omega | (simp only [lenB, lowB_len, numB_len, nsumB_len] <;> omega) | fail)) only [admQ, lenB, lowB_len, numB_len, nsumB_len, aFill, AK.cls, implies_true, ↓reduceIte, reduceCtorEq, if_true, if_false, Nat.reduceAdd, Nat.reduceEqDiff, Nat.reduceMod, Nat.reduceLT, Nat.reduceLeDiff, Nat.reduceSub, Nat.reduceMul, Nat.reduceBEq, Int.reduceAdd, Int.reduceSub, Int.reduceMul, Int.reduceNeg, Int.reduceLT, Int.reduceLE, Int.reduceToNat, Int.reduceEq, Int.reduceBEq, hrow, e]
    obtain ⟨x3, m3, e3, g3, a3⟩ := g.push (gb (numB k) i) (by simp [zeros]; omega) kk1.len
    refine someW_eq e3 ?_
    simp -implicitDefEqProofs (disch := (first | omega | (simp only [lenB, lowB_len, numB_len, nsumB_len] <;> omega) | fail)) only [admQ, lenB, lowB_len, numB_len, nsumB_len, aFill, AK.cls, implies_true, ↓reduceIte, reduceCtorEq, if_true, if_false, Nat.reduceAdd, Nat.reduceEqDiff, Nat.reduceMod, Nat.reduceLT, Nat.reduceLeDiff, Nat.reduceSub, Nat.reduceMul, Nat.reduceBEq, Int.reduceAdd, Int.reduceSub, Int.reduceMul, Int.reduceNeg, Int.reduceLT, Int.reduceLE, Int.reduceToNat, Int.reduceEq, Int.reduceBEq]
    rw [List.append_assoc, ← take_gb (by omega)] at g3
    exact hX (i + 1, x3) _ _ rfl (by simp only; omega) ⟨by simp only; omega, a3 _ _ kk1 (Nat.le_refl _), .inr g3, fun _ => g3⟩
  · obtain rfl : i = 8 := by omega
    have g8 := gg (by omega)
    rw [List.take_of_length_le (by omega)] at g8
    simp -implicitDefEqProofs (disch := (first | omega | (simp only [lenB, lowB_len, numB_len, nsumB_len] <;> omega) | fail)) only [admQ, lenB, lowB_len, numB_len, nsumB_len, aFill, AK.cls, implies_true, ↓reduceIte, reduceCtorEq, if_true, if_false, Nat.reduceAdd, Nat.reduceEqDiff, Nat.reduceMod, Nat.reduceLT, Nat.reduceLeDiff, Nat.reduceSub, Nat.reduceMul, Nat.reduceBEq, Int.reduceAdd, Int.reduceSub, Int.reduceMul, Int.reduceNeg, Int.reduceLT, Int.reduceLE, Int.reduceToNat, Int.reduceEq, Int.reduceBEq]
    exact ⟨K1.trans kk1, g8.low K1.len⟩
/-- A list of things sealed, as the document's lists hold it: what they tell lies in good blocks. -/
def SdL (m : Mem) (G : Nat → Prop) (c : List AV) (S : List Sd) : Prop := c.length = S.length * 4 ∧ ∀ (i : Nat) (s : Sd), S[i]? = some s →
  ∃ h p, c[i * 4]? = some (.int .i64 s.1) ∧ c[i * 4 + 1]? = some (.int .i64 s.2.1) ∧ c[i * 4 + 2]? = some h ∧ c[i * 4 + 3]? = some p ∧ RdB m h s.2.2.1 ∧ RdB m p s.2.2.2 ∧ (∀ b ∈ blkOf h, G b) ∧ ∀ b ∈ blkOf p, G b
def TxL (m : Mem) (G : Nat → Prop) (c : List AV) (T : List (List B8)) : Prop := c.length = T.length ∧ ∀ (i : Nat) (t : List B8), T[i]? = some t → ∃ v, c[i]? = some v ∧ RdB m v t ∧ ∀ b ∈ blkOf v, G b
theorem SdL.kept {m m' : Mem} {G G' : Nat → Prop} {c : List AV} {S : List Sd} {X : List Nat} (h : SdL m G c S) (hk : Kept X m m') (hX : ∀ b, G b → b ∉ X) (hG : ∀ b, G b → b < m.length → G' b) : SdL m' G' c S :=
  ⟨h.1, fun i s hs => by
    obtain ⟨hv, p, a1, a2, a3, a4, a5, a6, a7, a8⟩ := h.2 i s hs
    exact ⟨hv, p, a1, a2, a3, a4, a5.kept hk (fun b o n cap s e => hX b (a7 b (by rw [e]; simp [blkOf]))), a6.kept hk (fun b o n cap s e => hX b (a8 b (by rw [e]; simp [blkOf]))), fun b hb => hG b (a7 b hb) (a5.blk_lt b hb), fun b hb => hG b (a8 b hb) (a6.blk_lt b hb)⟩⟩
theorem TxL.kept {m m' : Mem} {G G' : Nat → Prop} {c : List AV} {T : List (List B8)} {X : List Nat} (h : TxL m G c T) (hk : Kept X m m') (hX : ∀ b, G b → b ∉ X) (hG : ∀ b, G b → b < m.length → G' b) : TxL m' G' c T :=
  ⟨h.1, fun i t ht => by
    obtain ⟨v, a1, a2, a3⟩ := h.2 i t ht
    exact ⟨v, a1, a2.kept hk (fun b o n cap s e => hX b (a3 b (by rw [e]; simp [blkOf]))), fun b hb => hG b (a3 b hb) (a2.blk_lt b hb)⟩⟩
/-- The document's names: at y, in the blocks R; what its lists tell lies in blocks of Q. -/
structure RNm (m : Mem) (y : Nat) (R Q : List Nat) (S : List Sd) (T : List (List B8)) : Prop where
  ex : ∃ vS vT cS cT, own m y = some [vS, vT] ∧ GrA 4 0 m vS cS ∧ GrA 1 0 m vT cT ∧ R = y :: (blkOf vS ++ blkOf vT) ∧ y ∉ blkOf vS ∧ y ∉ blkOf vT ∧ (∀ b ∈ blkOf vS, b ∉ blkOf vT) ∧ SdL m (fun b => b ∈ Q ∧ b ∉ R) cS S ∧ TxL m (fun b => b ∈ Q ∧ b ∉ R) cT T
  sub : ∀ b ∈ R, b ∈ Q
  lt : ∀ b ∈ Q, b < m.length
  nd : S.Nodup ∧ T.Nodup
theorem RNm.kept {m m' : Mem} {y : Nat} {R Q X : List Nat} {S : List Sd} {T : List (List B8)} (h : RNm m y R Q S T) (hk : Kept X m m') (hX : ∀ b ∈ Q, b ∉ X) : RNm m' y R Q S T := by
  obtain ⟨vS, vT, cS, cT, h1, h2, h3, rfl, h5, h6, h7, h8, h9⟩ := h.ex
  refine ⟨⟨vS, vT, cS, cT, hk.own h1 (hX y (h.sub y (by simp))), h2.kept hk (fun b hb => hX b (h.sub b (by simp [hb]))), h3.kept hk (fun b hb => hX b (h.sub b (by simp [hb]))), rfl, h5, h6, h7, h8.kept hk (fun b hb => hX b hb.1) (fun b hb _ => hb), h9.kept hk (fun b hb => hX b hb.1) (fun b hb _ => hb)⟩, h.sub, fun b hb => Nat.lt_of_lt_of_le (h.lt b hb) hk.len, h.nd⟩
theorem RNm.kept0 {m m' : Mem} {y : Nat} {R Q : List Nat} {S : List Sd} {T : List (List B8)} (h : RNm m y R Q S T) (hk : Kept [] m m') : RNm m' y R Q S T := h.kept hk (by simp)
theorem ans_nrnew (m : Mem) : Ans Try.prog 12 [] m fun r m' => ∃ y R, r = .ptr y 0 ∧ Kept [] m m' ∧ RNm m' y R R [] [] ∧ ∀ b ∈ R, m.length ≤ b := by
  refine ans_ret mixed ok12 ?_
  simp -implicitDefEqProofs (disch := (first | omega | (simp only [lenB, lowB_len, numB_len, nsumB_len] <;> omega) | fail)) only [admQ, lenB, lowB_len, numB_len, nsumB_len, aFill, AK.cls, implies_true, ↓reduceIte, reduceCtorEq, if_true, if_false, Nat.reduceAdd, Nat.reduceEqDiff, Nat.reduceMod, Nat.reduceLT, Nat.reduceLeDiff, Nat.reduceSub, Nat.reduceMul, Nat.reduceBEq, Int.reduceAdd, Int.reduceSub, Int.reduceMul, Int.reduceNeg, Int.reduceLT, Int.reduceLE, Int.reduceToNat, Int.reduceEq, Int.reduceBEq, c12, r12]
  refine ⟨m.length, [m.length], rfl, .app _ _ _, ⟨⟨.nils, .nils, [], [], by rw [own_app_at0]; rfl, .nils .., .nils .., rfl, by simp [blkOf], by simp [blkOf], by simp [blkOf], ⟨rfl, fun i s h => by simp at h⟩, ⟨rfl, fun i s h => by simp at h⟩⟩, fun _ h => h, by simp, by simp⟩, by simp⟩
theorem gr_lenS {sz m0 n : Nat} {m : Mem} {x : AV} {c : List AV} (h : GrA sz m0 m x c) (hs : 0 < sz) (hl : c.length = n * sz) : pLen [x] = some (.int .i64 n) := by
  rcases h with ⟨rfl, h⟩ | ⟨b, k, h1, h2, rfl, h4, h5⟩
  · have : n = 0 := by
      simp only [List.length_nil] at hl
      rcases Nat.mul_eq_zero.mp hl.symm with h | h <;> omega
    subst this
    rcases h with rfl | ⟨b, rfl, _⟩ <;> rfl
  · have : k = n := Nat.eq_of_mul_eq_mul_right hs (h2.symm.trans hl)
    subst this; rfl
theorem gr_slS {sz m0 n : Nat} {m : Mem} {x : AV} {c : List AV} (h : GrA sz m0 m x c) (hs : 0 < sz) (hl : c.length = n * sz) (hn : 0 < n) : ∃ b, x = .sl b 0 n n sz ∧ own m b = some c := by
  obtain ⟨b, k, rfl, h1, h2, h4, -⟩ := h.sl (by intro h0; rw [h0] at hl; simp only [List.length_nil] at hl; have := Nat.mul_pos hn hs; omega)
  have : k = n := Nat.eq_of_mul_eq_mul_right hs (h2.symm.trans hl)
  subst this
  exact ⟨b, rfl, h4⟩
theorem ans_nrplace {m : Mem} {y : Nat} {R Q : List Nat} {S : List Sd} {T : List (List B8)} {h p : AV} {s : Sd} (hN : RNm m y R Q S T) (hh : RdB m h s.2.2.1) (hp : RdB m p s.2.2.2) (hS : S.length ≤ 100000) (hl : s.2.2.1.length ≤ 100000 ∧ s.2.2.2.length ≤ 100000) (hSl : ∀ t ∈ S, t.2.2.1.length ≤ 100000 ∧ t.2.2.2.length ≤ 100000) :
    Ans Try.prog 34 [.ptr y 0, .agg [.int .i64 s.1, .int .i64 s.2.1, h, p]] m fun r m' => Kept [] m m' ∧ r = .int .i64 (match fidx s S with | some i => ((i + 1 : Nat) : Int) | none => 0) := by
  refine ans_ret mixed ok34 ?_
  obtain ⟨vS, vT, cS, cT, h1, h2, h3, rfl, h5, h6, h7, h8, h9⟩ := hN.ex
  simp -implicitDefEqProofs (disch := (first | omega | (simp only [lenB, lowB_len, numB_len, nsumB_len] <;> omega) | fail)) only [admQ, lenB, lowB_len, numB_len, nsumB_len, aFill, AK.cls, implies_true, ↓reduceIte, reduceCtorEq, if_true, if_false, Nat.reduceAdd, Nat.reduceEqDiff, Nat.reduceMod, Nat.reduceLT, Nat.reduceLeDiff, Nat.reduceSub, Nat.reduceMul, Nat.reduceBEq, Int.reduceAdd, Int.reduceSub, Int.reduceMul, Int.reduceNeg, Int.reduceLT, Int.reduceLE, Int.reduceToNat, Int.reduceEq, Int.reduceBEq, c34, r34, (rd_one hh).1, (rd_one hh).2, (rd_one hp).1, (rd_one hp).2]
  have k0 := Kept.app [] m [Blk.row [.int .i64 s.1, .int .i64 s.2.1, h, p] false]
  have o0 : own (m ++ [Blk.row [.int .i64 s.1, .int .i64 s.2.1, h, p] false]) m.length = some [.int .i64 s.1, .int .i64 s.2.1, h, p] := by rw [own_app_at0]; rfl
  generalize m ++ [Blk.row [.int .i64 s.1, .int .i64 s.2.1, h, p] false] = A at k0 o0
  refine LoopW.on (fun i : Nat => [(0, .ptr y 0), (3, .ptr m.length 0), (5, .int .i64 i)]) (fun i => S.length - i) (fun i M => i ≤ S.length ∧ Kept [] A M ∧ ∀ j, j < i → S[j]? ≠ some s) ?_ 0 _ _ rfl ⟨by omega, .refl _ _, fun j hj => by omega⟩
  rintro i M X ⟨hi, kk, hj⟩ hX
  have KM := k0.trans kk
  have y1 := KM.own h1 (by simp)
  have b1 := kk.own o0 (by simp)
  by_cases hlt : i < S.length
  · obtain ⟨b, rfl, hb⟩ := gr_slS h2 (by omega) h8.1 (by omega)
    obtain ⟨t, ht⟩ : ∃ t, S[i]? = some t := ⟨_, List.getElem?_eq_getElem hlt⟩
    obtain ⟨h', p', a1, a2, a3, a4, a5, a6, -, -⟩ := h8.2 i t ht
    have t4 := take4 a1 a2 a3 a4
    have bM := KM.own hb (by simp)
    have hcl := h8.1
    obtain ⟨htl1, htl2⟩ := hSl t (List.mem_of_getElem? ht)
    simp -implicitDefEqProofs (disch := (first | omega | (simp only [lenB, lowB_len, numB_len, nsumB_len] <;> omega) | fail)) only [admQ, lenB, lowB_len, numB_len, nsumB_len, aFill, AK.cls, implies_true, ↓reduceIte, reduceCtorEq, if_true, if_false, Nat.reduceAdd, Nat.reduceEqDiff, Nat.reduceMod, Nat.reduceLT, Nat.reduceLeDiff, Nat.reduceSub, Nat.reduceMul, Nat.reduceBEq, Int.reduceAdd, Int.reduceSub, Int.reduceMul, Int.reduceNeg, Int.reduceLT, Int.reduceLE, Int.reduceToNat, Int.reduceEq, Int.reduceBEq, rowOf_own y1, rowOf_own bM, t4, rowOf_own b1]
    have kB := Kept.app [] M [Blk.row [.int .i64 t.1, .int .i64 t.2.1, h', p'] false]
    have oB : own (M ++ [Blk.row [.int .i64 t.1, .int .i64 t.2.1, h', p'] false]) M.length = some [.int .i64 t.1, .int .i64 t.2.1, h', p'] := by rw [own_app_at0]; rfl
    have sB := kB.own b1 (by simp)
    have KB := KM.trans kB
    have step : ∀ j, j < i + 1 → t ≠ s → S[j]? ≠ some s := fun j hj2 hne he => by
      by_cases hji : j = i
      · subst hji; rw [ht] at he; cases he; exact hne rfl
      · exact hj j (by omega) he
    generalize M ++ [Blk.row [.int .i64 t.1, .int .i64 t.2.1, h', p'] false] = B at *
    by_cases he : t.1 = s.1
    · by_cases hn : t.2.1 = s.2.1
      · simp -implicitDefEqProofs (disch := (first | omega | (simp only [lenB, lowB_len, numB_len, nsumB_len] <;> omega) | fail)) only [admQ, lenB, lowB_len, numB_len, nsumB_len, aFill, AK.cls, implies_true, ↓reduceIte, reduceCtorEq, if_true, if_false, Nat.reduceAdd, Nat.reduceEqDiff, Nat.reduceMod, Nat.reduceLT, Nat.reduceLeDiff, Nat.reduceSub, Nat.reduceMul, Nat.reduceBEq, Int.reduceAdd, Int.reduceSub, Int.reduceMul, Int.reduceNeg, Int.reduceLT, Int.reduceLE, Int.reduceToNat, Int.reduceEq, Int.reduceBEq, rowOf_own oB, rowOf_own sB, beq_iff_eq.mpr he, beq_iff_eq.mpr hn]
        refine (ans_samebytes (a5.kept0 KB) (hh.kept0 KB) (by omega)).mono ?_
        rintro _ N ⟨rfl, hM⟩
        subst hM
        by_cases hhd : t.2.2.1 = s.2.2.1
        · simp -implicitDefEqProofs (disch := (first | omega | (simp only [lenB, lowB_len, numB_len, nsumB_len] <;> omega) | fail)) only [admQ, lenB, lowB_len, numB_len, nsumB_len, aFill, AK.cls, implies_true, ↓reduceIte, reduceCtorEq, if_true, if_false, Nat.reduceAdd, Nat.reduceEqDiff, Nat.reduceMod, Nat.reduceLT, Nat.reduceLeDiff, Nat.reduceSub, Nat.reduceMul, Nat.reduceBEq, Int.reduceAdd, Int.reduceSub, Int.reduceMul, Int.reduceNeg, Int.reduceLT, Int.reduceLE, Int.reduceToNat, Int.reduceEq, Int.reduceBEq, rowOf_own oB, rowOf_own sB, beq_iff_eq.mpr hhd]
          refine (ans_samebytes (a6.kept0 KB) (hp.kept0 KB) (by omega)).mono ?_
          rintro _ N ⟨rfl, hM⟩
          subst hM
          by_cases hpp : t.2.2.2 = s.2.2.2
          · obtain rfl : t = s := by
              obtain ⟨t1, t2, t3, t4⟩ := t
              obtain ⟨s1, s2, s3, s4⟩ := s
              simp_all
            have hf := fidx_nodup hN.nd.1 ht
            simp -implicitDefEqProofs (disch := (first | omega | (simp only [lenB, lowB_len, numB_len, nsumB_len] <;> omega) | fail)) only [admQ, lenB, lowB_len, numB_len, nsumB_len, aFill, AK.cls, implies_true, ↓reduceIte, reduceCtorEq, if_true, if_false, Nat.reduceAdd, Nat.reduceEqDiff, Nat.reduceMod, Nat.reduceLT, Nat.reduceLeDiff, Nat.reduceSub, Nat.reduceMul, Nat.reduceBEq, Int.reduceAdd, Int.reduceSub, Int.reduceMul, Int.reduceNeg, Int.reduceLT, Int.reduceLE, Int.reduceToNat, Int.reduceEq, Int.reduceBEq, rowOf_own oB, rowOf_own sB, beq_iff_eq.mpr hpp, hf]
            exact KB
          · simp -implicitDefEqProofs (disch := (first | omega | (simp only [lenB, lowB_len, numB_len, nsumB_len] <;> omega) | fail)) only [admQ, lenB, lowB_len, numB_len, nsumB_len, aFill, AK.cls, implies_true, ↓reduceIte, reduceCtorEq, if_true, if_false, Nat.reduceAdd, Nat.reduceEqDiff, Nat.reduceMod, Nat.reduceLT, Nat.reduceLeDiff, Nat.reduceSub, Nat.reduceMul, Nat.reduceBEq, Int.reduceAdd, Int.reduceSub, Int.reduceMul, Int.reduceNeg, Int.reduceLT, Int.reduceLE, Int.reduceToNat, Int.reduceEq, Int.reduceBEq, rowOf_own oB, rowOf_own sB, beq_eq_false_iff_ne.mpr hpp]
            exact hX (i + 1) _ _ rfl (by omega) ⟨by omega, kk.trans kB, fun j hj2 => step j hj2 fun h => hpp (by rw [h])⟩
        · simp -implicitDefEqProofs (disch := (first | omega | (simp only [lenB, lowB_len, numB_len, nsumB_len] <;> omega) | fail)) only [admQ, lenB, lowB_len, numB_len, nsumB_len, aFill, AK.cls, implies_true, ↓reduceIte, reduceCtorEq, if_true, if_false, Nat.reduceAdd, Nat.reduceEqDiff, Nat.reduceMod, Nat.reduceLT, Nat.reduceLeDiff, Nat.reduceSub, Nat.reduceMul, Nat.reduceBEq, Int.reduceAdd, Int.reduceSub, Int.reduceMul, Int.reduceNeg, Int.reduceLT, Int.reduceLE, Int.reduceToNat, Int.reduceEq, Int.reduceBEq, rowOf_own oB, rowOf_own sB, beq_eq_false_iff_ne.mpr hhd]
          exact hX (i + 1) _ _ rfl (by omega) ⟨by omega, kk.trans kB, fun j hj2 => step j hj2 fun h => hhd (by rw [h])⟩
      · simp -implicitDefEqProofs (disch := (first | omega | (simp only [lenB, lowB_len, numB_len, nsumB_len] <;> omega) | fail)) only [admQ, lenB, lowB_len, numB_len, nsumB_len, aFill, AK.cls, implies_true, ↓reduceIte, reduceCtorEq, if_true, if_false, Nat.reduceAdd, Nat.reduceEqDiff, Nat.reduceMod, Nat.reduceLT, Nat.reduceLeDiff, Nat.reduceSub, Nat.reduceMul, Nat.reduceBEq, Int.reduceAdd, Int.reduceSub, Int.reduceMul, Int.reduceNeg, Int.reduceLT, Int.reduceLE, Int.reduceToNat, Int.reduceEq, Int.reduceBEq, rowOf_own oB, rowOf_own sB, beq_iff_eq.mpr he, beq_eq_false_iff_ne.mpr hn]
        exact hX (i + 1) _ _ rfl (by omega) ⟨by omega, kk.trans kB, fun j hj2 => step j hj2 fun h => hn (by rw [h])⟩
    · simp -implicitDefEqProofs (disch := (first | omega | (simp only [lenB, lowB_len, numB_len, nsumB_len] <;> omega) | fail)) only [admQ, lenB, lowB_len, numB_len, nsumB_len, aFill, AK.cls, implies_true, ↓reduceIte, reduceCtorEq, if_true, if_false, Nat.reduceAdd, Nat.reduceEqDiff, Nat.reduceMod, Nat.reduceLT, Nat.reduceLeDiff, Nat.reduceSub, Nat.reduceMul, Nat.reduceBEq, Int.reduceAdd, Int.reduceSub, Int.reduceMul, Int.reduceNeg, Int.reduceLT, Int.reduceLE, Int.reduceToNat, Int.reduceEq, Int.reduceBEq, rowOf_own oB, rowOf_own sB, beq_eq_false_iff_ne.mpr he]
      exact hX (i + 1) _ _ rfl (by omega) ⟨by omega, kk.trans kB, fun j hj2 => step j hj2 fun h => he (by rw [h])⟩
  · obtain rfl : i = S.length := by omega
    have hno : fidx s S = none := fidx_none.mpr fun hm => by
      obtain ⟨j, hj2⟩ := List.getElem?_of_mem hm
      exact hj j (lt_of_get hj2) hj2
    simp -implicitDefEqProofs (disch := (first | omega | (simp only [lenB, lowB_len, numB_len, nsumB_len] <;> omega) | fail)) only [admQ, lenB, lowB_len, numB_len, nsumB_len, aFill, AK.cls, implies_true, ↓reduceIte, reduceCtorEq, if_true, if_false, Nat.reduceAdd, Nat.reduceEqDiff, Nat.reduceMod, Nat.reduceLT, Nat.reduceLeDiff, Nat.reduceSub, Nat.reduceMul, Nat.reduceBEq, Int.reduceAdd, Int.reduceSub, Int.reduceMul, Int.reduceNeg, Int.reduceLT, Int.reduceLE, Int.reduceToNat, Int.reduceEq, Int.reduceBEq, rowOf_own y1, gr_lenS h2 (by omega) h8.1, hno]
    exact KM
end Go.Proofs.Ytodkgembfcddbaa
end
section
/- Names as the document has them: sealed, opened, summed. -/
namespace Go.Proofs.Ytodkgembfcddbaa
open Go Go.Adm
set_option linter.unusedSimpArgs false
set_option linter.unusedVariables false
set_option maxRecDepth 100000
theorem ans_copynew {m : Mem} {x : AV} {l : List B8} (hx : RdB m x l) (hl : l.length ≤ 1000000000) :
    Ans Try.prog 30 [x] m fun r m' => Kept [] m m' ∧ GrB m.length m' r l ∧ ∀ b ∈ blkOf r, m.length ≤ b := by
  by_cases h0 : l = []
  · subst h0
    refine ans_ret mixed ok30 ?_
    simp -implicitDefEqProofs (disch := (first | omega | (simp only [lenB, lowB_len, numB_len, nsumB_len] <;> omega) | fail)) only [admQ, lenB, lowB_len, numB_len, nsumB_len, aFill, AK.cls, implies_true, ↓reduceIte, reduceCtorEq, if_true, if_false, Nat.reduceAdd, Nat.reduceEqDiff, Nat.reduceMod, Nat.reduceLT, Nat.reduceLeDiff, Nat.reduceSub, Nat.reduceMul, Nat.reduceBEq, Int.reduceAdd, Int.reduceSub, Int.reduceMul, Int.reduceNeg, Int.reduceLT, Int.reduceLE, Int.reduceToNat, Int.reduceEq, Int.reduceBEq, c30, r30]
    refine LoopW.on (fun _ : Unit => [(0, x), (3, .nils), (4, .int .i64 0)]) (fun _ => 0) (fun _ M => M = m) ?_ () _ _ rfl rfl
    rintro _ M X rfl hX
    simp -implicitDefEqProofs (disch := (first | omega | (simp only [lenB, lowB_len, numB_len, nsumB_len] <;> omega) | fail)) only [admQ, lenB, lowB_len, numB_len, nsumB_len, aFill, AK.cls, implies_true, ↓reduceIte, reduceCtorEq, if_true, if_false, Nat.reduceAdd, Nat.reduceEqDiff, Nat.reduceMod, Nat.reduceLT, Nat.reduceLeDiff, Nat.reduceSub, Nat.reduceMul, Nat.reduceBEq, Int.reduceAdd, Int.reduceSub, Int.reduceMul, Int.reduceNeg, Int.reduceLT, Int.reduceLE, Int.reduceToNat, Int.reduceEq, Int.reduceBEq, hx.len]
    exact ⟨.refl _ _, .nils .., by simp [blkOf]⟩
  · refine (ans_copybytes hx hl).mono fun r m' ⟨h1, h2⟩ => ⟨h1, h2, GrA.blk h2 (by simpa [bys] using h0)⟩
theorem bys_snoc (l : List B8) (v : B8) : bys l ++ [b8 v] = bys (l ++ [v]) := by simp [bys]
/-- Two lists of bytes, the one behind the other: a loop's frame. -/
structure RtJ (M N : Mem) (y : AV) (p t : List B8) (i : Nat) (x : AV) : Prop where
  le : i ≤ t.length
  kept : Kept [] M N
  gr : GrB M.length N x (p ++ t.take i)
  blk : ∀ b ∈ blkOf x, M.length ≤ b
  rd : RdB N y t
  ne : ∀ b ∈ blkOf x, b ∉ blkOf y
def nrsealQ (m : Mem) (y : Nat) (R Q : List Nat) (S : List Sd) (T : List (List B8)) (s : Sd) (r : AV) (m' : Mem) : Prop :=
  ∃ R' Q', Kept R m m' ∧ RNm m' y R' Q' (sealS2 S s) T ∧ (∀ b ∈ Q', b ∈ Q ∨ m.length ≤ b) ∧ GrB m.length m' r (sealR S s) ∧ ∀ b ∈ blkOf r, m.length ≤ b ∧ b ∉ Q'
theorem nrsealTail {m M : Mem} {y : Nat} {R R' Q Q' : List Nat} {S : List Sd} {T : List (List B8)} {bx : AV} {s : Sd} (hp : mayP s) (hb : RdB M bx s.2.2.2) (hS : S.length ≤ 1000) (hl : s.2.2.2.length ≤ 100000)
    (hk : Kept R m M) (hN : RNm M y R' Q' (addN s S) T) (hQ : ∀ b ∈ Q', b ∈ Q ∨ m.length ≤ b) (k : Nat) (hk1 : k = posN s S) (hk2 : k ≤ 1001) :
    wpA Try.prog c17_2 [(4, bx), (12, .int .i64 (k : Int))] M (retQ [.tmp 10] (nrsealQ m y R Q S T s)) := by
  simp -implicitDefEqProofs (disch := (first | omega | (simp only [lenB, lowB_len, numB_len, nsumB_len] <;> omega) | fail)) only [admQ, lenB, lowB_len, numB_len, nsumB_len, aFill, AK.cls, implies_true, ↓reduceIte, reduceCtorEq, if_true, if_false, Nat.reduceAdd, Nat.reduceEqDiff, Nat.reduceMod, Nat.reduceLT, Nat.reduceLeDiff, Nat.reduceSub, Nat.reduceMul, Nat.reduceBEq, Int.reduceAdd, Int.reduceSub, Int.reduceMul, Int.reduceNeg, Int.reduceLT, Int.reduceLE, Int.reduceToNat, Int.reduceEq, Int.reduceBEq, c17_2]
  refine (ans_copynew hb (by omega)).mono ?_
  rintro x m1 ⟨k1, g1, n1⟩
  simp -implicitDefEqProofs (disch := (first | omega | (simp only [lenB, lowB_len, numB_len, nsumB_len] <;> omega) | fail)) only [admQ, lenB, lowB_len, numB_len, nsumB_len, aFill, AK.cls, implies_true, ↓reduceIte, reduceCtorEq, if_true, if_false, Nat.reduceAdd, Nat.reduceEqDiff, Nat.reduceMod, Nat.reduceLT, Nat.reduceLeDiff, Nat.reduceSub, Nat.reduceMul, Nat.reduceBEq, Int.reduceAdd, Int.reduceSub, Int.reduceMul, Int.reduceNeg, Int.reduceLT, Int.reduceLE, Int.reduceToNat, Int.reduceEq, Int.reduceBEq]
  refine (ans_nrtag k (by omega) _).mono ?_
  rintro y14 m2 ⟨k2, g2⟩
  simp -implicitDefEqProofs (disch := (first | omega | (simp only [lenB, lowB_len, numB_len, nsumB_len] <;> omega) | fail)) only [admQ, lenB, lowB_len, numB_len, nsumB_len, aFill, AK.cls, implies_true, ↓reduceIte, reduceCtorEq, if_true, if_false, Nat.reduceAdd, Nat.reduceEqDiff, Nat.reduceMod, Nat.reduceLT, Nat.reduceLeDiff, Nat.reduceSub, Nat.reduceMul, Nat.reduceBEq, Int.reduceAdd, Int.reduceSub, Int.reduceMul, Int.reduceNeg, Int.reduceLT, Int.reduceLE, Int.reduceToNat, Int.reduceEq, Int.reduceBEq]
  have ht : (zeros 24 ++ numB k).length = 32 := by simp [zeros, numB_len]
  have hy := GrA.blk g2 (by intro h0; have := congrArg List.length h0; simp [numB_len] at this)
  have hlt1 := g1.lt
  generalize hT : zeros 24 ++ numB k = t at *
  refine LoopW.on (fun u : Nat × AV => [(13, u.2), (14, y14), (15, .int .i64 u.1)]) (fun u => t.length - u.1) (fun u N => RtJ M N y14 s.2.2.2 t u.1 u.2) ?_ (0, x) _ _ rfl ⟨by omega, k1.trans k2, by simpa using g1.kept0 k2, n1, g2.rd, fun b hb1 hb2 => by have := hlt1 b hb1; have := hy b hb2; omega⟩
  rintro ⟨i, v⟩ N X ⟨hi, kk, g, nb, rd, ne⟩ hX
  simp only at hi g nb ne
  by_cases hlt : i < t.length
  · obtain ⟨b, o, cap, sl, c, rfl, hrow, hat, _⟩ := rd.cons (i := i) (by omega)
    have e := hat i (by omega)
    simp -implicitDefEqProofs (disch := (first | omega | (simp only [lenB, lowB_len, numB_len, nsumB_len] <;> omega) | fail)) only [admQ, lenB, lowB_len, numB_len, nsumB_len, aFill, AK.cls, implies_true, ↓reduceIte, reduceCtorEq, if_true, if_false, Nat.reduceAdd, Nat.reduceEqDiff, Nat.reduceMod, Nat.reduceLT, Nat.reduceLeDiff, Nat.reduceSub, Nat.reduceMul, Nat.reduceBEq, Int.reduceAdd, Int.reduceSub, Int.reduceMul, Int.reduceNeg, Int.reduceLT, Int.reduceLE, Int.reduceToNat, Int.reduceEq, Int.reduceBEq, rd.len, hrow, e]
    obtain ⟨x3, m3, e3, g3, k3, a3, n3⟩ := GrA.push5 (sz := 1) (bytes := 1) (l := [b8 (gb t i)]) g Nat.one_pos rfl (by simp; omega) kk.len
    refine someW_eq e3 ?_
    simp -implicitDefEqProofs (disch := (first | omega | (simp only [lenB, lowB_len, numB_len, nsumB_len] <;> omega) | fail)) only [admQ, lenB, lowB_len, numB_len, nsumB_len, aFill, AK.cls, implies_true, ↓reduceIte, reduceCtorEq, if_true, if_false, Nat.reduceAdd, Nat.reduceEqDiff, Nat.reduceMod, Nat.reduceLT, Nat.reduceLeDiff, Nat.reduceSub, Nat.reduceMul, Nat.reduceBEq, Int.reduceAdd, Int.reduceSub, Int.reduceMul, Int.reduceNeg, Int.reduceLT, Int.reduceLE, Int.reduceToNat, Int.reduceEq, Int.reduceBEq]
    rw [bys_snoc, List.append_assoc, ← take_gb (by omega)] at g3
    have hbl := rd.blk_lt
    refine hX (i + 1, x3) _ _ rfl (by simp only; omega) ⟨by simp only; omega, a3 _ _ kk (Nat.le_refl _), g3, fun q hq => ?_, rd.kept k3 (fun q o' n' c' s' hq h => ?_), fun q hq1 hq2 => ?_⟩
    · have := n3 q hq; have := kk.len; omega
    · exact ne q h (by rw [hq]; simp [blkOf])
    · have := n3 q hq1; have := hbl q hq2; omega
  · obtain rfl : i = t.length := by omega
    rw [List.take_of_length_le (by omega)] at g
    simp -implicitDefEqProofs (disch := (first | omega | (simp only [lenB, lowB_len, numB_len, nsumB_len] <;> omega) | fail)) only [admQ, lenB, lowB_len, numB_len, nsumB_len, aFill, AK.cls, implies_true, ↓reduceIte, reduceCtorEq, if_true, if_false, Nat.reduceAdd, Nat.reduceEqDiff, Nat.reduceMod, Nat.reduceLT, Nat.reduceLeDiff, Nat.reduceSub, Nat.reduceMul, Nat.reduceBEq, Int.reduceAdd, Int.reduceSub, Int.reduceMul, Int.reduceNeg, Int.reduceLT, Int.reduceLE, Int.reduceToNat, Int.reduceEq, Int.reduceBEq, rd.len]
    have hm := hk.len
    have hv : s.2.2.2 ++ t = sealR S s := by rw [sealR, if_pos hp, nsealB, ← hk1, List.append_assoc, hT]
    rw [hv] at g
    refine ⟨R', Q', hk.trans (kk.more (by simp)), by rw [sealS2, if_pos hp]; exact hN.kept0 kk, hQ, g.low hm, fun b hb => ⟨?_, fun h => ?_⟩⟩
    · have := nb b hb; omega
    · have := nb b hb; have := hN.lt b h; omega
theorem SdL.snoc {m : Mem} {G : Nat → Prop} {c : List AV} {S : List Sd} {s : Sd} {h p : AV} (hc : SdL m G c S) (hh : RdB m h s.2.2.1) (hp : RdB m p s.2.2.2) (gh : ∀ b ∈ blkOf h, G b) (gp : ∀ b ∈ blkOf p, G b) :
    SdL m G (c ++ [.int .i64 s.1, .int .i64 s.2.1, h, p]) (S ++ [s]) := by
  refine ⟨by simp [hc.1]; omega, fun i t ht => ?_⟩
  by_cases hi : i < S.length
  · rw [List.getElem?_append_left hi] at ht
    obtain ⟨h', p', a1, a2, a3, a4, a5⟩ := hc.2 i t ht
    have hcl := hc.1
    exact ⟨h', p', by rw [List.getElem?_append_left (by omega)]; exact a1, by rw [List.getElem?_append_left (by omega)]; exact a2, by rw [List.getElem?_append_left (by omega)]; exact a3, by rw [List.getElem?_append_left (by omega)]; exact a4, a5⟩
  · have hlt := lt_of_get ht
    simp only [List.length_append, List.length_singleton] at hlt
    obtain rfl : i = S.length := by omega
    simp at ht
    subst ht
    refine ⟨h, p, ?_, ?_, ?_, ?_, hh, hp, gh, gp⟩
    · rw [← hc.1, List.getElem?_append_right (by omega)]; simp
    · rw [← hc.1, List.getElem?_append_right (by omega)]; simp
    · rw [← hc.1, List.getElem?_append_right (by omega)]; simp
    · rw [← hc.1, List.getElem?_append_right (by omega)]; simp
theorem posN_some {α : Type} [DecidableEq α] {s : α} {S : List α} {i : Nat} (h : fidx s S = some i) : posN s S = i + 1 := by simp [posN, h]
theorem posN_none {α : Type} [DecidableEq α] {s : α} {S : List α} (h : fidx s S = none) : posN s S = S.length + 1 := by simp [posN, h]
theorem ans_nrseal {m : Mem} {y : Nat} {R Q : List Nat} {S : List Sd} {T : List (List B8)} {hx bx : AV} {s : Sd} (hN : RNm m y R Q S T) (hh : RdB m hx s.2.2.1) (hb : RdB m bx s.2.2.2)
    (hd : ∀ b ∈ blkOf bx, b ∉ Q) (hS : S.length ≤ 1000) (hl : s.2.2.1.length ≤ 100000 ∧ s.2.2.2.length ≤ 100000) (hSl : ∀ t ∈ S, t.2.2.1.length ≤ 100000 ∧ t.2.2.2.length ≤ 100000) :
    Ans Try.prog 17 [.ptr y 0, .int .i64 s.1, .int .i64 s.2.1, hx, bx] m (nrsealQ m y R Q S T s) := by
  refine ans_ret mixed ok17 ?_
  by_cases hp : mayP s
  · obtain ⟨⟨p1, p2⟩, p3, p4⟩ := id hp
    simp -implicitDefEqProofs (disch := (first | omega | (simp only [lenB, lowB_len, numB_len, nsumB_len] <;> omega) | fail)) only [admQ, lenB, lowB_len, numB_len, nsumB_len, aFill, AK.cls, implies_true, ↓reduceIte, reduceCtorEq, if_true, if_false, Nat.reduceAdd, Nat.reduceEqDiff, Nat.reduceMod, Nat.reduceLT, Nat.reduceLeDiff, Nat.reduceSub, Nat.reduceMul, Nat.reduceBEq, Int.reduceAdd, Int.reduceSub, Int.reduceMul, Int.reduceNeg, Int.reduceLT, Int.reduceLE, Int.reduceToNat, Int.reduceEq, Int.reduceBEq, p17, r17, dec_f (show ¬ s.1 < 0 by omega), dec_f (show ¬ s.2.1 < 0 by omega), dec_f (show ¬ s.1 > 1099511627776 by omega), dec_f (show ¬ s.2.1 > 1099511627776 by omega)]
    refine (ans_copynew hh (by omega)).mono ?_
    rintro h1 m1 ⟨k1, g1, n1⟩
    simp -implicitDefEqProofs (disch := (first | omega | (simp only [lenB, lowB_len, numB_len, nsumB_len] <;> omega) | fail)) only [admQ, lenB, lowB_len, numB_len, nsumB_len, aFill, AK.cls, implies_true, ↓reduceIte, reduceCtorEq, if_true, if_false, Nat.reduceAdd, Nat.reduceEqDiff, Nat.reduceMod, Nat.reduceLT, Nat.reduceLeDiff, Nat.reduceSub, Nat.reduceMul, Nat.reduceBEq, Int.reduceAdd, Int.reduceSub, Int.reduceMul, Int.reduceNeg, Int.reduceLT, Int.reduceLE, Int.reduceToNat, Int.reduceEq, Int.reduceBEq]
    refine (ans_copynew (hb.kept0 k1) (by omega)).mono ?_
    rintro q1 m2 ⟨k2, g2, n2⟩
    have K2 := k1.trans k2
    have g1' := g1.kept0 k2
    simp -implicitDefEqProofs (disch := (first | omega | (simp only [lenB, lowB_len, numB_len, nsumB_len] <;> omega) | fail)) only [admQ, lenB, lowB_len, numB_len, nsumB_len, aFill, AK.cls, implies_true, ↓reduceIte, reduceCtorEq, if_true, if_false, Nat.reduceAdd, Nat.reduceEqDiff, Nat.reduceMod, Nat.reduceLT, Nat.reduceLeDiff, Nat.reduceSub, Nat.reduceMul, Nat.reduceBEq, Int.reduceAdd, Int.reduceSub, Int.reduceMul, Int.reduceNeg, Int.reduceLT, Int.reduceLE, Int.reduceToNat, Int.reduceEq, Int.reduceBEq, (gr_one g1).1, (gr_one g1).2, (gr_one g2).1, (gr_one g2).2]
    have o0 : own (m2 ++ [Blk.row [.int .i64 s.1, .int .i64 s.2.1, h1, q1] false]) m2.length = some [.int .i64 s.1, .int .i64 s.2.1, h1, q1] := by rw [own_app_at0]; rfl
    have k0 := Kept.app [] m2 [Blk.row [.int .i64 s.1, .int .i64 s.2.1, h1, q1] false]
    generalize m2 ++ [Blk.row [.int .i64 s.1, .int .i64 s.2.1, h1, q1] false] = A at k0 o0
    have K0 := K2.trans k0
    have G1 := g1'.kept0 k0
    have G2 := g2.kept0 k0
    have lt1 := g1'.lt
    have lt2 := g2.lt
    have hml := k1.len
    have hml2 := k2.len
    refine (ans_nrplace (s := s) (hN.kept0 K0) G1.rd G2.rd (by omega) hl hSl).mono ?_
    rintro _ B ⟨kB, rfl⟩
    simp -implicitDefEqProofs (disch := (first | omega | (simp only [lenB, lowB_len, numB_len, nsumB_len] <;> omega) | fail)) only [admQ, lenB, lowB_len, numB_len, nsumB_len, aFill, AK.cls, implies_true, ↓reduceIte, reduceCtorEq, if_true, if_false, Nat.reduceAdd, Nat.reduceEqDiff, Nat.reduceMod, Nat.reduceLT, Nat.reduceLeDiff, Nat.reduceSub, Nat.reduceMul, Nat.reduceBEq, Int.reduceAdd, Int.reduceSub, Int.reduceMul, Int.reduceNeg, Int.reduceLT, Int.reduceLE, Int.reduceToNat, Int.reduceEq, Int.reduceBEq]
    have KB := K0.trans kB
    have oB := kB.own o0 (by simp)
    have GB1 := G1.kept0 kB
    have GB2 := G2.kept0 kB
    have hb0 := hb.kept0 KB
    have hNB := hN.kept0 KB
    cases hf : fidx s S with
    | some i =>
      have hi := fidx_lt hf
      have hin := List.mem_of_getElem? (fidx_some hf)
      refine wp_join2 [4, 12] (fun _ : Unit => [(4, bx), (12, .int .i64 ((i + 1 : Nat) : Int))]) (fun _ M' => M' = B) rfl ?_ ?_
      · simp -implicitDefEqProofs (disch := (first | omega | (simp only [lenB, lowB_len, numB_len, nsumB_len] <;> omega) | fail)) only [admQ, lenB, lowB_len, numB_len, nsumB_len, aFill, AK.cls, implies_true, ↓reduceIte, reduceCtorEq, if_true, if_false, Nat.reduceAdd, Nat.reduceEqDiff, Nat.reduceMod, Nat.reduceLT, Nat.reduceLeDiff, Nat.reduceSub, Nat.reduceMul, Nat.reduceBEq, Int.reduceAdd, Int.reduceSub, Int.reduceMul, Int.reduceNeg, Int.reduceLT, Int.reduceLE, Int.reduceToNat, Int.reduceEq, Int.reduceBEq, c17_1, joins]
        exact ⟨(), trivial⟩
      · rintro _ M' rfl
        exact nrsealTail hp hb0 hS hl.2 (KB.more (by simp)) (by rw [addN, if_pos hin]; exact hNB) (fun b hb => .inl hb) _ (posN_some hf).symm (by omega)
    | none =>
      have hin := fidx_none.mp hf
      refine wp_join2 [4, 12] (fun _ : Unit => [(4, bx), (12, .int .i64 ((S.length + 1 : Nat) : Int))]) (fun _ M' => ∃ R' Q', Kept R m M' ∧ RNm M' y R' Q' (S ++ [s]) T ∧ RdB M' bx s.2.2.2 ∧ ∀ b ∈ Q', b ∈ Q ∨ m.length ≤ b) rfl ?_ ?_
      · obtain ⟨vS, vT, cS, cT, h1', h2, h3, hR, h5, h6, h7, h8, h9⟩ := hNB.ex
        have hQm := hN.lt
        have hsl := h8.1
        have hRQ := hN.sub
        have hyQ : y ∈ Q := hRQ y (by rw [hR]; simp)
        have hvQ : ∀ b ∈ blkOf vS, b ∈ Q := fun b hb => hRQ b (by rw [hR]; simp [hb])
        have hyB := own_lt h1'
        have hym := hQm y hyQ
        have hvT : ∀ b ∈ blkOf vT, b ∈ Q := fun b hb => hRQ b (by rw [hR]; simp [hb])
        have kC := Kept.app [] B [Blk.row [.int .i64 s.1, .int .i64 s.2.1, h1, q1] false]
        obtain ⟨v2, m3, e2, gv2, kv2, av2, nv2⟩ := GrA.pushs5 (bytes := 64) (k := 1) (y := .sl B.length 0 1 1 0) (l2 := [.int .i64 s.1, .int .i64 s.2.1, h1, q1]) (h2.kept0 kC) (by omega) (elemsS_one B rfl) rfl rfl (by omega) (Nat.zero_le _)
        simp -implicitDefEqProofs (disch := (first | omega | (simp only [lenB, lowB_len, numB_len, nsumB_len] <;> omega) | fail)) only [admQ, lenB, lowB_len, numB_len, nsumB_len, aFill, AK.cls, implies_true, ↓reduceIte, reduceCtorEq, if_true, if_false, Nat.reduceAdd, Nat.reduceEqDiff, Nat.reduceMod, Nat.reduceLT, Nat.reduceLeDiff, Nat.reduceSub, Nat.reduceMul, Nat.reduceBEq, Int.reduceAdd, Int.reduceSub, Int.reduceMul, Int.reduceNeg, Int.reduceLT, Int.reduceLE, Int.reduceToNat, Int.reduceEq, Int.reduceBEq, c17_1, joins, rowOf_own h1', rowOf_own oB]
        refine someW_eq e2 ?_
        have hCl : (B ++ [Blk.row [.int .i64 s.1, .int .i64 s.2.1, h1, q1] false]).length = B.length + 1 := by simp
        generalize B ++ [Blk.row [.int .i64 s.1, .int .i64 s.2.1, h1, q1] false] = C at *
        have y1 := kv2.own (kC.own h1' (by simp)) h5
        have hy1 := own_lt y1
        have y2 := own_set hy1 [v2, vT]
        have hBm := KB.len
        have hv2b : ∀ b ∈ blkOf v2, B.length < b := fun b hb => by have := nv2 (by omega) b hb; omega
        have hsl2 : (cS ++ [.int .i64 s.1, .int .i64 s.2.1, h1, q1]).length = (S.length + 1) * 4 := by simp [hsl]; omega
        have kX := Kept.set1 m3 y (.row [v2, vT] false)
        have gv3 := gv2.kept kX (by simp; rintro b hb rfl; have := hv2b b hb; omega)
        simp -implicitDefEqProofs (disch := (first | omega | (simp only [lenB, lowB_len, numB_len, nsumB_len] <;> omega) | fail)) only [admQ, lenB, lowB_len, numB_len, nsumB_len, aFill, AK.cls, implies_true, ↓reduceIte, reduceCtorEq, if_true, if_false, Nat.reduceAdd, Nat.reduceEqDiff, Nat.reduceMod, Nat.reduceLT, Nat.reduceLeDiff, Nat.reduceSub, Nat.reduceMul, Nat.reduceBEq, Int.reduceAdd, Int.reduceSub, Int.reduceMul, Int.reduceNeg, Int.reduceLT, Int.reduceLE, Int.reduceToNat, Int.reduceEq, Int.reduceBEq, y1, (gr_one gv2).1, (gr_one gv2).2, rowOf_own y2, gr_lenS gv3 (by omega) hsl2]
        have kall : Kept R B (m3.set y (.row [v2, vT] false)) := ((kC.more (by simp)).trans (kv2.more fun q hq _ => by rw [hR]; simp [hq])).trans (kX.more fun q hq _ => by simp at hq; rw [hR]; simp [hq])
        have hRm : ∀ b ∈ R, b < m.length := fun b hb => hQm b (hRQ b hb)
        have nR : ∀ b, m.length ≤ b → b ∉ R := fun b hb h => by have := hRm b h; omega
        have nG : ∀ b, b ∈ Q ∨ b ∈ blkOf h1 ∨ b ∈ blkOf q1 → b ∉ R → b ∉ y :: (blkOf v2 ++ blkOf vT) := fun b hb hr h => by
          have hbB : b < B.length := by
            rcases hb with hb | hb | hb
            · have := hQm b hb; omega
            · have := lt1 b hb; have := k0.len; have := kB.len; omega
            · have := lt2 b hb; have := k0.len; have := kB.len; omega
          simp only [List.mem_cons, List.mem_append] at h
          rcases h with h | h | h
          · exact hr (by rw [hR]; simp [h])
          · have := hv2b b h; omega
          · exact hr (by rw [hR]; simp [h])
        refine ⟨(), rfl, y :: (blkOf v2 ++ blkOf vT), Q ++ (blkOf v2 ++ (blkOf h1 ++ blkOf q1)), (KB.more (by simp)).trans kall, ⟨⟨v2, vT, _, cT, y2, gv3, ?_, rfl, ?_, h6, ?_, SdL.snoc ?_ ?_ ?_ ?_ ?_, ?_⟩, ?_, ?_, ?_⟩, ?_, ?_⟩
        · exact (((h3.kept0 kC).kept kv2 fun b hb h => h7 b h hb)).kept kX (by simp; rintro b hb rfl; exact h6 hb)
        · intro h; have := hv2b y h; omega
        · intro b h h'; have := hv2b b h; have := hQm b (hvT b h'); omega
        · exact h8.kept kall (fun b hb => hb.2) (fun b hb _ => ⟨by simp [hb.1], nG b (.inl hb.1) hb.2⟩)
        · exact GB1.rd.kept kall (fun b o n cap s' e => nR b (n1 b (by rw [e]; simp [blkOf])))
        · exact GB2.rd.kept kall (fun b o n cap s' e => nR b (by have := n2 b (by rw [e]; simp [blkOf]); omega))
        · exact fun b hb => ⟨by simp [hb], nG b (.inr (.inl hb)) (nR b (n1 b hb))⟩
        · exact fun b hb => ⟨by simp [hb], nG b (.inr (.inr hb)) (nR b (by have := n2 b hb; omega))⟩
        · exact h9.kept kall (fun b hb => hb.2) (fun b hb _ => ⟨by simp [hb.1], nG b (.inl hb.1) hb.2⟩)
        · intro b hb
          simp only [List.mem_cons, List.mem_append] at hb ⊢
          rcases hb with rfl | hb | hb
          · exact .inl hyQ
          · exact .inr (.inl hb)
          · exact .inl (hvT b hb)
        · intro b hb
          simp only [List.mem_append] at hb
          have := kall.len
          have := k0.len
          have := kB.len
          rcases hb with hb | hb | hb | hb
          · have := hQm b hb; omega
          · exact gv3.lt b hb
          · have := lt1 b hb; omega
          · have := lt2 b hb; omega
        · exact ⟨List.nodup_append.mpr ⟨hN.nd.1, by simp, fun a ha b hb e => by rw [List.mem_singleton] at hb; rw [e, hb] at ha; exact hin ha⟩, hN.nd.2⟩
        · exact hb0.kept kall (fun b o n cap s' e h => hd b (by rw [e]; simp [blkOf]) (hRQ b h))
        · intro b hb
          simp only [List.mem_append] at hb
          rcases hb with hb | hb | hb | hb
          · exact .inl hb
          · have := hv2b b hb; exact .inr (by omega)
          · exact .inr (n1 b hb)
          · have := n2 b hb; exact .inr (by omega)
      · rintro _ M' ⟨R', Q', hk, hN', hb', hQ⟩
        exact nrsealTail hp hb' hS hl.2 hk (by rw [addN, if_neg hin]; exact hN') hQ _ (posN_none hf).symm (by omega)
  · have hno : nrsealQ m y R Q S T s .nils m := ⟨R, Q, .refl _ _, by rw [sealS2, if_neg hp]; exact hN, fun b hb => .inl hb, by rw [sealR, if_neg hp]; exact .nils .., by simp [blkOf]⟩
    by_cases a1 : s.1 < 0
    · simp -implicitDefEqProofs (disch := (first | omega | (simp only [lenB, lowB_len, numB_len, nsumB_len] <;> omega) | fail)) only [admQ, lenB, lowB_len, numB_len, nsumB_len, aFill, AK.cls, implies_true, ↓reduceIte, reduceCtorEq, if_true, if_false, Nat.reduceAdd, Nat.reduceEqDiff, Nat.reduceMod, Nat.reduceLT, Nat.reduceLeDiff, Nat.reduceSub, Nat.reduceMul, Nat.reduceBEq, Int.reduceAdd, Int.reduceSub, Int.reduceMul, Int.reduceNeg, Int.reduceLT, Int.reduceLE, Int.reduceToNat, Int.reduceEq, Int.reduceBEq, p17, r17, dec_t a1]
      exact hno
    · by_cases a2 : s.2.1 < 0
      · simp -implicitDefEqProofs (disch := (first | omega | (simp only [lenB, lowB_len, numB_len, nsumB_len] <;> omega) | fail)) only [admQ, lenB, lowB_len, numB_len, nsumB_len, aFill, AK.cls, implies_true, ↓reduceIte, reduceCtorEq, if_true, if_false, Nat.reduceAdd, Nat.reduceEqDiff, Nat.reduceMod, Nat.reduceLT, Nat.reduceLeDiff, Nat.reduceSub, Nat.reduceMul, Nat.reduceBEq, Int.reduceAdd, Int.reduceSub, Int.reduceMul, Int.reduceNeg, Int.reduceLT, Int.reduceLE, Int.reduceToNat, Int.reduceEq, Int.reduceBEq, p17, r17, dec_f a1, dec_t a2]
        exact hno
      · by_cases a3 : s.1 > 1099511627776
        · simp -implicitDefEqProofs (disch := (first | omega | (simp only [lenB, lowB_len, numB_len, nsumB_len] <;> omega) | fail)) only [admQ, lenB, lowB_len, numB_len, nsumB_len, aFill, AK.cls, implies_true, ↓reduceIte, reduceCtorEq, if_true, if_false, Nat.reduceAdd, Nat.reduceEqDiff, Nat.reduceMod, Nat.reduceLT, Nat.reduceLeDiff, Nat.reduceSub, Nat.reduceMul, Nat.reduceBEq, Int.reduceAdd, Int.reduceSub, Int.reduceMul, Int.reduceNeg, Int.reduceLT, Int.reduceLE, Int.reduceToNat, Int.reduceEq, Int.reduceBEq, p17, r17, dec_f a1, dec_f a2, dec_t a3]
          exact hno
        · have a4 : s.2.1 > 1099511627776 := by
            by_cases a4 : s.2.1 > 1099511627776
            · exact a4
            · exact absurd ⟨⟨by omega, by omega⟩, by omega, by omega⟩ hp
          simp -implicitDefEqProofs (disch := (first | omega | (simp only [lenB, lowB_len, numB_len, nsumB_len] <;> omega) | fail)) only [admQ, lenB, lowB_len, numB_len, nsumB_len, aFill, AK.cls, implies_true, ↓reduceIte, reduceCtorEq, if_true, if_false, Nat.reduceAdd, Nat.reduceEqDiff, Nat.reduceMod, Nat.reduceLT, Nat.reduceLeDiff, Nat.reduceSub, Nat.reduceMul, Nat.reduceBEq, Int.reduceAdd, Int.reduceSub, Int.reduceMul, Int.reduceNeg, Int.reduceLT, Int.reduceLE, Int.reduceToNat, Int.reduceEq, Int.reduceBEq, p17, r17, dec_f a1, dec_f a2, dec_f a3, dec_t a4]
          exact hno
end Go.Proofs.Ytodkgembfcddbaa
end
section
/- Names as the document has them: opened, summed. -/
namespace Go.Proofs.Ytodkgembfcddbaa
open Go Go.Adm
set_option linter.unusedSimpArgs false
set_option linter.unusedVariables false
set_option maxRecDepth 100000
theorem ans_nropen {m : Mem} {y : Nat} {R Q : List Nat} {S : List Sd} {T : List (List B8)} {hx bx : AV} {e n : Int} {head b : List B8} (hN : RNm m y R Q S T) (hh : RdB m hx head) (hb : RdB m bx b) (hS : S.length ≤ 1000) (hl : head.length ≤ 100000 ∧ b.length ≤ 100000)
    (hSl : ∀ t ∈ S, t.2.2.1.length ≤ 100000 ∧ t.2.2.2.length ≤ 100000) :
    Ans Try.prog 21 [.ptr y 0, .int .i64 e, .int .i64 n, hx, bx] m fun r m' => Kept [] m m' ∧
      (nopenP S e n head b → ∃ v, r = .tup [v, .bool true] ∧ GrB m.length m' v (b.take (b.length - 32)) ∧ ∀ q ∈ blkOf v, m.length ≤ q) ∧ (¬ nopenP S e n head b → r = .tup [.nils, .bool false]) := by
  refine ans_ret mixed ok21 ?_
  by_cases h32 : b.length < 32
  · have hno : ¬ nopenP S e n head b := fun h => by have := h.1; omega
    simp -implicitDefEqProofs (disch := (first | omega | (simp only [lenB, lowB_len, numB_len, nsumB_len] <;> omega) | fail)) only [admQ, lenB, lowB_len, numB_len, nsumB_len, aFill, AK.cls, implies_true, ↓reduceIte, reduceCtorEq, if_true, if_false, Nat.reduceAdd, Nat.reduceEqDiff, Nat.reduceMod, Nat.reduceLT, Nat.reduceLeDiff, Nat.reduceSub, Nat.reduceMul, Nat.reduceBEq, Int.reduceAdd, Int.reduceSub, Int.reduceMul, Int.reduceNeg, Int.reduceLT, Int.reduceLE, Int.reduceToNat, Int.reduceEq, Int.reduceBEq, q21, d21_1, r21, hb.len, dec_t (show (b.length : Int) - 32 < 0 by omega)]
    exact ⟨.refl _ _, fun h => absurd h hno⟩
  · obtain ⟨vS, vT, cS, cT, h1, h2, h3, hR, h5, h6, h7, h8, h9⟩ := hN.ex
    obtain ⟨q, o, cap, sl, cc, rfl, hrow, hat, hlen, hcap, hsl, htk⟩ := hb.cons (i := 0) (by omega)
    have hpl := hb.take (k := b.length - 32) (by omega)
    have htg := hb.drop (k := b.length - 32) (by omega)
    have hp8 : (b.take (b.length - 32)).length = b.length - 32 := by simp
    have ht8 : (b.drop (b.length - 32)).length = 32 := by simp; omega
    have h12 : (b.length : Int) - 32 = ((b.length - 32 : Nat) : Int) := by omega
    simp -implicitDefEqProofs (disch := (first | omega | (simp only [lenB, lowB_len, numB_len, nsumB_len] <;> omega) | fail)) only [admQ, lenB, lowB_len, numB_len, nsumB_len, aFill, AK.cls, implies_true, ↓reduceIte, reduceCtorEq, if_true, if_false, Nat.reduceAdd, Nat.reduceEqDiff, Nat.reduceMod, Nat.reduceLT, Nat.reduceLeDiff, Nat.reduceSub, Nat.reduceMul, Nat.reduceBEq, Int.reduceAdd, Int.reduceSub, Int.reduceMul, Int.reduceNeg, Int.reduceLT, Int.reduceLE, Int.reduceToNat, Int.reduceEq, Int.reduceBEq, q21, d21_1, d21_2, r21, hb.len, h12]
    refine LoopW.on (fun i : Nat => [(0, .ptr y 0), (1, .int .i64 e), (2, .int .i64 n), (3, hx), (4, .sl q o b.length cap sl), (12, .int .i64 ((b.length - 32 : Nat) : Int)), (13, .int .i64 ((i + 1 : Nat) : Int))]) (fun i => S.length - i)
      (fun i M => i ≤ S.length ∧ Kept [] m M ∧ ∀ j, j < i → ¬ (S[j]? = some (e, n, head, b.take (b.length - 32)) ∧ b.drop (b.length - 32) = zeros 24 ++ numB (j + 1))) ?_ 0 _ _ rfl ⟨by omega, .refl _ _, fun j hj => by omega⟩
    rintro i M X ⟨hi, kk, hj⟩ hX
    have y1 := kk.own h1 (by simp)
    by_cases hlt : i < S.length
    · obtain ⟨bS, rfl, hbS⟩ := gr_slS h2 (by omega) h8.1 (by omega)
      obtain ⟨t, ht⟩ : ∃ t, S[i]? = some t := ⟨_, List.getElem?_eq_getElem hlt⟩
      obtain ⟨h', p', a1, a2, a3, a4, a5, a6, -, -⟩ := h8.2 i t ht
      have t4 := take4 a1 a2 a3 a4
      have bM := kk.own hbS (by simp)
      have hcl := h8.1
      obtain ⟨htl1, htl2⟩ := hSl t (List.mem_of_getElem? ht)
      have e1 : ((i + 1 : Nat) : Int) - 1 = (i : Int) := by omega
      simp -implicitDefEqProofs (disch := (first | omega | (simp only [lenB, lowB_len, numB_len, nsumB_len] <;> omega) | fail)) only [admQ, lenB, lowB_len, numB_len, nsumB_len, aFill, AK.cls, implies_true, ↓reduceIte, reduceCtorEq, if_true, if_false, Nat.reduceAdd, Nat.reduceEqDiff, Nat.reduceMod, Nat.reduceLT, Nat.reduceLeDiff, Nat.reduceSub, Nat.reduceMul, Nat.reduceBEq, Int.reduceAdd, Int.reduceSub, Int.reduceMul, Int.reduceNeg, Int.reduceLT, Int.reduceLE, Int.reduceToNat, Int.reduceEq, Int.reduceBEq, d21_3, d21_4, d21_5, rowOf_own y1, rowOf_own bM, t4, e1]
      have oA : own (M ++ [Blk.row [.int .i64 t.1, .int .i64 t.2.1, h', p'] false]) M.length = some [.int .i64 t.1, .int .i64 t.2.1, h', p'] := by rw [own_app_at0]; rfl
      have kA := kk.trans (Kept.app [] M [Blk.row [.int .i64 t.1, .int .i64 t.2.1, h', p'] false])
      have kA0 := Kept.app [] M [Blk.row [.int .i64 t.1, .int .i64 t.2.1, h', p'] false]
      generalize M ++ [Blk.row [.int .i64 t.1, .int .i64 t.2.1, h', p'] false] = A at *
      have step : ∀ N, Kept [] A N → ∀ j, j < i + 1 → ¬ (t = (e, n, head, b.take (b.length - 32)) ∧ b.drop (b.length - 32) = zeros 24 ++ numB (i + 1)) → ¬ (S[j]? = some (e, n, head, b.take (b.length - 32)) ∧ b.drop (b.length - 32) = zeros 24 ++ numB (j + 1)) := fun N _ j hj2 hne => by
        by_cases hji : j = i
        · subst hji; rw [ht]; intro h; exact hne ⟨Option.some.inj h.1, h.2⟩
        · exact hj j (by omega)
      refine (ans_nrtag (i + 1) (by omega) _).mono ?_
      rintro y41 B ⟨kB, gB⟩
      have KB := kA.trans kB
      simp -implicitDefEqProofs (disch := (first | omega | (simp only [lenB, lowB_len, numB_len, nsumB_len] <;> omega) | fail)) only [admQ, lenB, lowB_len, numB_len, nsumB_len, aFill, AK.cls, implies_true, ↓reduceIte, reduceCtorEq, if_true, if_false, Nat.reduceAdd, Nat.reduceEqDiff, Nat.reduceMod, Nat.reduceLT, Nat.reduceLeDiff, Nat.reduceSub, Nat.reduceMul, Nat.reduceBEq, Int.reduceAdd, Int.reduceSub, Int.reduceMul, Int.reduceNeg, Int.reduceLT, Int.reduceLE, Int.reduceToNat, Int.reduceEq, Int.reduceBEq]
      refine (ans_samebytes (htg.kept0 KB) gB.rd (by omega)).mono ?_
      rintro _ C ⟨rfl, hM⟩
      subst hM
      by_cases hq : b.drop (b.length - 32) = zeros 24 ++ numB (i + 1)
      · have oC := kB.own oA (by simp)
        have nxt : t ≠ (e, n, head, b.take (b.length - 32)) → ∀ N, Kept [] C N → X [(0, .ptr y 0), (1, .int .i64 e), (2, .int .i64 n), (3, hx), (4, .sl q o b.length cap sl), (12, .int .i64 ((b.length - 32 : Nat) : Int)), (13, .int .i64 ((i + 1 + 1 : Nat) : Int))] N := fun hne N hN =>
          hX (i + 1) _ _ rfl (by omega) ⟨by omega, KB.trans hN, fun j hj2 => step C kB j hj2 fun h => hne h.1⟩
        have hno : t ≠ (e, n, head, b.take (b.length - 32)) → True := fun _ => trivial
        simp -implicitDefEqProofs (disch := (first | omega | (simp only [lenB, lowB_len, numB_len, nsumB_len] <;> omega) | fail)) only [admQ, lenB, lowB_len, numB_len, nsumB_len, aFill, AK.cls, implies_true, ↓reduceIte, reduceCtorEq, if_true, if_false, Nat.reduceAdd, Nat.reduceEqDiff, Nat.reduceMod, Nat.reduceLT, Nat.reduceLeDiff, Nat.reduceSub, Nat.reduceMul, Nat.reduceBEq, Int.reduceAdd, Int.reduceSub, Int.reduceMul, Int.reduceNeg, Int.reduceLT, Int.reduceLE, Int.reduceToNat, Int.reduceEq, Int.reduceBEq, d21_6, beq_iff_eq.mpr hq, Bool.not_true]
        by_cases he : t.1 = e
        · by_cases hn : t.2.1 = n
          · simp -implicitDefEqProofs (disch := (first | omega | (simp only [lenB, lowB_len, numB_len, nsumB_len] <;> omega) | fail)) only [admQ, lenB, lowB_len, numB_len, nsumB_len, aFill, AK.cls, implies_true, ↓reduceIte, reduceCtorEq, if_true, if_false, Nat.reduceAdd, Nat.reduceEqDiff, Nat.reduceMod, Nat.reduceLT, Nat.reduceLeDiff, Nat.reduceSub, Nat.reduceMul, Nat.reduceBEq, Int.reduceAdd, Int.reduceSub, Int.reduceMul, Int.reduceNeg, Int.reduceLT, Int.reduceLE, Int.reduceToNat, Int.reduceEq, Int.reduceBEq, rowOf_own oC, beq_iff_eq.mpr he, beq_iff_eq.mpr hn]
            refine (ans_samebytes (a5.kept0 KB) (hh.kept0 KB) (by omega)).mono ?_
            rintro _ N ⟨rfl, hM⟩
            subst hM
            by_cases hhd : t.2.2.1 = head
            · simp -implicitDefEqProofs (disch := (first | omega | (simp only [lenB, lowB_len, numB_len, nsumB_len] <;> omega) | fail)) only [admQ, lenB, lowB_len, numB_len, nsumB_len, aFill, AK.cls, implies_true, ↓reduceIte, reduceCtorEq, if_true, if_false, Nat.reduceAdd, Nat.reduceEqDiff, Nat.reduceMod, Nat.reduceLT, Nat.reduceLeDiff, Nat.reduceSub, Nat.reduceMul, Nat.reduceBEq, Int.reduceAdd, Int.reduceSub, Int.reduceMul, Int.reduceNeg, Int.reduceLT, Int.reduceLE, Int.reduceToNat, Int.reduceEq, Int.reduceBEq, rowOf_own oC, beq_iff_eq.mpr hhd]
              refine (ans_samebytes (a6.kept0 KB) (hpl.kept0 KB) (by omega)).mono ?_
              rintro _ N ⟨rfl, hM⟩
              subst hM
              by_cases hpp : t.2.2.2 = b.take (b.length - 32)
              · obtain rfl : t = (e, n, head, b.take (b.length - 32)) := by
                  obtain ⟨t1, t2, t3, t4⟩ := t
                  simp_all
                have hf := fidx_nodup hN.nd.1 ht
                have hyes : nopenP S e n head b := ⟨by omega, i, hf, hq⟩
                simp -implicitDefEqProofs (disch := (first | omega | (simp only [lenB, lowB_len, numB_len, nsumB_len] <;> omega) | fail)) only [admQ, lenB, lowB_len, numB_len, nsumB_len, aFill, AK.cls, implies_true, ↓reduceIte, reduceCtorEq, if_true, if_false, Nat.reduceAdd, Nat.reduceEqDiff, Nat.reduceMod, Nat.reduceLT, Nat.reduceLeDiff, Nat.reduceSub, Nat.reduceMul, Nat.reduceBEq, Int.reduceAdd, Int.reduceSub, Int.reduceMul, Int.reduceNeg, Int.reduceLT, Int.reduceLE, Int.reduceToNat, Int.reduceEq, Int.reduceBEq, rowOf_own oC, beq_iff_eq.mpr hpp]
                refine (ans_copynew (a6.kept0 KB) (by omega)).mono ?_
                rintro v N ⟨kN, gN, nN⟩
                simp -implicitDefEqProofs (disch := (first | omega | (simp only [lenB, lowB_len, numB_len, nsumB_len] <;> omega) | fail)) only [admQ, lenB, lowB_len, numB_len, nsumB_len, aFill, AK.cls, implies_true, ↓reduceIte, reduceCtorEq, if_true, if_false, Nat.reduceAdd, Nat.reduceEqDiff, Nat.reduceMod, Nat.reduceLT, Nat.reduceLeDiff, Nat.reduceSub, Nat.reduceMul, Nat.reduceBEq, Int.reduceAdd, Int.reduceSub, Int.reduceMul, Int.reduceNeg, Int.reduceLT, Int.reduceLE, Int.reduceToNat, Int.reduceEq, Int.reduceBEq]
                have := KB.len
                exact ⟨KB.trans kN, fun _ => ⟨v, rfl, gN.low this, fun z hz => Nat.le_trans this (nN z hz)⟩, fun h => absurd hyes h⟩
              · simp -implicitDefEqProofs (disch := (first | omega | (simp only [lenB, lowB_len, numB_len, nsumB_len] <;> omega) | fail)) only [admQ, lenB, lowB_len, numB_len, nsumB_len, aFill, AK.cls, implies_true, ↓reduceIte, reduceCtorEq, if_true, if_false, Nat.reduceAdd, Nat.reduceEqDiff, Nat.reduceMod, Nat.reduceLT, Nat.reduceLeDiff, Nat.reduceSub, Nat.reduceMul, Nat.reduceBEq, Int.reduceAdd, Int.reduceSub, Int.reduceMul, Int.reduceNeg, Int.reduceLT, Int.reduceLE, Int.reduceToNat, Int.reduceEq, Int.reduceBEq, beq_eq_false_iff_ne.mpr hpp]
                exact nxt (fun h => hpp (by rw [h])) _ (.refl _ _)
            · simp -implicitDefEqProofs (disch := (first | omega | (simp only [lenB, lowB_len, numB_len, nsumB_len] <;> omega) | fail)) only [admQ, lenB, lowB_len, numB_len, nsumB_len, aFill, AK.cls, implies_true, ↓reduceIte, reduceCtorEq, if_true, if_false, Nat.reduceAdd, Nat.reduceEqDiff, Nat.reduceMod, Nat.reduceLT, Nat.reduceLeDiff, Nat.reduceSub, Nat.reduceMul, Nat.reduceBEq, Int.reduceAdd, Int.reduceSub, Int.reduceMul, Int.reduceNeg, Int.reduceLT, Int.reduceLE, Int.reduceToNat, Int.reduceEq, Int.reduceBEq, beq_eq_false_iff_ne.mpr hhd]
              exact nxt (fun h => hhd (by rw [h])) _ (.refl _ _)
          · simp -implicitDefEqProofs (disch := (first | omega | (simp only [lenB, lowB_len, numB_len, nsumB_len] <;> omega) | fail)) only [admQ, lenB, lowB_len, numB_len, nsumB_len, aFill, AK.cls, implies_true, ↓reduceIte, reduceCtorEq, if_true, if_false, Nat.reduceAdd, Nat.reduceEqDiff, Nat.reduceMod, Nat.reduceLT, Nat.reduceLeDiff, Nat.reduceSub, Nat.reduceMul, Nat.reduceBEq, Int.reduceAdd, Int.reduceSub, Int.reduceMul, Int.reduceNeg, Int.reduceLT, Int.reduceLE, Int.reduceToNat, Int.reduceEq, Int.reduceBEq, rowOf_own oC, beq_iff_eq.mpr he, beq_eq_false_iff_ne.mpr hn]
            exact nxt (fun h => hn (by rw [h])) _ (.refl _ _)
        · simp -implicitDefEqProofs (disch := (first | omega | (simp only [lenB, lowB_len, numB_len, nsumB_len] <;> omega) | fail)) only [admQ, lenB, lowB_len, numB_len, nsumB_len, aFill, AK.cls, implies_true, ↓reduceIte, reduceCtorEq, if_true, if_false, Nat.reduceAdd, Nat.reduceEqDiff, Nat.reduceMod, Nat.reduceLT, Nat.reduceLeDiff, Nat.reduceSub, Nat.reduceMul, Nat.reduceBEq, Int.reduceAdd, Int.reduceSub, Int.reduceMul, Int.reduceNeg, Int.reduceLT, Int.reduceLE, Int.reduceToNat, Int.reduceEq, Int.reduceBEq, rowOf_own oC, beq_eq_false_iff_ne.mpr he]
          exact nxt (fun h => he (by rw [h])) _ (.refl _ _)
      · simp -implicitDefEqProofs (disch := (first | omega | (simp only [lenB, lowB_len, numB_len, nsumB_len] <;> omega) | fail)) only [admQ, lenB, lowB_len, numB_len, nsumB_len, aFill, AK.cls, implies_true, ↓reduceIte, reduceCtorEq, if_true, if_false, Nat.reduceAdd, Nat.reduceEqDiff, Nat.reduceMod, Nat.reduceLT, Nat.reduceLeDiff, Nat.reduceSub, Nat.reduceMul, Nat.reduceBEq, Int.reduceAdd, Int.reduceSub, Int.reduceMul, Int.reduceNeg, Int.reduceLT, Int.reduceLE, Int.reduceToNat, Int.reduceEq, Int.reduceBEq, beq_eq_false_iff_ne.mpr hq, Bool.not_false]
        exact hX (i + 1) _ _ rfl (by omega) ⟨by omega, KB, fun j hj2 => step C kB j hj2 fun h => hq h.2⟩
    · obtain rfl : i = S.length := by omega
      have hno : ¬ nopenP S e n head b := fun h => by
        obtain ⟨_, j, hf, hq⟩ := h
        exact hj j (fidx_lt hf) ⟨fidx_some hf, hq⟩
      simp -implicitDefEqProofs (disch := (first | omega | (simp only [lenB, lowB_len, numB_len, nsumB_len] <;> omega) | fail)) only [admQ, lenB, lowB_len, numB_len, nsumB_len, aFill, AK.cls, implies_true, ↓reduceIte, reduceCtorEq, if_true, if_false, Nat.reduceAdd, Nat.reduceEqDiff, Nat.reduceMod, Nat.reduceLT, Nat.reduceLeDiff, Nat.reduceSub, Nat.reduceMul, Nat.reduceBEq, Int.reduceAdd, Int.reduceSub, Int.reduceMul, Int.reduceNeg, Int.reduceLT, Int.reduceLE, Int.reduceToNat, Int.reduceEq, Int.reduceBEq, d21_3, rowOf_own y1, gr_lenS h2 (by omega) h8.1]
      exact ⟨kk, fun h => absurd h hno⟩
end Go.Proofs.Ytodkgembfcddbaa
end
