/- Bytes turned by a stream: what the program's functions answer. -/
import Derived.Test.YthdkclkiegkabaaAeD
import Derived.Test.YthdkclkiegkabaaKb
import Derived.Test.YthdkclkiegkabaaAdme
namespace Go.Proofs.Ythdkclkiegkabaa
open Go Go.Adm
set_option linter.unusedSimpArgs false
set_option maxRecDepth 100000
theorem blkB_len (ks : List B8) (n : Nat) (s : List B8) : (blockB ks n s).length = 16 := runB_len _ _ _ _
def ctrIn (e n j : Nat) : List B8 := lowB e 6 ++ lowB n 6 ++ lowB j 4
theorem ctrIn_len (e n j : Nat) : (ctrIn e n j).length = 16 := by simp [ctrIn, lowB_len]
def ksB (E : List B8) (N e n j : Nat) : List B8 := blockB E N (ctrIn e n j)
theorem ksB_len (E : List B8) (N e n j : Nat) : (ksB E N e n j).length = 16 := blkB_len _ _ _
def ksAt (E : List B8) (N e n k : Nat) : B8 := gb (ksB E N e n (k / 16)) (k % 16)
def xorB (E : List B8) (N e n : Nat) (b : List B8) : List B8 := tab b.length fun i => gb b i ^^^ ksAt E N e n i
theorem xorB_len (E : List B8) (N e n : Nat) (b : List B8) : (xorB E N e n b).length = b.length := tab_len _ _

theorem ans_ctrput {m : Mem} {p o n cap s v : Nat} {X : List B8} (hp : own m p = some (bys X)) (ho : o + n ≤ X.length) (hn : n ≤ 8) (hv : v < 18446744073709551616) :
    Ans Try.prog 31 [.sl p o n cap s, .int .u64 v] m fun r m' => r = .tup [] ∧ m' = m.set p (.row (bys (putUp X o n v n)) false) := by
  refine ans_ret mixed ok31 ?_
  simp -implicitDefEqProofs (disch := (first | omega | (simp only [lenB, lowB_len, putUp_len, ctrIn_len, ksB_len, blkB_len] <;> omega) | fail)) only [admQ, lenB, lowB_len, putUp_len, ctrIn_len, ksB_len, blkB_len, aFill, ↓reduceIte, reduceCtorEq, if_true, if_false, Nat.reduceAdd, Nat.reduceEqDiff, Nat.reduceMod, Nat.reduceLT, Nat.reduceLeDiff, Nat.reduceSub, Nat.reduceMul, Nat.reduceBEq, Int.reduceAdd, Int.reduceSub, Int.reduceMul, Int.reduceNeg, Int.reduceLT, Int.reduceLE, Int.reduceToNat, Int.reduceEq, Int.reduceBEq, c31, r31]
  refine LoopW.on (fun i : Nat => [(0, .sl p o n cap s), (1, .int .u64 v), (6, .int .i64 n), (7, .int .i64 i)]) (fun i => n - i) (fun i m' => i ≤ n ∧ m' = m.set p (.row (bys (putUp X o n v i)) false)) ?_ 0 _ _ rfl ⟨by omega, by rw [putUp_zero, set_same hp]⟩
  rintro i m' Y ⟨hi, rfl⟩ hY
  have ho' := own_set (own_lt hp) (bys (putUp X o n v i))
  by_cases hlt : i < n
  · have hu := putUp_set (X := X) (o := o) (n := n) (v := v) (i := i) (by omega)
    have hw : IntKind.u8.wrap ((v >>> (8 * (n - 1 - i)) : Nat) : Int) = ((byV v (n - 1 - i)).toNat : Int) := wrap_u8 _
    simp -implicitDefEqProofs (disch := (first | omega | (simp only [lenB, lowB_len, putUp_len, ctrIn_len, ksB_len, blkB_len] <;> omega) | fail)) only [admQ, lenB, lowB_len, putUp_len, ctrIn_len, ksB_len, blkB_len, aFill, ↓reduceIte, reduceCtorEq, if_true, if_false, Nat.reduceAdd, Nat.reduceEqDiff, Nat.reduceMod, Nat.reduceLT, Nat.reduceLeDiff, Nat.reduceSub, Nat.reduceMul, Nat.reduceBEq, Int.reduceAdd, Int.reduceSub, Int.reduceMul, Int.reduceNeg, Int.reduceLT, Int.reduceLE, Int.reduceToNat, Int.reduceEq, Int.reduceBEq, ho', fdiv_nat, hw, splice_byte, hu, List.set_set]
    exact hY (i + 1) _ _ rfl (by omega) ⟨by omega, rfl⟩
  · obtain rfl : i = n := by omega
    simp -implicitDefEqProofs (disch := (first | omega | (simp only [lenB, lowB_len, putUp_len, ctrIn_len, ksB_len, blkB_len] <;> omega) | fail)) only [admQ, lenB, lowB_len, putUp_len, ctrIn_len, ksB_len, blkB_len, aFill, ↓reduceIte, reduceCtorEq, if_true, if_false, Nat.reduceAdd, Nat.reduceEqDiff, Nat.reduceMod, Nat.reduceLT, Nat.reduceLeDiff, Nat.reduceSub, Nat.reduceMul, Nat.reduceBEq, Int.reduceAdd, Int.reduceSub, Int.reduceMul, Int.reduceNeg, Int.reduceLT, Int.reduceLE, Int.reduceToNat, Int.reduceEq, Int.reduceBEq]

/-- A stream that has told k bytes. -/
structure Strm (m : Mem) (pa pi pb pc po c kb N : Nat) (E : List B8) (e n k : Nat) : Prop where
  at_ : own m pa = some [.int .i64 ((if k % 16 = 0 then 16 else k % 16 : Nat) : Int)]
  blk : own m pb = some [.int .u64 (((k + 15) / 16 : Nat) : Int)]
  in_ : ∃ Z : List B8, Z.length = 4 ∧ own m pi = some (bys (lowB e 6 ++ lowB n 6 ++ Z))
  out : ∃ O : List B8, O.length = 16 ∧ own m po = some (bys O) ∧ (0 < k → O = ksB E N e n ((k - 1) / 16))
  cip : rowOf m pc = some [.ptr c 0]
  cpr : Ciph m c kb N E
  ne : pa ≠ pi ∧ pa ≠ pb ∧ pa ≠ po ∧ pi ≠ pb ∧ pi ≠ po ∧ pb ≠ po
  nc : pc ∉ [pa, pi, pb, po] ∧ c ∉ [pa, pi, pb, po] ∧ kb ∉ [pa, pi, pb, po]
theorem Strm.kept {X : List Nat} {m m' : Mem} {pa pi pb pc po c kb N : Nat} {E : List B8} {e n k : Nat} (h : Strm m pa pi pb pc po c kb N E e n k) (hk : Kept X m m') (hx : ∀ q ∈ X, q ≠ pa ∧ q ≠ pi ∧ q ≠ pb ∧ q ≠ pc ∧ q ≠ po ∧ q ≠ c ∧ q ≠ kb) :
    Strm m' pa pi pb pc po c kb N E e n k := by
  have nx : ∀ q, (q = pa ∨ q = pi ∨ q = pb ∨ q = pc ∨ q = po ∨ q = c ∨ q = kb) → q ∉ X := fun q hq hm => by
    have := hx q hm; rcases hq with h | h | h | h | h | h | h <;> simp_all
  obtain ⟨Z, hZ, hi⟩ := h.in_
  obtain ⟨O, hO, ho, hOk⟩ := h.out
  exact ⟨hk.own h.at_ (nx _ (by simp)), hk.own h.blk (nx _ (by simp)), ⟨Z, hZ, hk.own hi (nx _ (by simp))⟩, ⟨O, hO, hk.own ho (nx _ (by simp)), hOk⟩, hk.row h.cip (nx _ (by simp)),
    h.cpr.kept hk (nx _ (by simp)) (nx _ (by simp)), h.ne, h.nc⟩
theorem Strm.kept0 {m m' : Mem} {pa pi pb pc po c kb N : Nat} {E : List B8} {e n k : Nat} (h : Strm m pa pi pb pc po c kb N E e n k) (hk : Kept [] m m') : Strm m' pa pi pb pc po c kb N E e n k := h.kept hk (by simp)

theorem ne_own {p q : Nat} (h : p ≠ q) : (∀ m b, own (List.set m p b) q = own m q) ∧ (∀ m b, rowOf (List.set m p b) q = rowOf m q) ∧ (∀ m b, own (List.set m q b) p = own m p) ∧ (∀ m b, rowOf (List.set m q b) p = rowOf m p) :=
  ⟨fun _ b => own_set_ne h b, fun _ b => rowOf_set_ne h b, fun _ b => own_set_ne (Ne.symm h) b, fun _ b => rowOf_set_ne (Ne.symm h) b⟩
theorem ans_ctrnext {m : Mem} {pa pi pb pc po c kb N : Nat} {E : List B8} {e n k : Nat} (h : Strm m pa pi pb pc po c kb N E e n k) (hk : k < 1000000) :
    Ans Try.prog 32 [.ptr pa 0, .ptr pi 0, .ptr pb 0, .ptr pc 0, .ptr po 0] m fun r m' => r = b8 (ksAt E N e n k) ∧ Kept [pa, pi, pb, po] m m' ∧ Strm m' pa pi pb pc po c kb N E e n (k + 1) := by
  refine ans_ret mixed ok32 ?_
  obtain ⟨Z, hZ, hi⟩ := h.in_
  obtain ⟨O, hO, ho, hOk⟩ := h.out
  have ha := h.at_
  have hb := h.blk
  obtain ⟨q1, q2, q3, q4, q5, q6⟩ := h.ne
  have hnc := h.nc
  simp only [List.mem_cons, List.not_mem_nil, or_false, not_or] at hnc
  obtain ⟨⟨n1, n2, n3, n4⟩, ⟨n5, n6, n7, n8⟩, ⟨n9, n10, n11, n12⟩⟩ := hnc
  have s1 := ne_own q1
  have s2 := ne_own q2
  have s3 := ne_own q3
  have s4 := ne_own q4
  have s5 := ne_own q5
  have s6 := ne_own q6
  have t1 := ne_own n1
  have t2 := ne_own n2
  have t3 := ne_own n3
  have t4 := ne_own n4
  replace q1 : Unit → _ := fun _ => q1
  replace q2 : Unit → _ := fun _ => q2
  replace q3 : Unit → _ := fun _ => q3
  replace q4 : Unit → _ := fun _ => q4
  replace q5 : Unit → _ := fun _ => q5
  replace q6 : Unit → _ := fun _ => q6
  replace n1 : Unit → _ := fun _ => n1
  replace n2 : Unit → _ := fun _ => n2
  replace n3 : Unit → _ := fun _ => n3
  replace n4 : Unit → _ := fun _ => n4
  replace n5 : Unit → _ := fun _ => n5
  replace n6 : Unit → _ := fun _ => n6
  replace n7 : Unit → _ := fun _ => n7
  replace n8 : Unit → _ := fun _ => n8
  replace n9 : Unit → _ := fun _ => n9
  replace n10 : Unit → _ := fun _ => n10
  replace n11 : Unit → _ := fun _ => n11
  replace n12 : Unit → _ := fun _ => n12
  by_cases hz : k % 16 = 0
  · rw [if_pos hz] at ha
    have hla := own_lt ha
    have hlb := own_lt hb
    have hli := own_lt hi
    have hlo := own_lt ho
    have hput := putUp_all (a := lowB e 6 ++ lowB n 6) (b := Z) (c := []) (o := 12) (n := 4) (v := (k + 15) / 16) (by simp [lowB_len]) hZ
    rw [List.append_nil, List.append_nil, show (k + 15) / 16 = k / 16 by omega] at hput
    have hin : lowB e 6 ++ lowB n 6 ++ lowB (k / 16) 4 = ctrIn e n (k / 16) := rfl
    rw [hin] at hput
    rw [show (k + 15) / 16 = k / 16 by omega] at hb
    simp -implicitDefEqProofs (disch := (first | omega | (simp only [lenB, lowB_len, putUp_len, ctrIn_len, ksB_len, blkB_len] <;> omega) | fail)) only [admQ, lenB, lowB_len, putUp_len, ctrIn_len, ksB_len, blkB_len, aFill, ↓reduceIte, reduceCtorEq, if_true, if_false, Nat.reduceAdd, Nat.reduceEqDiff, Nat.reduceMod, Nat.reduceLT, Nat.reduceLeDiff, Nat.reduceSub, Nat.reduceMul, Nat.reduceBEq, Int.reduceAdd, Int.reduceSub, Int.reduceMul, Int.reduceNeg, Int.reduceLT, Int.reduceLE, Int.reduceToNat, Int.reduceEq, Int.reduceBEq, c32, r32, rowOf_own ha, rowOf_own hb]
    refine (ans_ctrput (p := pi) (o := 12) (n := 4) hi (by simp [lowB_len, hZ]) (by omega) (by omega)).mono ?_
    rintro _ m1 ⟨rfl, hm1⟩
    rw [hput] at hm1
    have hk1 : Kept [pi] m m1 := by rw [hm1]; exact .set1 _ _ _
    have hi1 : own m1 pi = some (bys (ctrIn e n (k / 16))) := by rw [hm1]; exact own_set hli _
    have ha1 := hk1.own ha (by simp [q1 ()])
    have hb1 := hk1.own hb (by simpa using Ne.symm (q4 ()))
    have ho1 := hk1.own ho (by simpa using Ne.symm (q5 ()))
    have hc1 := hk1.row h.cip (by simp [n2 ()])
    have hp1 := h.cpr.kept hk1 (by simp [n6 ()]) (by simp [n10 ()])
    clear hm1
    simp -implicitDefEqProofs (disch := (first | omega | (simp only [lenB, lowB_len, putUp_len, ctrIn_len, ksB_len, blkB_len] <;> omega) | fail)) only [admQ, lenB, lowB_len, putUp_len, ctrIn_len, ksB_len, blkB_len, aFill, ↓reduceIte, reduceCtorEq, if_true, if_false, Nat.reduceAdd, Nat.reduceEqDiff, Nat.reduceMod, Nat.reduceLT, Nat.reduceLeDiff, Nat.reduceSub, Nat.reduceMul, Nat.reduceBEq, Int.reduceAdd, Int.reduceSub, Int.reduceMul, Int.reduceNeg, Int.reduceLT, Int.reduceLE, Int.reduceToNat, Int.reduceEq, Int.reduceBEq, rowOf_own ha1, rowOf_own hb1, hc1, rowOf_own hi1, ha1, hb1]
    refine (ans_block hp1 _ (ctrIn_len _ _ _)).mono ?_
    rintro _ m2 ⟨rfl, hk2⟩
    rw [show blockB E N (ctrIn e n (k / 16)) = ksB E N e n (k / 16) from rfl]
    have ha2 := hk2.own0 ha1
    have hb2 := hk2.own0 hb1
    have ho2 := hk2.own0 ho1
    have hi2 := hk2.own0 hi1
    have hc2 := hk2.row0 hc1
    have hp2 := hp1.kept hk2 (by simp) (by simp)
    have hla2 := own_lt ha2
    have hlb2 := own_lt hb2
    have hlo2 := own_lt ho2
    generalize hKB : ksB E N e n (k / 16) = KB
    have hKl : KB.length = 16 := by rw [← hKB]; exact ksB_len _ _ _ _ _
    simp -implicitDefEqProofs (disch := (first | omega | (simp only [lenB, lowB_len, putUp_len, ctrIn_len, ksB_len, blkB_len] <;> omega) | fail)) only [admQ, lenB, lowB_len, putUp_len, ctrIn_len, ksB_len, blkB_len, aFill, ↓reduceIte, reduceCtorEq, if_true, if_false, Nat.reduceAdd, Nat.reduceEqDiff, Nat.reduceMod, Nat.reduceLT, Nat.reduceLeDiff, Nat.reduceSub, Nat.reduceMul, Nat.reduceBEq, Int.reduceAdd, Int.reduceSub, Int.reduceMul, Int.reduceNeg, Int.reduceLT, Int.reduceLE, Int.reduceToNat, Int.reduceEq, Int.reduceBEq, own_set, rowOf_set, s1, s2, s3, s4, s5, s6, ha2, hb2, ho2, rowOf_own ha2, rowOf_own hb2, hKl, wrap_u64]
    have hks : Kept [pa, pb, po] m2 ((((m2.set po (.row (bys KB) false)).set pa (.row [.int .i64 0] false)).set pb (.row [.int .u64 ((k / 16 + 1 : Nat) : Int)] false)).set pa (.row [.int .i64 1] false)) :=
      ((((Kept.refl _ _).write (.inl (by simp)) _).write (.inl (by simp)) _).write (.inl (by simp)) _).write (.inl (by simp)) _
    refine ⟨?_, ((hk1.more (Y := [pa, pi, pb, po]) (by simp)).trans hk2.any).trans (hks.more (by simp)), ?_⟩
    · rw [ksAt, hKB, hz]
    · constructor
      · rw [own_set (by simpa using hla2), if_neg (by omega), show (k + 1) % 16 = 1 by omega]; rfl
      · rw [s2.1, own_set (by simpa using hlb2), show (k + 1 + 15) / 16 = k / 16 + 1 by omega]
      · exact ⟨lowB (k / 16) 4, lowB_len _ _, by rw [s1.1, s4.2.2.1, s1.1, s5.2.2.1]; exact hi2⟩
      · exact ⟨KB, hKl, by rw [s3.1, s6.1, s3.1, own_set hlo2], fun _ => by rw [← hKB, show (k + 1 - 1) / 16 = k / 16 by omega]⟩
      · exact hks.row hc2 (by simp [n1 (), n3 (), n4 ()])
      · exact hp2.kept hks (by simp [n5 (), n7 (), n8 ()]) (by simp [n9 (), n11 (), n12 ()])
      · exact h.ne
      · exact h.nc
  · rw [if_neg hz] at ha
    have hne16 : (((k % 16 : Nat) : Int) == 16) = false := beq_eq_false_iff_ne.mpr (by omega)
    have hla := own_lt ha
    simp -implicitDefEqProofs (disch := (first | omega | (simp only [lenB, lowB_len, putUp_len, ctrIn_len, ksB_len, blkB_len] <;> omega) | fail)) only [admQ, lenB, lowB_len, putUp_len, ctrIn_len, ksB_len, blkB_len, aFill, ↓reduceIte, reduceCtorEq, if_true, if_false, Nat.reduceAdd, Nat.reduceEqDiff, Nat.reduceMod, Nat.reduceLT, Nat.reduceLeDiff, Nat.reduceSub, Nat.reduceMul, Nat.reduceBEq, Int.reduceAdd, Int.reduceSub, Int.reduceMul, Int.reduceNeg, Int.reduceLT, Int.reduceLE, Int.reduceToNat, Int.reduceEq, Int.reduceBEq, c32, r32, ha, rowOf_own ha, rowOf_own hb, hne16, own_set, rowOf_set, s1, s2, s3, Nat.add_sub_cancel, rowOf_own ho]
    have hO' := hOk (by omega)
    have hks : Kept [pa] m (m.set pa (.row [.int .i64 ((k % 16 + 1 : Nat) : Int)] false)) := .set1 _ _ _
    refine ⟨?_, hks.more (by simp), ?_⟩
    · rw [ksAt, hO', show (k - 1) / 16 = k / 16 by omega]
    · constructor
      · rw [own_set hla]
        by_cases h1 : (k + 1) % 16 = 0
        · rw [if_pos h1, show k % 16 + 1 = 16 by omega]
        · rw [if_neg h1, show k % 16 + 1 = (k + 1) % 16 by omega]
      · rw [s2.1, hb, show (k + 15) / 16 = (k + 1 + 15) / 16 by omega]
      · exact ⟨Z, hZ, by rw [s1.1]; exact hi⟩
      · exact ⟨O, hO, by rw [s3.1]; exact ho, fun _ => by rw [hO', show (k - 1) / 16 = (k + 1 - 1) / 16 by omega]⟩
      · rw [rowOf_set_ne (Ne.symm (n1 ()))]; exact h.cip
      · exact h.cpr.kept hks (by simp [n5 ()]) (by simp [n9 ()])
      · exact h.ne
      · exact h.nc

theorem ans_ctrstream {m : Mem} {c kb N : Nat} {E : List B8} (hc : Ciph m c kb N E) (e n : Int) : Ans Try.prog 26 [.ptr c 0, .int .i64 e, .int .i64 n] m fun r m' =>
    ∃ pa pi pb pc po, r = .fn (.func 32) [] [.ptr pa 0, .ptr pi 0, .ptr pb 0, .ptr pc 0, .ptr po 0] ∧ Kept [] m m' ∧ (m.length ≤ pa ∧ m.length ≤ pi ∧ m.length ≤ pb ∧ m.length ≤ po) ∧ Strm m' pa pi pb pc po c kb N E (e64 e) (e64 n) 0 := by
  refine ans_ret mixed ok26 ?_
  have he := e64_lt e
  have hn := e64_lt n
  simp -implicitDefEqProofs (disch := (first | omega | (simp only [lenB, lowB_len, putUp_len, ctrIn_len, ksB_len, blkB_len] <;> omega) | fail)) only [admQ, lenB, lowB_len, putUp_len, ctrIn_len, ksB_len, blkB_len, aFill, ↓reduceIte, reduceCtorEq, if_true, if_false, Nat.reduceAdd, Nat.reduceEqDiff, Nat.reduceMod, Nat.reduceLT, Nat.reduceLeDiff, Nat.reduceSub, Nat.reduceMul, Nat.reduceBEq, Int.reduceAdd, Int.reduceSub, Int.reduceMul, Int.reduceNeg, Int.reduceLT, Int.reduceLE, Int.reduceToNat, Int.reduceEq, Int.reduceBEq, c26, r26, e64_wrap]
  have z16 : List.replicate 16 0#8 = List.replicate 6 0#8 ++ List.replicate 10 0#8 := rfl
  refine (ans_ctrput (p := m.length + 1) (o := 0) (n := 6) (X := List.replicate 16 0#8) (by simp -implicitDefEqProofs (disch := (first | omega | (simp only [lenB, lowB_len, putUp_len, ctrIn_len, ksB_len, blkB_len] <;> omega) | fail)) only [admQ, lenB, lowB_len, putUp_len, ctrIn_len, ksB_len, blkB_len, aFill, ↓reduceIte, reduceCtorEq, if_true, if_false, Nat.reduceAdd, Nat.reduceEqDiff, Nat.reduceMod, Nat.reduceLT, Nat.reduceLeDiff, Nat.reduceSub, Nat.reduceMul, Nat.reduceBEq, Int.reduceAdd, Int.reduceSub, Int.reduceMul, Int.reduceNeg, Int.reduceLT, Int.reduceLE, Int.reduceToNat, Int.reduceEq, Int.reduceBEq]) (by simp) (by omega) he).mono ?_
  rintro _ m1 ⟨rfl, hm1⟩
  have h1 := putUp_all (a := []) (b := List.replicate 6 0#8) (c := List.replicate 10 0#8) (o := 0) (n := 6) (v := e64 e) rfl (by simp)
  rw [List.nil_append, List.nil_append, ← z16] at h1
  rw [h1] at hm1
  subst hm1
  simp -implicitDefEqProofs (disch := (first | omega | (simp only [lenB, lowB_len, putUp_len, ctrIn_len, ksB_len, blkB_len] <;> omega) | fail)) only [admQ, lenB, lowB_len, putUp_len, ctrIn_len, ksB_len, blkB_len, aFill, ↓reduceIte, reduceCtorEq, if_true, if_false, Nat.reduceAdd, Nat.reduceEqDiff, Nat.reduceMod, Nat.reduceLT, Nat.reduceLeDiff, Nat.reduceSub, Nat.reduceMul, Nat.reduceBEq, Int.reduceAdd, Int.reduceSub, Int.reduceMul, Int.reduceNeg, Int.reduceLT, Int.reduceLE, Int.reduceToNat, Int.reduceEq, Int.reduceBEq, e64_wrap]
  have z10 : List.replicate 10 0#8 = List.replicate 6 0#8 ++ List.replicate 4 0#8 := rfl
  refine (ans_ctrput (p := m.length + 1) (o := 6) (n := 6) (X := lowB (e64 e) 6 ++ List.replicate 10 0#8) (by simp -implicitDefEqProofs (disch := (first | omega | (simp only [lenB, lowB_len, putUp_len, ctrIn_len, ksB_len, blkB_len] <;> omega) | fail)) only [admQ, lenB, lowB_len, putUp_len, ctrIn_len, ksB_len, blkB_len, aFill, ↓reduceIte, reduceCtorEq, if_true, if_false, Nat.reduceAdd, Nat.reduceEqDiff, Nat.reduceMod, Nat.reduceLT, Nat.reduceLeDiff, Nat.reduceSub, Nat.reduceMul, Nat.reduceBEq, Int.reduceAdd, Int.reduceSub, Int.reduceMul, Int.reduceNeg, Int.reduceLT, Int.reduceLE, Int.reduceToNat, Int.reduceEq, Int.reduceBEq]) (by simp [lowB_len]) (by omega) hn).mono ?_
  rintro _ m2 ⟨rfl, hm2⟩
  have h2 := putUp_all (a := lowB (e64 e) 6) (b := List.replicate 6 0#8) (c := List.replicate 4 0#8) (o := 6) (n := 6) (v := e64 n) (lowB_len _ _) (by simp)
  rw [List.append_assoc, ← z10] at h2
  rw [h2] at hm2
  subst hm2
  simp -implicitDefEqProofs (disch := (first | omega | (simp only [lenB, lowB_len, putUp_len, ctrIn_len, ksB_len, blkB_len] <;> omega) | fail)) only [admQ, lenB, lowB_len, putUp_len, ctrIn_len, ksB_len, blkB_len, aFill, ↓reduceIte, reduceCtorEq, if_true, if_false, Nat.reduceAdd, Nat.reduceEqDiff, Nat.reduceMod, Nat.reduceLT, Nat.reduceLeDiff, Nat.reduceSub, Nat.reduceMul, Nat.reduceBEq, Int.reduceAdd, Int.reduceSub, Int.reduceMul, Int.reduceNeg, Int.reduceLT, Int.reduceLE, Int.reduceToNat, Int.reduceEq, Int.reduceBEq]
  refine ⟨m.length + 3, m.length + 1, m.length + 4, m.length, m.length + 2, rfl, .app _ _ _, ⟨by omega, by omega, by omega, by omega⟩, ?_⟩
  have hcl : c < m.length := rowOf_lt hc.hd
  have hkl : kb < m.length := rowOf_lt hc.keys
  constructor
  · simp -implicitDefEqProofs (disch := (first | omega | (simp only [lenB, lowB_len, putUp_len, ctrIn_len, ksB_len, blkB_len] <;> omega) | fail)) only [admQ, lenB, lowB_len, putUp_len, ctrIn_len, ksB_len, blkB_len, aFill, ↓reduceIte, reduceCtorEq, if_true, if_false, Nat.reduceAdd, Nat.reduceEqDiff, Nat.reduceMod, Nat.reduceLT, Nat.reduceLeDiff, Nat.reduceSub, Nat.reduceMul, Nat.reduceBEq, Int.reduceAdd, Int.reduceSub, Int.reduceMul, Int.reduceNeg, Int.reduceLT, Int.reduceLE, Int.reduceToNat, Int.reduceEq, Int.reduceBEq]
  · simp -implicitDefEqProofs (disch := (first | omega | (simp only [lenB, lowB_len, putUp_len, ctrIn_len, ksB_len, blkB_len] <;> omega) | fail)) only [admQ, lenB, lowB_len, putUp_len, ctrIn_len, ksB_len, blkB_len, aFill, ↓reduceIte, reduceCtorEq, if_true, if_false, Nat.reduceAdd, Nat.reduceEqDiff, Nat.reduceMod, Nat.reduceLT, Nat.reduceLeDiff, Nat.reduceSub, Nat.reduceMul, Nat.reduceBEq, Int.reduceAdd, Int.reduceSub, Int.reduceMul, Int.reduceNeg, Int.reduceLT, Int.reduceLE, Int.reduceToNat, Int.reduceEq, Int.reduceBEq]; rfl
  · exact ⟨List.replicate 4 0#8, by simp, by simp -implicitDefEqProofs (disch := (first | omega | (simp only [lenB, lowB_len, putUp_len, ctrIn_len, ksB_len, blkB_len] <;> omega) | fail)) only [admQ, lenB, lowB_len, putUp_len, ctrIn_len, ksB_len, blkB_len, aFill, ↓reduceIte, reduceCtorEq, if_true, if_false, Nat.reduceAdd, Nat.reduceEqDiff, Nat.reduceMod, Nat.reduceLT, Nat.reduceLeDiff, Nat.reduceSub, Nat.reduceMul, Nat.reduceBEq, Int.reduceAdd, Int.reduceSub, Int.reduceMul, Int.reduceNeg, Int.reduceLT, Int.reduceLE, Int.reduceToNat, Int.reduceEq, Int.reduceBEq]⟩
  · exact ⟨List.replicate 16 0#8, by simp, by simp -implicitDefEqProofs (disch := (first | omega | (simp only [lenB, lowB_len, putUp_len, ctrIn_len, ksB_len, blkB_len] <;> omega) | fail)) only [admQ, lenB, lowB_len, putUp_len, ctrIn_len, ksB_len, blkB_len, aFill, ↓reduceIte, reduceCtorEq, if_true, if_false, Nat.reduceAdd, Nat.reduceEqDiff, Nat.reduceMod, Nat.reduceLT, Nat.reduceLeDiff, Nat.reduceSub, Nat.reduceMul, Nat.reduceBEq, Int.reduceAdd, Int.reduceSub, Int.reduceMul, Int.reduceNeg, Int.reduceLT, Int.reduceLE, Int.reduceToNat, Int.reduceEq, Int.reduceBEq], fun h => by omega⟩
  · simp -implicitDefEqProofs (disch := (first | omega | (simp only [lenB, lowB_len, putUp_len, ctrIn_len, ksB_len, blkB_len] <;> omega) | fail)) only [admQ, lenB, lowB_len, putUp_len, ctrIn_len, ksB_len, blkB_len, aFill, ↓reduceIte, reduceCtorEq, if_true, if_false, Nat.reduceAdd, Nat.reduceEqDiff, Nat.reduceMod, Nat.reduceLT, Nat.reduceLeDiff, Nat.reduceSub, Nat.reduceMul, Nat.reduceBEq, Int.reduceAdd, Int.reduceSub, Int.reduceMul, Int.reduceNeg, Int.reduceLT, Int.reduceLE, Int.reduceToNat, Int.reduceEq, Int.reduceBEq]
  · exact hc.app _
  · omega
  · refine ⟨?_, ?_, ?_⟩ <;> simp <;> omega

/-- Bytes turned by the program. -/
theorem ans_ctrxor {m : Mem} {c kb N : Nat} {E : List B8} (hc : Ciph m c kb N E) (e n : Int) {x : AV} {b : List B8} (hx : RdB m x b) (hb : b.length ≤ 100000) : Ans Try.prog 12 [.ptr c 0, .int .i64 e, .int .i64 n, x] m fun r m' =>
    ∃ p, r = .sl p 0 b.length b.length 0 ∧ Kept [] m m' ∧ m.length ≤ p ∧ own m' p = some (bys (xorB E N (e64 e) (e64 n) b)) := by
  refine ans_ret mixed ok12 ?_
  simp -implicitDefEqProofs (disch := (first | omega | (simp only [lenB, lowB_len, putUp_len, ctrIn_len, ksB_len, blkB_len] <;> omega) | fail)) only [admQ, lenB, lowB_len, putUp_len, ctrIn_len, ksB_len, blkB_len, aFill, ↓reduceIte, reduceCtorEq, if_true, if_false, Nat.reduceAdd, Nat.reduceEqDiff, Nat.reduceMod, Nat.reduceLT, Nat.reduceLeDiff, Nat.reduceSub, Nat.reduceMul, Nat.reduceBEq, Int.reduceAdd, Int.reduceSub, Int.reduceMul, Int.reduceNeg, Int.reduceLT, Int.reduceLE, Int.reduceToNat, Int.reduceEq, Int.reduceBEq, c12, r12]
  refine (ans_ctrstream hc e n).mono ?_
  rintro _ m1 ⟨pa, pi, pb, pc, po, rfl, hk1, ⟨ha, hi, hbb, ho⟩, hs⟩
  have hmk : (0 : Int) ≤ (b.length : Int) ∧ (b.length : Int) ≤ (b.length : Int) ∧ (b.length : Int) * 1 ≤ 1099511627776 ∧ (b.length : Int) ≤ 1099511627776 := by omega
  have hr : rep b.length [AV.int .u8 0] = bys (List.replicate b.length 0#8) := by rw [← bys_rep]; simp [rep]
  simp -implicitDefEqProofs (disch := (first | omega | (simp only [lenB, lowB_len, putUp_len, ctrIn_len, ksB_len, blkB_len] <;> omega) | fail)) only [admQ, lenB, lowB_len, putUp_len, ctrIn_len, ksB_len, blkB_len, aFill, ↓reduceIte, reduceCtorEq, if_true, if_false, Nat.reduceAdd, Nat.reduceEqDiff, Nat.reduceMod, Nat.reduceLT, Nat.reduceLeDiff, Nat.reduceSub, Nat.reduceMul, Nat.reduceBEq, Int.reduceAdd, Int.reduceSub, Int.reduceMul, Int.reduceNeg, Int.reduceLT, Int.reduceLE, Int.reduceToNat, Int.reduceEq, Int.reduceBEq, hx.len, hr]
  have hs0 := hs.kept0 (Kept.app [] m1 [.row (bys (List.replicate b.length 0#8)) false])
  have hk0 : Kept [] m (m1 ++ [.row (bys (List.replicate b.length 0#8)) false]) := hk1.more_app _
  have hml := hk1.len
  have hlt1 := own_lt hs.at_
  have hlt2 := own_lt hs.blk
  obtain ⟨Z, _, hZ⟩ := hs.in_
  obtain ⟨O, _, hO, _⟩ := hs.out
  have hlt3 := own_lt hZ
  have hlt4 := own_lt hO
  clear hZ hO
  have hlt5 := rowOf_lt hs.cip
  have hlt6 := rowOf_lt hs.cpr.hd
  have hlt7 := rowOf_lt hs.cpr.keys
  let f : Nat → B8 := fun i => gb b i ^^^ ksAt E N (e64 e) (e64 n) i
  refine LoopW.on (fun i : Nat => [(9, .fn (.func 32) [] [.ptr pa 0, .ptr pi 0, .ptr pb 0, .ptr pc 0, .ptr po 0]), (10, .sl m1.length 0 b.length b.length 0), (20, x), (21, .int .i64 b.length), (22, .int .i64 i)]) (fun i => b.length - i)
    (fun i m' => i ≤ b.length ∧ Kept [] m m' ∧ Strm m' pa pi pb pc po c kb N E (e64 e) (e64 n) i ∧ own m' m1.length = some (bys (upTo b.length f (fun _ => 0#8) i))) ?_ 0 _ _ rfl ⟨by omega, hk0, hs0, by rw [upTo_zero, tab_const]; simp -implicitDefEqProofs (disch := (first | omega | (simp only [lenB, lowB_len, putUp_len, ctrIn_len, ksB_len, blkB_len] <;> omega) | fail)) only [admQ, lenB, lowB_len, putUp_len, ctrIn_len, ksB_len, blkB_len, aFill, ↓reduceIte, reduceCtorEq, if_true, if_false, Nat.reduceAdd, Nat.reduceEqDiff, Nat.reduceMod, Nat.reduceLT, Nat.reduceLeDiff, Nat.reduceSub, Nat.reduceMul, Nat.reduceBEq, Int.reduceAdd, Int.reduceSub, Int.reduceMul, Int.reduceNeg, Int.reduceLT, Int.reduceLE, Int.reduceToNat, Int.reduceEq, Int.reduceBEq]⟩
  clear hs hs0 hk0
  rintro i m2 X ⟨hil, hk2, hs2, hout⟩ hX
  have hol := own_lt hout
  by_cases hlt : i < b.length
  · obtain ⟨b1, o1, cap1, s1, d1, rfl, hr1, hg1, hl1, hc1, hss1, ht1⟩ := (hx.kept0 hk2).cons hlt
    have e1 := hg1 i hlt
    have hu : (upTo b.length f (fun _ => 0#8) i).set i (gb b i ^^^ ksAt E N (e64 e) (e64 n) i) = _ := upTo_set (f := f)
    clear_value f
    simp -implicitDefEqProofs (disch := (first | omega | (simp only [lenB, lowB_len, putUp_len, ctrIn_len, ksB_len, blkB_len] <;> omega) | fail)) only [admQ, lenB, lowB_len, putUp_len, ctrIn_len, ksB_len, blkB_len, aFill, ↓reduceIte, reduceCtorEq, if_true, if_false, Nat.reduceAdd, Nat.reduceEqDiff, Nat.reduceMod, Nat.reduceLT, Nat.reduceLeDiff, Nat.reduceSub, Nat.reduceMul, Nat.reduceBEq, Int.reduceAdd, Int.reduceSub, Int.reduceMul, Int.reduceNeg, Int.reduceLT, Int.reduceLE, Int.reduceToNat, Int.reduceEq, Int.reduceBEq, hr1, e1]
    refine (ans_ctrnext hs2 (by omega)).mono ?_
    rintro _ m3 ⟨rfl, hk3, hs3⟩
    have hout3 := hk3.own hout (by simp; omega)
    have hol3 := own_lt hout3
    simp -implicitDefEqProofs (disch := (first | omega | (simp only [lenB, lowB_len, putUp_len, ctrIn_len, ksB_len, blkB_len] <;> omega) | fail)) only [admQ, lenB, lowB_len, putUp_len, ctrIn_len, ksB_len, blkB_len, aFill, ↓reduceIte, reduceCtorEq, if_true, if_false, Nat.reduceAdd, Nat.reduceEqDiff, Nat.reduceMod, Nat.reduceLT, Nat.reduceLeDiff, Nat.reduceSub, Nat.reduceMul, Nat.reduceBEq, Int.reduceAdd, Int.reduceSub, Int.reduceMul, Int.reduceNeg, Int.reduceLT, Int.reduceLE, Int.reduceToNat, Int.reduceEq, Int.reduceBEq, hout3, splice_byte, hu]
    refine hX (i + 1) _ _ rfl (by omega) ⟨by omega, (hk2.fresh hk3 (by simp; omega)).write (.inr (by omega)) _, hs3.kept (Kept.set1 _ _ _) (by simp; omega), own_set hol3 _⟩
  · obtain rfl : i = b.length := by omega
    have hu : upTo b.length f (fun _ => 0#8) b.length = xorB E N (e64 e) (e64 n) b := upTo_all _ _ _
    simp -implicitDefEqProofs (disch := (first | omega | (simp only [lenB, lowB_len, putUp_len, ctrIn_len, ksB_len, blkB_len] <;> omega) | fail)) only [admQ, lenB, lowB_len, putUp_len, ctrIn_len, ksB_len, blkB_len, aFill, ↓reduceIte, reduceCtorEq, if_true, if_false, Nat.reduceAdd, Nat.reduceEqDiff, Nat.reduceMod, Nat.reduceLT, Nat.reduceLeDiff, Nat.reduceSub, Nat.reduceMul, Nat.reduceBEq, Int.reduceAdd, Int.reduceSub, Int.reduceMul, Int.reduceNeg, Int.reduceLT, Int.reduceLE, Int.reduceToNat, Int.reduceEq, Int.reduceBEq]
    exact ⟨m1.length, rfl, hk2, hml, by rw [← hu]; exact hout⟩
end Go.Proofs.Ythdkclkiegkabaa
