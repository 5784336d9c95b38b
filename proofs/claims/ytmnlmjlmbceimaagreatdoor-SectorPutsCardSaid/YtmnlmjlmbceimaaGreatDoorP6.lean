/- Texts of this seat, joined (part 6 of 6): an abstract memory for Go programs, this seat's functions as abstract code, and what each of them does. -/
import Derived.Test.YtmnlmjlmbceimaaGreatDoorP5
set_option linter.unusedSimpArgs false
section
/- Sectors, as the document has them: numbers as bytes. -/
namespace Go.Proofs.YtmnlmjlmbceimaaGreatDoor
open Go Go.Adm
set_option linter.unusedSimpArgs false
set_option linter.unusedVariables false
set_option maxRecDepth 100000
theorem ans_r9int {m : Mem} {x : AV} {l : List B8} (v : Nat) (hv : v < 4611686018427387904) (hx : RdB m x l) (hl : l.length ≤ 900000000) : Ans Tryz.prog 28 [x, .int .i64 v] m fun r m' => Kept [] m m' ∧ GrB m.length m' r (l ++ numB v) := by
  refine ans_ret mixed ok28 ?_
  simp -implicitDefEqProofs (disch := (first | omega | (simp only [lenB, lowB_len, numB_len, nsumB_len] <;> omega) | fail)) only [admQ, lenB, lowB_len, numB_len, nsumB_len, aFill, AK.cls, implies_true, ↓reduceIte, reduceCtorEq, if_true, if_false, Nat.reduceAdd, Nat.reduceEqDiff, Nat.reduceMod, Nat.reduceLT, Nat.reduceLeDiff, Nat.reduceSub, Nat.reduceMul, Nat.reduceBEq, Int.reduceAdd, Int.reduceSub, Int.reduceMul, Int.reduceNeg, Int.reduceLT, Int.reduceLE, Int.reduceToNat, Int.reduceEq, Int.reduceBEq, c28, r28]
  have k0 := Kept.app [] m [Blk.row [] false]
  have g0 : GrB m.length (m ++ [Blk.row [] false]) (.sl m.length 0 0 0 0) [] := .zero (by rw [own_app_at0]; rfl)
  have hx0 := hx.app [Blk.row [] false]
  generalize m ++ [Blk.row [] false] = A at *
  obtain ⟨x1, m1, e1, g1, k1, a1⟩ := g0.pushs hx0 (by simp; omega) k0.len
  refine someW_eq e1 ?_
  simp -implicitDefEqProofs (disch := (first | omega | (simp only [lenB, lowB_len, numB_len, nsumB_len] <;> omega) | fail)) only [admQ, lenB, lowB_len, numB_len, nsumB_len, aFill, AK.cls, implies_true, ↓reduceIte, reduceCtorEq, if_true, if_false, Nat.reduceAdd, Nat.reduceEqDiff, Nat.reduceMod, Nat.reduceLT, Nat.reduceLeDiff, Nat.reduceSub, Nat.reduceMul, Nat.reduceBEq, Int.reduceAdd, Int.reduceSub, Int.reduceMul, Int.reduceNeg, Int.reduceLT, Int.reduceLE, Int.reduceToNat, Int.reduceEq, Int.reduceBEq, nw64 (show v < 18446744073709551616 by omega)]
  have K1 := a1 _ _ k0 (Nat.le_refl _)
  rw [List.nil_append] at g1
  refine LoopW.on (fun t : Nat × AV => [(5, t.2), (6, .int .u64 v), (7, .int .i64 (7 - (t.1 : Int)))]) (fun t => 8 - t.1)
    (fun t M => t.1 ≤ 8 ∧ Kept [] m M ∧ GrB m.length M t.2 (l ++ tab t.1 (fun i => byV v (7 - i)))) ?_ (0, x1) _ _ rfl ⟨by simp, K1, by simpa [tab] using g1⟩
  rintro ⟨k, x⟩ M X ⟨hk, kk, g⟩ hX
  change GrB m.length M x (l ++ tab k (fun i => byV v (7 - i))) at g
  simp only at hk kk
  by_cases hlt : k < 8
  · rw [show (7 - (k : Int)) = ((7 - k : Nat) : Int) by omega]
    have hw : IntKind.u8.wrap ((v >>> (8 * (7 - k)) : Nat) : Int) = ((byV v (7 - k)).toNat : Int) := wrap_u8 _
    have hmin : Nat.min (8 * (7 - k)) 64 = 8 * (7 - k) := Nat.min_eq_left (by omega)
    have hfd : ((v : Nat) : Int).fdiv (2 ^ Nat.min (8 * (7 - k)) IntKind.u64.bits) = ((v >>> Nat.min (8 * (7 - k)) 64 : Nat) : Int) := fdiv_pow v (8 * (7 - k))
    simp -implicitDefEqProofs (disch := (first | omega | (simp only [lenB, lowB_len, numB_len, nsumB_len] <;> omega) | fail)) only [admQ, lenB, lowB_len, numB_len, nsumB_len, aFill, AK.cls, implies_true, ↓reduceIte, reduceCtorEq, if_true, if_false, Nat.reduceAdd, Nat.reduceEqDiff, Nat.reduceMod, Nat.reduceLT, Nat.reduceLeDiff, Nat.reduceSub, Nat.reduceMul, Nat.reduceBEq, Int.reduceAdd, Int.reduceSub, Int.reduceMul, Int.reduceNeg, Int.reduceLT, Int.reduceLE, Int.reduceToNat, Int.reduceEq, Int.reduceBEq, hfd, hmin, hw, @w64]
    obtain ⟨x3, m3, e3, g3, k3, a3⟩ := g.push (byV v (7 - k)) (by simp [tab_len]; omega) kk.len
    refine someW_eq e3 ?_
    simp -implicitDefEqProofs (disch := (first | omega | (simp only [lenB, lowB_len, numB_len, nsumB_len] <;> omega) | fail)) only [admQ, lenB, lowB_len, numB_len, nsumB_len, aFill, AK.cls, implies_true, ↓reduceIte, reduceCtorEq, if_true, if_false, Nat.reduceAdd, Nat.reduceEqDiff, Nat.reduceMod, Nat.reduceLT, Nat.reduceLeDiff, Nat.reduceSub, Nat.reduceMul, Nat.reduceBEq, Int.reduceAdd, Int.reduceSub, Int.reduceMul, Int.reduceNeg, Int.reduceLT, Int.reduceLE, Int.reduceToNat, Int.reduceEq, Int.reduceBEq]
    rw [show ((7 - k : Nat) : Int) - 1 = 7 - ((k + 1 : Nat) : Int) by omega]
    refine hX (k + 1, x3) _ _ rfl (by simp only; omega) ⟨by simp only; omega, a3 _ _ kk (Nat.le_refl _), ?_⟩
    show GrB m.length m3 x3 (l ++ tab (k + 1) _)
    rw [tab_succ, ← List.append_assoc]; exact g3
  · obtain rfl : k = 8 := by omega
    simp -implicitDefEqProofs (disch := (first | omega | (simp only [lenB, lowB_len, numB_len, nsumB_len] <;> omega) | fail)) only [admQ, lenB, lowB_len, numB_len, nsumB_len, aFill, AK.cls, implies_true, ↓reduceIte, reduceCtorEq, if_true, if_false, Nat.reduceAdd, Nat.reduceEqDiff, Nat.reduceMod, Nat.reduceLT, Nat.reduceLeDiff, Nat.reduceSub, Nat.reduceMul, Nat.reduceBEq, Int.reduceAdd, Int.reduceSub, Int.reduceMul, Int.reduceNeg, Int.reduceLT, Int.reduceLE, Int.reduceToNat, Int.reduceEq, Int.reduceBEq]
    exact ⟨kk, g⟩
/-- A document's reader at r: it has read j of the bytes l. -/
def Rd9 (m : Mem) (r : Nat) (l : List B8) (j : Nat) : Prop := ∃ v, own m r = some [v, .int .i64 j, .bool false] ∧ RdB m v l ∧ (∀ b ∈ blkOf v, b ≠ r) ∧ j ≤ l.length ∧ l.length ≤ 1000000000
theorem ans_r9read {m : Mem} {x : AV} {l : List B8} (hx : RdB m x l) (hb : l.length ≤ 900000000) : Ans Tryz.prog 33 [x] m fun r m' => Kept [] m m' ∧ ∃ p, r = .ptr p 0 ∧ m.length ≤ p ∧ Rd9 m' p l 0 := by
  refine ans_ret mixed ok33 ?_
  simp -implicitDefEqProofs (disch := (first | omega | (simp only [lenB, lowB_len, numB_len, nsumB_len] <;> omega) | fail)) only [admQ, lenB, lowB_len, numB_len, nsumB_len, aFill, AK.cls, implies_true, ↓reduceIte, reduceCtorEq, if_true, if_false, Nat.reduceAdd, Nat.reduceEqDiff, Nat.reduceMod, Nat.reduceLT, Nat.reduceLeDiff, Nat.reduceSub, Nat.reduceMul, Nat.reduceBEq, Int.reduceAdd, Int.reduceSub, Int.reduceMul, Int.reduceNeg, Int.reduceLT, Int.reduceLE, Int.reduceToNat, Int.reduceEq, Int.reduceBEq, c33, r33]
  have k0 := Kept.app [] m [Blk.row [] false]
  have g0 : GrB m.length (m ++ [Blk.row [] false]) (.sl m.length 0 0 0 0) [] := .zero (by rw [own_app_at0]; rfl)
  have hx0 := hx.app [Blk.row [] false]
  generalize m ++ [Blk.row [] false] = A at *
  obtain ⟨x1, m1, e1, g1, k1, a1⟩ := g0.pushs hx0 (by simp; omega) k0.len
  refine someW_eq e1 ?_
  have K1 := a1 _ _ k0 (Nat.le_refl _)
  rw [List.nil_append] at g1
  have hb1 := g1.lt
  simp -implicitDefEqProofs (disch := (first | omega | (simp only [lenB, lowB_len, numB_len, nsumB_len] <;> omega) | fail)) only [admQ, lenB, lowB_len, numB_len, nsumB_len, aFill, AK.cls, implies_true, ↓reduceIte, reduceCtorEq, if_true, if_false, Nat.reduceAdd, Nat.reduceEqDiff, Nat.reduceMod, Nat.reduceLT, Nat.reduceLeDiff, Nat.reduceSub, Nat.reduceMul, Nat.reduceBEq, Int.reduceAdd, Int.reduceSub, Int.reduceMul, Int.reduceNeg, Int.reduceLT, Int.reduceLE, Int.reduceToNat, Int.reduceEq, Int.reduceBEq, (rd_one g1.rd).1, (rd_one g1.rd).2]
  refine ⟨K1.more_app _, m1.length, rfl, K1.len, x1, by rw [own_app_at0]; rfl, g1.rd.app _, fun b hb => by have := hb1 b hb; omega, Nat.zero_le _, by omega⟩
theorem ans_r9left {m : Mem} {r : Nat} {l : List B8} {j : Nat} (h : Rd9 m r l j) : Ans Tryz.prog 63 [.ptr r 0] m fun v m' => v = .int .i64 ((l.length - j : Nat) : Int) ∧ m' = m := by
  refine ans_ret mixed ok63 ?_
  obtain ⟨v, h1, h2, h3, h4, hl9⟩ := h
  have e : (l.length : Int) - j = ((l.length - j : Nat) : Int) := by omega
  simp -implicitDefEqProofs (disch := (first | omega | (simp only [lenB, lowB_len, numB_len, nsumB_len] <;> omega) | fail)) only [admQ, lenB, lowB_len, numB_len, nsumB_len, aFill, AK.cls, implies_true, ↓reduceIte, reduceCtorEq, if_true, if_false, Nat.reduceAdd, Nat.reduceEqDiff, Nat.reduceMod, Nat.reduceLT, Nat.reduceLeDiff, Nat.reduceSub, Nat.reduceMul, Nat.reduceBEq, Int.reduceAdd, Int.reduceSub, Int.reduceMul, Int.reduceNeg, Int.reduceLT, Int.reduceLE, Int.reduceToNat, Int.reduceEq, Int.reduceBEq, c63, r63, rowOf_own h1, h2.len, e]
theorem ans_r9next {m : Mem} {r : Nat} {l : List B8} {j : Nat} (h : Rd9 m r l j) (hj : j + 8 ≤ l.length) : Ans Tryz.prog 47 [.ptr r 0, .int .i64 8] m fun v m' => Kept [r] m m' ∧ Rd9 m' r l (j + 8) ∧ ∃ y, v = .tup [y, .bool true] ∧ RdB m' y ((l.drop j).take 8) := by
  refine ans_ret mixed ok47 ?_
  simp -implicitDefEqProofs (disch := (first | omega | (simp only [lenB, lowB_len, numB_len, nsumB_len] <;> omega) | fail)) only [admQ, lenB, lowB_len, numB_len, nsumB_len, aFill, AK.cls, implies_true, ↓reduceIte, reduceCtorEq, if_true, if_false, Nat.reduceAdd, Nat.reduceEqDiff, Nat.reduceMod, Nat.reduceLT, Nat.reduceLeDiff, Nat.reduceSub, Nat.reduceMul, Nat.reduceBEq, Int.reduceAdd, Int.reduceSub, Int.reduceMul, Int.reduceNeg, Int.reduceLT, Int.reduceLE, Int.reduceToNat, Int.reduceEq, Int.reduceBEq, c47, r47]
  refine (ans_r9left h).mono ?_
  rintro _ M ⟨rfl, hM⟩
  subst hM
  obtain ⟨v, h1, h2, h3, h4, hl9⟩ := h
  obtain ⟨q, o, cap, sl, cc, rfl, hrow, hat, hlen, hcap, hsl, htk⟩ := h2.cons (i := j) (by omega)
  have hw := own_set (own_lt h1) [AV.sl q o l.length cap sl, .int .i64 ((j + 8 : Nat) : Int), .bool false]
  have kX := Kept.set1 M r (.row [AV.sl q o l.length cap sl, .int .i64 ((j + 8 : Nat) : Int), .bool false] false)
  have h2' := h2.kept kX (fun b o n cap s e => by cases e; simpa [blkOf] using h3)
  have e8 : ((j + 8 : Nat) : Int) - 8 = (j : Int) := by omega
  have hq : l.length - j - 8 = l.length - (j + 8) := by omega
  simp -implicitDefEqProofs (disch := (first | omega | (simp only [lenB, lowB_len, numB_len, nsumB_len] <;> omega) | fail)) only [admQ, lenB, lowB_len, numB_len, nsumB_len, aFill, AK.cls, implies_true, ↓reduceIte, reduceCtorEq, if_true, if_false, Nat.reduceAdd, Nat.reduceEqDiff, Nat.reduceMod, Nat.reduceLT, Nat.reduceLeDiff, Nat.reduceSub, Nat.reduceMul, Nat.reduceBEq, Int.reduceAdd, Int.reduceSub, Int.reduceMul, Int.reduceNeg, Int.reduceLT, Int.reduceLE, Int.reduceToNat, Int.reduceEq, Int.reduceBEq, dec_f (show ¬ ((l.length - j : Nat) : Int) < 8 by omega), rowOf_own h1, h1, rowOf_own hw, hw, e8, hsl]
  refine ⟨kX, ⟨_, hw, h2', h3, by omega, hl9⟩, _, rfl, ?_⟩
  have hd := h2'.drop (k := j) (by omega)
  have ht := hd.take (k := 8) (by omega)
  rwa [show j + 8 - j = 8 by omega]
theorem ans_r9rint {m : Mem} {r : Nat} {l : List B8} {j : Nat} (h : Rd9 m r l j) (hj : j + 8 ≤ l.length) : Ans Tryz.prog 34 [.ptr r 0] m fun v m' => v = .int .i64 (intB ((l.drop j).take 8)) ∧ Kept [r] m m' ∧ Rd9 m' r l (j + 8) := by
  refine ans_ret mixed ok34 ?_
  simp -implicitDefEqProofs (disch := (first | omega | (simp only [lenB, lowB_len, numB_len, nsumB_len] <;> omega) | fail)) only [admQ, lenB, lowB_len, numB_len, nsumB_len, aFill, AK.cls, implies_true, ↓reduceIte, reduceCtorEq, if_true, if_false, Nat.reduceAdd, Nat.reduceEqDiff, Nat.reduceMod, Nat.reduceLT, Nat.reduceLeDiff, Nat.reduceSub, Nat.reduceMul, Nat.reduceBEq, Int.reduceAdd, Int.reduceSub, Int.reduceMul, Int.reduceNeg, Int.reduceLT, Int.reduceLE, Int.reduceToNat, Int.reduceEq, Int.reduceBEq, c34, r34]
  refine (ans_r9next h hj).mono ?_
  rintro _ m1 ⟨k1, hR, y, rfl, hy⟩
  have hl8 : ((l.drop j).take 8).length = 8 := by rw [List.length_take, List.length_drop]; omega
  generalize (l.drop j).take 8 = u at hy hl8
  simp -implicitDefEqProofs (disch := (first | omega | (simp only [lenB, lowB_len, numB_len, nsumB_len] <;> omega) | fail)) only [admQ, lenB, lowB_len, numB_len, nsumB_len, aFill, AK.cls, implies_true, ↓reduceIte, reduceCtorEq, if_true, if_false, Nat.reduceAdd, Nat.reduceEqDiff, Nat.reduceMod, Nat.reduceLT, Nat.reduceLeDiff, Nat.reduceSub, Nat.reduceMul, Nat.reduceBEq, Int.reduceAdd, Int.reduceSub, Int.reduceMul, Int.reduceNeg, Int.reduceLT, Int.reduceLE, Int.reduceToNat, Int.reduceEq, Int.reduceBEq, Bool.not_true]
  refine LoopW.on (fun i : Nat => [(3, y), (5, .int .u64 (beN (u.take i) : Nat)), (6, .int .i64 i)]) (fun i => 8 - i) (fun i M => i ≤ 8 ∧ M = m1) ?_ 0 _ _ rfl ⟨by omega, rfl⟩
  rintro i M X ⟨hi, rfl⟩ hX
  by_cases hlt : i < 8
  · obtain ⟨b, o, cap, sl, c, rfl, hrow, hat, _⟩ := hy.cons (i := i) (by omega)
    have e := hat i (by omega)
    have hb8 := (gb u i).isLt
    have hn := beN_lt (i + 1) (u.take (i + 1)) (by rw [List.length_take]; omega)
    have hs : beN (u.take (i + 1)) = beN (u.take i) * 256 + (gb u i).toNat := by rw [take_gb (by omega), beN_snoc]
    have hp : 256 ^ (i + 1) ≤ 256 ^ 8 := Nat.pow_le_pow_right (by omega) (by omega)
    have e8 : (256 : Nat) ^ 8 = 18446744073709551616 := by decide
    have f1 : IntKind.u64.wrap ((beN (u.take i) * 256 : Nat) : Int) = ((beN (u.take i) * 256 : Nat) : Int) := nw64 (by omega)
    have f2 : IntKind.u64.wrap ((gb u i).toNat : Int) = ((gb u i).toNat : Int) := nw64 (by omega)
    have f3 : IntKind.u64.wrap ((beN (u.take i) * 256 + (gb u i).toNat : Nat) : Int) = ((beN (u.take (i + 1)) : Nat) : Int) := by
      rw [hs, nw64 (by omega)]
    simp -implicitDefEqProofs (disch := (first | omega | (simp only [lenB, lowB_len, numB_len, nsumB_len] <;> omega) | fail)) only [admQ, lenB, lowB_len, numB_len, nsumB_len, aFill, AK.cls, implies_true, ↓reduceIte, reduceCtorEq, if_true, if_false, Nat.reduceAdd, Nat.reduceEqDiff, Nat.reduceMod, Nat.reduceLT, Nat.reduceLeDiff, Nat.reduceSub, Nat.reduceMul, Nat.reduceBEq, Int.reduceAdd, Int.reduceSub, Int.reduceMul, Int.reduceNeg, Int.reduceLT, Int.reduceLE, Int.reduceToNat, Int.reduceEq, Int.reduceBEq, hrow, e, f1, f2, f3]
    exact hX (i + 1) _ _ rfl (by omega) ⟨by omega, rfl⟩
  · obtain rfl : i = 8 := by omega
    have hu : u.take 8 = u := List.take_of_length_le (by omega)
    rw [hu]
    simp -implicitDefEqProofs (disch := (first | omega | (simp only [lenB, lowB_len, numB_len, nsumB_len] <;> omega) | fail)) only [admQ, lenB, lowB_len, numB_len, nsumB_len, aFill, AK.cls, implies_true, ↓reduceIte, reduceCtorEq, if_true, if_false, Nat.reduceAdd, Nat.reduceEqDiff, Nat.reduceMod, Nat.reduceLT, Nat.reduceLeDiff, Nat.reduceSub, Nat.reduceMul, Nat.reduceBEq, Int.reduceAdd, Int.reduceSub, Int.reduceMul, Int.reduceNeg, Int.reduceLT, Int.reduceLE, Int.reduceToNat, Int.reduceEq, Int.reduceBEq]
    exact ⟨rfl, k1, hR⟩
end Go.Proofs.YtmnlmjlmbceimaaGreatDoor
end
section
/- Sectors, as the document has them: either crypt; put. -/
namespace Go.Proofs.YtmnlmjlmbceimaaGreatDoor
open Go Go.Adm
set_option linter.unusedSimpArgs false
set_option linter.unusedVariables false
set_option maxRecDepth 100000
/-- The document's crypt: by a box of a key. -/
def RCy (m : Mem) (x : Nat) (key : List B8) : Prop := ∃ b c, rowOf m x = some [.ptr b 0, .nilp] ∧ RBox m b c key
theorem RCy.kept0 {m m' : Mem} {x : Nat} {key : List B8} (h : RCy m x key) (hk : Kept [] m m') : RCy m' x key := by
  obtain ⟨b, c, h1, h2⟩ := h
  exact ⟨b, c, hk.row h1 (by simp), h2.kept0 hk⟩
theorem ans_rboxed {m : Mem} {y : AV} {key : List B8} (hK : rowOf m 1 = some (wds kT)) (hy : RdB m y key) (hkl : key.length ≤ 900000000) : Ans Tryz.prog 6 [y] m fun r m' => Kept [] m m' ∧ ∃ x, r = .ptr x 0 ∧ RCy m' x key := by
  refine ans_ret mixed ok6 ?_
  simp -implicitDefEqProofs (disch := (first | omega | (simp only [lenB, lowB_len, numB_len, nsumB_len] <;> omega) | fail)) only [admQ, lenB, lowB_len, numB_len, nsumB_len, aFill, AK.cls, implies_true, ↓reduceIte, reduceCtorEq, if_true, if_false, Nat.reduceAdd, Nat.reduceEqDiff, Nat.reduceMod, Nat.reduceLT, Nat.reduceLeDiff, Nat.reduceSub, Nat.reduceMul, Nat.reduceBEq, Int.reduceAdd, Int.reduceSub, Int.reduceMul, Int.reduceNeg, Int.reduceLT, Int.reduceLE, Int.reduceToNat, Int.reduceEq, Int.reduceBEq, c6, r6]
  refine (ans_rsnew hK hy hkl).mono ?_
  rintro _ m1 ⟨b, c, rfl, k1, hR⟩
  simp -implicitDefEqProofs (disch := (first | omega | (simp only [lenB, lowB_len, numB_len, nsumB_len] <;> omega) | fail)) only [admQ, lenB, lowB_len, numB_len, nsumB_len, aFill, AK.cls, implies_true, ↓reduceIte, reduceCtorEq, if_true, if_false, Nat.reduceAdd, Nat.reduceEqDiff, Nat.reduceMod, Nat.reduceLT, Nat.reduceLeDiff, Nat.reduceSub, Nat.reduceMul, Nat.reduceBEq, Int.reduceAdd, Int.reduceSub, Int.reduceMul, Int.reduceNeg, Int.reduceLT, Int.reduceLE, Int.reduceToNat, Int.reduceEq, Int.reduceBEq]
  exact ⟨k1.more_app _, m1.length, rfl, b, c, by rw [rowOf_app_at0]; rfl, hR _ (fun q _ h => List.getElem?_append_left h) ((k1.more_app _).row hK (by simp))⟩
theorem ans_rcseal {m : Mem} {x : Nat} {key head b : List B8} {hx bx : AV} {e n : Int} (hC : RCy m x key) (hh : RdB m hx head) (hb : RdB m bx b) (hl : head.length ≤ 100000 ∧ b.length ≤ 100000) (hp : placedP e n) :
    Ans Tryz.prog 29 [.ptr x 0, .int .i64 e, .int .i64 n, hx, bx] m fun r m' => Kept [] m m' ∧ GrB m.length m' r (sealB key head e n b) := by
  refine ans_ret mixed ok29 ?_
  obtain ⟨y, c, h1, h2⟩ := hC
  simp -implicitDefEqProofs (disch := (first | omega | (simp only [lenB, lowB_len, numB_len, nsumB_len] <;> omega) | fail)) only [admQ, lenB, lowB_len, numB_len, nsumB_len, aFill, AK.cls, implies_true, ↓reduceIte, reduceCtorEq, if_true, if_false, Nat.reduceAdd, Nat.reduceEqDiff, Nat.reduceMod, Nat.reduceLT, Nat.reduceLeDiff, Nat.reduceSub, Nat.reduceMul, Nat.reduceBEq, Int.reduceAdd, Int.reduceSub, Int.reduceMul, Int.reduceNeg, Int.reduceLT, Int.reduceLE, Int.reduceToNat, Int.reduceEq, Int.reduceBEq, c29, r29, h1]
  refine (ans_rsseal (e := e) (n := n) h2 hh hb hl).mono ?_
  rintro r m' ⟨k1, g1, -⟩
  simp -implicitDefEqProofs (disch := (first | omega | (simp only [lenB, lowB_len, numB_len, nsumB_len] <;> omega) | fail)) only [admQ, lenB, lowB_len, numB_len, nsumB_len, aFill, AK.cls, implies_true, ↓reduceIte, reduceCtorEq, if_true, if_false, Nat.reduceAdd, Nat.reduceEqDiff, Nat.reduceMod, Nat.reduceLT, Nat.reduceLeDiff, Nat.reduceSub, Nat.reduceMul, Nat.reduceBEq, Int.reduceAdd, Int.reduceSub, Int.reduceMul, Int.reduceNeg, Int.reduceLT, Int.reduceLE, Int.reduceToNat, Int.reduceEq, Int.reduceBEq, h1]
  exact ⟨k1, g1 hp⟩
theorem gr_apart {m0 p : Nat} {m : Mem} {v : AV} {l : List B8} {c : List AV} (g : GrB m0 m v l) (hp : p < m0) (ho : own m p = some c) (hc : c ≠ []) : ∀ q ∈ blkOf v, q ≠ p := by
  rcases g with ⟨_, rfl | ⟨b, rfl, hb⟩⟩ | ⟨b, n, _, _, rfl, _, h⟩
  · simp [blkOf]
  · simp only [blkOf, List.mem_singleton]
    rintro q rfl rfl
    rw [ho] at hb
    exact hc (Option.some.inj hb)
  · simp only [blkOf, List.mem_singleton]
    rintro q rfl; omega
theorem ans_rcopen {m : Mem} {x : Nat} {key head b : List B8} {hx bx : AV} {e n : Int} (hC : RCy m x key) (hh : RdB m hx head) (hb : RdB m bx b) (hl : head.length ≤ 100000 ∧ b.length ≤ 100000) :
    Ans Tryz.prog 35 [.ptr x 0, .int .i64 e, .int .i64 n, hx, bx] m fun r m' => Kept [] m m' ∧ ∃ v, r = .tup [v, .bool (cyOp (.box key) e n head b).isSome] ∧ GrB m.length m' v ((cyOp (.box key) e n head b).getD []) := by
  refine ans_ret mixed ok35 ?_
  obtain ⟨y, c, h1, h2⟩ := hC
  simp -implicitDefEqProofs (disch := (first | omega | (simp only [lenB, lowB_len, numB_len, nsumB_len] <;> omega) | fail)) only [admQ, lenB, lowB_len, numB_len, nsumB_len, aFill, AK.cls, implies_true, ↓reduceIte, reduceCtorEq, if_true, if_false, Nat.reduceAdd, Nat.reduceEqDiff, Nat.reduceMod, Nat.reduceLT, Nat.reduceLeDiff, Nat.reduceSub, Nat.reduceMul, Nat.reduceBEq, Int.reduceAdd, Int.reduceSub, Int.reduceMul, Int.reduceNeg, Int.reduceLT, Int.reduceLE, Int.reduceToNat, Int.reduceEq, Int.reduceBEq, c35, r35, h1]
  refine (ans_rsopen (e := e) (n := n) h2 hh hb hl).mono ?_
  rintro r m' ⟨k1, g1, g2⟩
  simp only [cyOp]
  by_cases hp : openP key head e n b
  · obtain ⟨v, rfl, g⟩ := g1 hp
    rw [if_pos hp]
    simp -implicitDefEqProofs (disch := (first | omega | (simp only [lenB, lowB_len, numB_len, nsumB_len] <;> omega) | fail)) only [admQ, lenB, lowB_len, numB_len, nsumB_len, aFill, AK.cls, implies_true, ↓reduceIte, reduceCtorEq, if_true, if_false, Nat.reduceAdd, Nat.reduceEqDiff, Nat.reduceMod, Nat.reduceLT, Nat.reduceLeDiff, Nat.reduceSub, Nat.reduceMul, Nat.reduceBEq, Int.reduceAdd, Int.reduceSub, Int.reduceMul, Int.reduceNeg, Int.reduceLT, Int.reduceLE, Int.reduceToNat, Int.reduceEq, Int.reduceBEq]
    exact ⟨k1, v, rfl, g⟩
  · obtain rfl := g2 hp
    rw [if_neg hp]
    simp -implicitDefEqProofs (disch := (first | omega | (simp only [lenB, lowB_len, numB_len, nsumB_len] <;> omega) | fail)) only [admQ, lenB, lowB_len, numB_len, nsumB_len, aFill, AK.cls, implies_true, ↓reduceIte, reduceCtorEq, if_true, if_false, Nat.reduceAdd, Nat.reduceEqDiff, Nat.reduceMod, Nat.reduceLT, Nat.reduceLeDiff, Nat.reduceSub, Nat.reduceMul, Nat.reduceBEq, Int.reduceAdd, Int.reduceSub, Int.reduceMul, Int.reduceNeg, Int.reduceLT, Int.reduceLE, Int.reduceToNat, Int.reduceEq, Int.reduceBEq]
    exact ⟨k1, .nils, rfl, .nils ..⟩
theorem ans_r11kind (k : Int) (m : Mem) : Ans Tryz.prog 25 [.int .i64 k] m fun r m' => r = .bool (decide (1 ≤ k ∧ k ≤ 5)) ∧ m' = m := by
  refine ans_ret mixed ok25 ?_
  by_cases h1 : k ≥ 1
  · by_cases h2 : k ≤ 5
    · simp -implicitDefEqProofs (disch := (first | omega | (simp only [lenB, lowB_len, numB_len, nsumB_len] <;> omega) | fail)) only [admQ, lenB, lowB_len, numB_len, nsumB_len, aFill, AK.cls, implies_true, ↓reduceIte, reduceCtorEq, if_true, if_false, Nat.reduceAdd, Nat.reduceEqDiff, Nat.reduceMod, Nat.reduceLT, Nat.reduceLeDiff, Nat.reduceSub, Nat.reduceMul, Nat.reduceBEq, Int.reduceAdd, Int.reduceSub, Int.reduceMul, Int.reduceNeg, Int.reduceLT, Int.reduceLE, Int.reduceToNat, Int.reduceEq, Int.reduceBEq, c25, r25, dec_t h1, dec_t h2, dec_t (show 1 ≤ k ∧ k ≤ 5 from ⟨h1, h2⟩)]
    · simp -implicitDefEqProofs (disch := (first | omega | (simp only [lenB, lowB_len, numB_len, nsumB_len] <;> omega) | fail)) only [admQ, lenB, lowB_len, numB_len, nsumB_len, aFill, AK.cls, implies_true, ↓reduceIte, reduceCtorEq, if_true, if_false, Nat.reduceAdd, Nat.reduceEqDiff, Nat.reduceMod, Nat.reduceLT, Nat.reduceLeDiff, Nat.reduceSub, Nat.reduceMul, Nat.reduceBEq, Int.reduceAdd, Int.reduceSub, Int.reduceMul, Int.reduceNeg, Int.reduceLT, Int.reduceLE, Int.reduceToNat, Int.reduceEq, Int.reduceBEq, c25, r25, dec_t h1, dec_f h2, dec_f (show ¬ (1 ≤ k ∧ k ≤ 5) from fun h => h2 h.2)]
  · simp -implicitDefEqProofs (disch := (first | omega | (simp only [lenB, lowB_len, numB_len, nsumB_len] <;> omega) | fail)) only [admQ, lenB, lowB_len, numB_len, nsumB_len, aFill, AK.cls, implies_true, ↓reduceIte, reduceCtorEq, if_true, if_false, Nat.reduceAdd, Nat.reduceEqDiff, Nat.reduceMod, Nat.reduceLT, Nat.reduceLeDiff, Nat.reduceSub, Nat.reduceMul, Nat.reduceBEq, Int.reduceAdd, Int.reduceSub, Int.reduceMul, Int.reduceNeg, Int.reduceLT, Int.reduceLE, Int.reduceToNat, Int.reduceEq, Int.reduceBEq, c25, r25, dec_f h1, dec_f (show ¬ (1 ≤ k ∧ k ≤ 5) from fun h => h1 h.1)]
theorem ans_r11number (k : Int) (m : Mem) : Ans Tryz.prog 26 [.int .i64 k] m fun r m' => r = .bool (decide (0 ≤ k ∧ k ≤ 1099511627776)) ∧ m' = m := by
  refine ans_ret mixed ok26 ?_
  by_cases h1 : k ≥ 0
  · by_cases h2 : k ≤ 1099511627776
    · simp -implicitDefEqProofs (disch := (first | omega | (simp only [lenB, lowB_len, numB_len, nsumB_len] <;> omega) | fail)) only [admQ, lenB, lowB_len, numB_len, nsumB_len, aFill, AK.cls, implies_true, ↓reduceIte, reduceCtorEq, if_true, if_false, Nat.reduceAdd, Nat.reduceEqDiff, Nat.reduceMod, Nat.reduceLT, Nat.reduceLeDiff, Nat.reduceSub, Nat.reduceMul, Nat.reduceBEq, Int.reduceAdd, Int.reduceSub, Int.reduceMul, Int.reduceNeg, Int.reduceLT, Int.reduceLE, Int.reduceToNat, Int.reduceEq, Int.reduceBEq, c26, r26, dec_t h1, dec_t h2, dec_t (show 0 ≤ k ∧ k ≤ 1099511627776 from ⟨h1, h2⟩)]
    · simp -implicitDefEqProofs (disch := (first | omega | (simp only [lenB, lowB_len, numB_len, nsumB_len] <;> omega) | fail)) only [admQ, lenB, lowB_len, numB_len, nsumB_len, aFill, AK.cls, implies_true, ↓reduceIte, reduceCtorEq, if_true, if_false, Nat.reduceAdd, Nat.reduceEqDiff, Nat.reduceMod, Nat.reduceLT, Nat.reduceLeDiff, Nat.reduceSub, Nat.reduceMul, Nat.reduceBEq, Int.reduceAdd, Int.reduceSub, Int.reduceMul, Int.reduceNeg, Int.reduceLT, Int.reduceLE, Int.reduceToNat, Int.reduceEq, Int.reduceBEq, c26, r26, dec_t h1, dec_f h2, dec_f (show ¬ (0 ≤ k ∧ k ≤ 1099511627776) from fun h => h2 h.2)]
  · simp -implicitDefEqProofs (disch := (first | omega | (simp only [lenB, lowB_len, numB_len, nsumB_len] <;> omega) | fail)) only [admQ, lenB, lowB_len, numB_len, nsumB_len, aFill, AK.cls, implies_true, ↓reduceIte, reduceCtorEq, if_true, if_false, Nat.reduceAdd, Nat.reduceEqDiff, Nat.reduceMod, Nat.reduceLT, Nat.reduceLeDiff, Nat.reduceSub, Nat.reduceMul, Nat.reduceBEq, Int.reduceAdd, Int.reduceSub, Int.reduceMul, Int.reduceNeg, Int.reduceLT, Int.reduceLE, Int.reduceToNat, Int.reduceEq, Int.reduceBEq, c26, r26, dec_f h1, dec_f (show ¬ (0 ≤ k ∧ k ≤ 1099511627776) from fun h => h1 h.1)]
theorem ans_r11place (k : Int) (m : Mem) : Ans Tryz.prog 27 [.int .i64 k] m fun r m' => r = .bool (decide (0 ≤ k ∧ k < 4096)) ∧ m' = m := by
  refine ans_ret mixed ok27 ?_
  by_cases h1 : k ≥ 0
  · by_cases h2 : k < 4096
    · simp -implicitDefEqProofs (disch := (first | omega | (simp only [lenB, lowB_len, numB_len, nsumB_len] <;> omega) | fail)) only [admQ, lenB, lowB_len, numB_len, nsumB_len, aFill, AK.cls, implies_true, ↓reduceIte, reduceCtorEq, if_true, if_false, Nat.reduceAdd, Nat.reduceEqDiff, Nat.reduceMod, Nat.reduceLT, Nat.reduceLeDiff, Nat.reduceSub, Nat.reduceMul, Nat.reduceBEq, Int.reduceAdd, Int.reduceSub, Int.reduceMul, Int.reduceNeg, Int.reduceLT, Int.reduceLE, Int.reduceToNat, Int.reduceEq, Int.reduceBEq, c27, r27, dec_t h1, dec_t h2, dec_t (show 0 ≤ k ∧ k < 4096 from ⟨h1, h2⟩)]
    · simp -implicitDefEqProofs (disch := (first | omega | (simp only [lenB, lowB_len, numB_len, nsumB_len] <;> omega) | fail)) only [admQ, lenB, lowB_len, numB_len, nsumB_len, aFill, AK.cls, implies_true, ↓reduceIte, reduceCtorEq, if_true, if_false, Nat.reduceAdd, Nat.reduceEqDiff, Nat.reduceMod, Nat.reduceLT, Nat.reduceLeDiff, Nat.reduceSub, Nat.reduceMul, Nat.reduceBEq, Int.reduceAdd, Int.reduceSub, Int.reduceMul, Int.reduceNeg, Int.reduceLT, Int.reduceLE, Int.reduceToNat, Int.reduceEq, Int.reduceBEq, c27, r27, dec_t h1, dec_f h2, dec_f (show ¬ (0 ≤ k ∧ k < 4096) from fun h => h2 h.2)]
  · simp -implicitDefEqProofs (disch := (first | omega | (simp only [lenB, lowB_len, numB_len, nsumB_len] <;> omega) | fail)) only [admQ, lenB, lowB_len, numB_len, nsumB_len, aFill, AK.cls, implies_true, ↓reduceIte, reduceCtorEq, if_true, if_false, Nat.reduceAdd, Nat.reduceEqDiff, Nat.reduceMod, Nat.reduceLT, Nat.reduceLeDiff, Nat.reduceSub, Nat.reduceMul, Nat.reduceBEq, Int.reduceAdd, Int.reduceSub, Int.reduceMul, Int.reduceNeg, Int.reduceLT, Int.reduceLE, Int.reduceToNat, Int.reduceEq, Int.reduceBEq, c27, r27, dec_f h1, dec_f (show ¬ (0 ≤ k ∧ k < 4096) from fun h => h1 h.1)]
theorem ans_r11head (k : Int) (a : Nat) (ha : a < 4611686018427387904) (m : Mem) : Ans Tryz.prog 30 [.int .i64 k, .int .i64 a] m fun r m' => Kept [] m m' ∧ GrB m.length m' r (headB k a) := by
  refine ans_ret mixed ok30 ?_
  have hw : IntKind.u8.wrap k = ((kB k).toNat : Int) := wr_u8 k
  simp -implicitDefEqProofs (disch := (first | omega | (simp only [lenB, lowB_len, numB_len, nsumB_len] <;> omega) | fail)) only [admQ, lenB, lowB_len, numB_len, nsumB_len, aFill, AK.cls, implies_true, ↓reduceIte, reduceCtorEq, if_true, if_false, Nat.reduceAdd, Nat.reduceEqDiff, Nat.reduceMod, Nat.reduceLT, Nat.reduceLeDiff, Nat.reduceSub, Nat.reduceMul, Nat.reduceBEq, Int.reduceAdd, Int.reduceSub, Int.reduceMul, Int.reduceNeg, Int.reduceLT, Int.reduceLE, Int.reduceToNat, Int.reduceEq, Int.reduceBEq, c30, r30, hw]
  have hr := RdB.row (m := m ++ [Blk.row [b8 (kB k)] false]) (l := [kB k]) 1 0 (rowOf_app_at0 m _) (by simp)
  refine (ans_r9int a ha hr (by simp)).mono ?_
  rintro r m' ⟨h1, g⟩
  simp -implicitDefEqProofs (disch := (first | omega | (simp only [lenB, lowB_len, numB_len, nsumB_len] <;> omega) | fail)) only [admQ, lenB, lowB_len, numB_len, nsumB_len, aFill, AK.cls, implies_true, ↓reduceIte, reduceCtorEq, if_true, if_false, Nat.reduceAdd, Nat.reduceEqDiff, Nat.reduceMod, Nat.reduceLT, Nat.reduceLeDiff, Nat.reduceSub, Nat.reduceMul, Nat.reduceBEq, Int.reduceAdd, Int.reduceSub, Int.reduceMul, Int.reduceNeg, Int.reduceLT, Int.reduceLE, Int.reduceToNat, Int.reduceEq, Int.reduceBEq]
  exact ⟨(Kept.app [] m _).trans h1, g.low (by simp)⟩
theorem ans_r11put {m : Mem} {x : Nat} {key : List B8} {s : Sec} {v : AV} (hC : RCy m x key) (hv : RdB m v s.p) (hl : s.p.length ≤ 100000) :
    Ans Tryz.prog 9 [.ptr x 0, secV s v] m fun r m' => Kept [] m m' ∧ ∃ w, r = .tup [w, .int .i64 (errP s)] ∧ RdB m' w (putL (.box key) s) := by
  refine ans_ret mixed ok9 ?_
  unfold secV
  have hno : ∀ (m' : Mem) (er : Int), ¬ okP s → errP s = er → Kept [] m m' → Kept [] m m' ∧ ∃ w, AV.tup [.nils, .int .i64 er] = .tup [w, .int .i64 (errP s)] ∧ RdB m' w (putL (.box key) s) := fun m' er hn he hk =>
    ⟨hk, .nils, by rw [he], by rw [putL, if_neg hn]; exact .nils _⟩
  simp -implicitDefEqProofs (disch := (first | omega | (simp only [lenB, lowB_len, numB_len, nsumB_len] <;> omega) | fail)) only [admQ, lenB, lowB_len, numB_len, nsumB_len, aFill, AK.cls, implies_true, ↓reduceIte, reduceCtorEq, if_true, if_false, Nat.reduceAdd, Nat.reduceEqDiff, Nat.reduceMod, Nat.reduceLT, Nat.reduceLeDiff, Nat.reduceSub, Nat.reduceMul, Nat.reduceBEq, Int.reduceAdd, Int.reduceSub, Int.reduceMul, Int.reduceNeg, Int.reduceLT, Int.reduceLE, Int.reduceToNat, Int.reduceEq, Int.reduceBEq, c9, r9, (rd_one hv).1, (rd_one hv).2]
  have k0 := Kept.app [] m [Blk.row [.int .i64 s.k, .int .i64 s.e, .int .i64 s.n, .int .i64 s.a, v] false]
  have o0 : own (m ++ [Blk.row [.int .i64 s.k, .int .i64 s.e, .int .i64 s.n, .int .i64 s.a, v] false]) m.length = some [.int .i64 s.k, .int .i64 s.e, .int .i64 s.n, .int .i64 s.a, v] := by rw [own_app_at0]; rfl
  generalize m ++ [Blk.row [.int .i64 s.k, .int .i64 s.e, .int .i64 s.n, .int .i64 s.a, v] false] = A at k0 o0
  refine (ans_r11kind s.k A).mono ?_
  rintro _ M ⟨rfl, hM⟩
  subst hM
  by_cases h1 : 1 ≤ s.k ∧ s.k ≤ 5
  · simp -implicitDefEqProofs (disch := (first | omega | (simp only [lenB, lowB_len, numB_len, nsumB_len] <;> omega) | fail)) only [admQ, lenB, lowB_len, numB_len, nsumB_len, aFill, AK.cls, implies_true, ↓reduceIte, reduceCtorEq, if_true, if_false, Nat.reduceAdd, Nat.reduceEqDiff, Nat.reduceMod, Nat.reduceLT, Nat.reduceLeDiff, Nat.reduceSub, Nat.reduceMul, Nat.reduceBEq, Int.reduceAdd, Int.reduceSub, Int.reduceMul, Int.reduceNeg, Int.reduceLT, Int.reduceLE, Int.reduceToNat, Int.reduceEq, Int.reduceBEq, dec_t h1, Bool.not_true, rowOf_own o0]
    refine (ans_r11number s.e M).mono ?_
    rintro _ M2 ⟨rfl, hM⟩
    subst hM
    by_cases h2 : 0 ≤ s.e ∧ s.e ≤ 1099511627776
    · simp -implicitDefEqProofs (disch := (first | omega | (simp only [lenB, lowB_len, numB_len, nsumB_len] <;> omega) | fail)) only [admQ, lenB, lowB_len, numB_len, nsumB_len, aFill, AK.cls, implies_true, ↓reduceIte, reduceCtorEq, if_true, if_false, Nat.reduceAdd, Nat.reduceEqDiff, Nat.reduceMod, Nat.reduceLT, Nat.reduceLeDiff, Nat.reduceSub, Nat.reduceMul, Nat.reduceBEq, Int.reduceAdd, Int.reduceSub, Int.reduceMul, Int.reduceNeg, Int.reduceLT, Int.reduceLE, Int.reduceToNat, Int.reduceEq, Int.reduceBEq, dec_t h2, Bool.not_true, rowOf_own o0]
      refine (ans_r11number s.n M2).mono ?_
      rintro _ M3 ⟨rfl, hM⟩
      subst hM
      by_cases h3 : 0 ≤ s.n ∧ s.n ≤ 1099511627776
      · simp -implicitDefEqProofs (disch := (first | omega | (simp only [lenB, lowB_len, numB_len, nsumB_len] <;> omega) | fail)) only [admQ, lenB, lowB_len, numB_len, nsumB_len, aFill, AK.cls, implies_true, ↓reduceIte, reduceCtorEq, if_true, if_false, Nat.reduceAdd, Nat.reduceEqDiff, Nat.reduceMod, Nat.reduceLT, Nat.reduceLeDiff, Nat.reduceSub, Nat.reduceMul, Nat.reduceBEq, Int.reduceAdd, Int.reduceSub, Int.reduceMul, Int.reduceNeg, Int.reduceLT, Int.reduceLE, Int.reduceToNat, Int.reduceEq, Int.reduceBEq, dec_t h3, Bool.not_true, rowOf_own o0]
        refine (ans_r11place s.a M3).mono ?_
        rintro _ M4 ⟨rfl, hM⟩
        subst hM
        by_cases h4 : 0 ≤ s.a ∧ s.a < 4096
        · have hr : rightP s.e s.n s.a := ⟨⟨h2.1, h3.1, h4.1⟩, ⟨h2.2, h3.2⟩, h4.2⟩
          by_cases h5 : (s.p.length : Int) > 975
          · have he : errP s = 3 := by rw [errP, if_neg (by omega), if_neg (by simpa using hr), if_pos (by omega)]
            simp -implicitDefEqProofs (disch := (first | omega | (simp only [lenB, lowB_len, numB_len, nsumB_len] <;> omega) | fail)) only [admQ, lenB, lowB_len, numB_len, nsumB_len, aFill, AK.cls, implies_true, ↓reduceIte, reduceCtorEq, if_true, if_false, Nat.reduceAdd, Nat.reduceEqDiff, Nat.reduceMod, Nat.reduceLT, Nat.reduceLeDiff, Nat.reduceSub, Nat.reduceMul, Nat.reduceBEq, Int.reduceAdd, Int.reduceSub, Int.reduceMul, Int.reduceNeg, Int.reduceLT, Int.reduceLE, Int.reduceToNat, Int.reduceEq, Int.reduceBEq, dec_t h4, Bool.not_true, rowOf_own o0, (hv.kept0 k0).len, dec_t h5]
            exact hno _ _ (fun h => by have := h.2.2; omega) he k0
          · have hok : okP s := ⟨h1, hr, by omega⟩
            have he := (errP_ok s).mpr hok
            clear hno
            obtain ⟨k, e, n, a, p⟩ := s
            simp only at *
            obtain ⟨e, rfl⟩ : ∃ e' : Nat, e = e' := ⟨e.toNat, by omega⟩
            obtain ⟨n, rfl⟩ : ∃ n' : Nat, n = n' := ⟨n.toNat, by omega⟩
            obtain ⟨a, rfl⟩ : ∃ a' : Nat, a = a' := ⟨a.toNat, by omega⟩
            have hw : IntKind.u8.wrap k = ((kB k).toNat : Int) := wr_u8 k
            simp -implicitDefEqProofs (disch := (first | omega | (simp only [lenB, lowB_len, numB_len, nsumB_len] <;> omega) | fail)) only [admQ, lenB, lowB_len, numB_len, nsumB_len, aFill, AK.cls, implies_true, ↓reduceIte, reduceCtorEq, if_true, if_false, Nat.reduceAdd, Nat.reduceEqDiff, Nat.reduceMod, Nat.reduceLT, Nat.reduceLeDiff, Nat.reduceSub, Nat.reduceMul, Nat.reduceBEq, Int.reduceAdd, Int.reduceSub, Int.reduceMul, Int.reduceNeg, Int.reduceLT, Int.reduceLE, Int.reduceToNat, Int.reduceEq, Int.reduceBEq, dec_t h4, Bool.not_true, rowOf_own o0, (hv.kept0 k0).len, dec_f h5, hw]
            have k1 := Kept.app [] M4 [Blk.row [b8 (kB k)] false]
            have r1 := RdB.row (m := M4 ++ [Blk.row [b8 (kB k)] false]) (l := [kB k]) 1 0 (rowOf_app_at0 M4 _) (by simp)
            have e1 : own (M4 ++ [Blk.row [b8 (kB k)] false]) M4.length = some [b8 (kB k)] := by rw [own_app_at0]; rfl
            generalize M4 ++ [Blk.row [b8 (kB k)] false] = B at *
            have o1 := k1.own o0 (by simp)
            simp -implicitDefEqProofs (disch := (first | omega | (simp only [lenB, lowB_len, numB_len, nsumB_len] <;> omega) | fail)) only [admQ, lenB, lowB_len, numB_len, nsumB_len, aFill, AK.cls, implies_true, ↓reduceIte, reduceCtorEq, if_true, if_false, Nat.reduceAdd, Nat.reduceEqDiff, Nat.reduceMod, Nat.reduceLT, Nat.reduceLeDiff, Nat.reduceSub, Nat.reduceMul, Nat.reduceBEq, Int.reduceAdd, Int.reduceSub, Int.reduceMul, Int.reduceNeg, Int.reduceLT, Int.reduceLE, Int.reduceToNat, Int.reduceEq, Int.reduceBEq, rowOf_own o1]
            refine (ans_r9int e (by omega) r1 (by simp)).mono ?_
            rintro y1 m1 ⟨k2, g2⟩
            have o2 := k2.own o1 (by simp)
            have e2 := k2.own e1 (by simp)
            simp -implicitDefEqProofs (disch := (first | omega | (simp only [lenB, lowB_len, numB_len, nsumB_len] <;> omega) | fail)) only [admQ, lenB, lowB_len, numB_len, nsumB_len, aFill, AK.cls, implies_true, ↓reduceIte, reduceCtorEq, if_true, if_false, Nat.reduceAdd, Nat.reduceEqDiff, Nat.reduceMod, Nat.reduceLT, Nat.reduceLeDiff, Nat.reduceSub, Nat.reduceMul, Nat.reduceBEq, Int.reduceAdd, Int.reduceSub, Int.reduceMul, Int.reduceNeg, Int.reduceLT, Int.reduceLE, Int.reduceToNat, Int.reduceEq, Int.reduceBEq, rowOf_own o2, rowOf_own o1, own_some e2]
            refine (ans_r9int n (by omega) g2.rd (by simp [numB_len])).mono ?_
            rintro y2 m2 ⟨k3, g3⟩
            have o3 := k3.own o2 (by simp)
            have e3 := k3.own e2 (by simp)
            simp -implicitDefEqProofs (disch := (first | omega | (simp only [lenB, lowB_len, numB_len, nsumB_len] <;> omega) | fail)) only [admQ, lenB, lowB_len, numB_len, nsumB_len, aFill, AK.cls, implies_true, ↓reduceIte, reduceCtorEq, if_true, if_false, Nat.reduceAdd, Nat.reduceEqDiff, Nat.reduceMod, Nat.reduceLT, Nat.reduceLeDiff, Nat.reduceSub, Nat.reduceMul, Nat.reduceBEq, Int.reduceAdd, Int.reduceSub, Int.reduceMul, Int.reduceNeg, Int.reduceLT, Int.reduceLE, Int.reduceToNat, Int.reduceEq, Int.reduceBEq, rowOf_own o3, rowOf_own o2, rowOf_own o1, own_some e3]
            refine (ans_r11head k a (by omega) m2).mono ?_
            rintro y3 m3 ⟨k4, g4⟩
            have o4 := k4.own o3 (by simp)
            have K4 := ((k0.trans k1).trans k2).trans (k3.trans k4)
            simp -implicitDefEqProofs (disch := (first | omega | (simp only [lenB, lowB_len, numB_len, nsumB_len] <;> omega) | fail)) only [admQ, lenB, lowB_len, numB_len, nsumB_len, aFill, AK.cls, implies_true, ↓reduceIte, reduceCtorEq, if_true, if_false, Nat.reduceAdd, Nat.reduceEqDiff, Nat.reduceMod, Nat.reduceLT, Nat.reduceLeDiff, Nat.reduceSub, Nat.reduceMul, Nat.reduceBEq, Int.reduceAdd, Int.reduceSub, Int.reduceMul, Int.reduceNeg, Int.reduceLT, Int.reduceLE, Int.reduceToNat, Int.reduceEq, Int.reduceBEq, rowOf_own o4, rowOf_own o3, rowOf_own o2]
            refine (ans_rcseal (e := e) (n := n) (hC.kept0 K4) g4.rd (hv.kept0 K4) ⟨by rw [headB_len]; omega, hl⟩ ⟨h2, h3⟩).mono ?_
            rintro z m4 ⟨kS, gz⟩
            have o5 := kS.own o4 (by simp)
            have hzl := sealB_len key (headB k a) e n p
            have g3' := (g3.kept0 k4).kept0 kS
            have hB : m2.length ≤ m4.length := Nat.le_trans k4.len kS.len
            obtain ⟨w, m5, e5, g5, k5, a5⟩ := g3'.pushs gz.rd (by simp [numB_len, hzl]; omega) (Nat.le_trans k3.len hB)
            simp -implicitDefEqProofs (disch := (first | omega | (simp only [lenB, lowB_len, numB_len, nsumB_len] <;> omega) | fail)) only [admQ, lenB, lowB_len, numB_len, nsumB_len, aFill, AK.cls, implies_true, ↓reduceIte, reduceCtorEq, if_true, if_false, Nat.reduceAdd, Nat.reduceEqDiff, Nat.reduceMod, Nat.reduceLT, Nat.reduceLeDiff, Nat.reduceSub, Nat.reduceMul, Nat.reduceBEq, Int.reduceAdd, Int.reduceSub, Int.reduceMul, Int.reduceNeg, Int.reduceLT, Int.reduceLE, Int.reduceToNat, Int.reduceEq, Int.reduceBEq, rowOf_own o5, rowOf_own o4, rowOf_own o3, rowOf_own o2]
            refine someW_eq e5 ?_
            have hAm := (k1.trans k2).len
            have KA : Kept [] M4 m5 := a5 _ _ ((k1.trans k2).trans ((k3.trans k4).trans kS)) hAm
            have o6 := KA.own o0 (by simp)
            simp -implicitDefEqProofs (disch := (first | omega | (simp only [lenB, lowB_len, numB_len, nsumB_len] <;> omega) | fail)) only [admQ, lenB, lowB_len, numB_len, nsumB_len, aFill, AK.cls, implies_true, ↓reduceIte, reduceCtorEq, if_true, if_false, Nat.reduceAdd, Nat.reduceEqDiff, Nat.reduceMod, Nat.reduceLT, Nat.reduceLeDiff, Nat.reduceSub, Nat.reduceMul, Nat.reduceBEq, Int.reduceAdd, Int.reduceSub, Int.reduceMul, Int.reduceNeg, Int.reduceLT, Int.reduceLE, Int.reduceToNat, Int.reduceEq, Int.reduceBEq, rowOf_own o6, rowOf_own o5, rowOf_own o4, rowOf_own o3, rowOf_own o2]
            refine ⟨k0.trans KA, w, by rw [he], ?_⟩
            have hsd : secD ⟨k, e, n, a, p⟩ = ((e : Int), (n : Int), headB k a, p) := by simp [secD]
            rw [putL, if_pos hok, putB, hsd]
            simp only [cySl, if_pos (show mayP ((e : Int), (n : Int), headB k a, p) from ⟨h2, h3⟩), Int.toNat_natCast]
            simpa using g5.rd
        · have he : errP s = 7 := by rw [errP, if_neg (by omega), if_pos (fun h => h4 ⟨h.1.2.2, h.2.2⟩)]
          simp -implicitDefEqProofs (disch := (first | omega | (simp only [lenB, lowB_len, numB_len, nsumB_len] <;> omega) | fail)) only [admQ, lenB, lowB_len, numB_len, nsumB_len, aFill, AK.cls, implies_true, ↓reduceIte, reduceCtorEq, if_true, if_false, Nat.reduceAdd, Nat.reduceEqDiff, Nat.reduceMod, Nat.reduceLT, Nat.reduceLeDiff, Nat.reduceSub, Nat.reduceMul, Nat.reduceBEq, Int.reduceAdd, Int.reduceSub, Int.reduceMul, Int.reduceNeg, Int.reduceLT, Int.reduceLE, Int.reduceToNat, Int.reduceEq, Int.reduceBEq, dec_f h4, Bool.not_false]
          exact hno _ _ (fun h => h4 ⟨h.2.1.1.2.2, h.2.1.2.2⟩) he k0
      · have he : errP s = 7 := by rw [errP, if_neg (by omega), if_pos (fun h => h3 ⟨h.1.2.1, h.2.1.2⟩)]
        simp -implicitDefEqProofs (disch := (first | omega | (simp only [lenB, lowB_len, numB_len, nsumB_len] <;> omega) | fail)) only [admQ, lenB, lowB_len, numB_len, nsumB_len, aFill, AK.cls, implies_true, ↓reduceIte, reduceCtorEq, if_true, if_false, Nat.reduceAdd, Nat.reduceEqDiff, Nat.reduceMod, Nat.reduceLT, Nat.reduceLeDiff, Nat.reduceSub, Nat.reduceMul, Nat.reduceBEq, Int.reduceAdd, Int.reduceSub, Int.reduceMul, Int.reduceNeg, Int.reduceLT, Int.reduceLE, Int.reduceToNat, Int.reduceEq, Int.reduceBEq, dec_f h3, Bool.not_false]
        exact hno _ _ (fun h => h3 ⟨h.2.1.1.2.1, h.2.1.2.1.2⟩) he k0
    · have he : errP s = 7 := by rw [errP, if_neg (by omega), if_pos (fun h => h2 ⟨h.1.1, h.2.1.1⟩)]
      simp -implicitDefEqProofs (disch := (first | omega | (simp only [lenB, lowB_len, numB_len, nsumB_len] <;> omega) | fail)) only [admQ, lenB, lowB_len, numB_len, nsumB_len, aFill, AK.cls, implies_true, ↓reduceIte, reduceCtorEq, if_true, if_false, Nat.reduceAdd, Nat.reduceEqDiff, Nat.reduceMod, Nat.reduceLT, Nat.reduceLeDiff, Nat.reduceSub, Nat.reduceMul, Nat.reduceBEq, Int.reduceAdd, Int.reduceSub, Int.reduceMul, Int.reduceNeg, Int.reduceLT, Int.reduceLE, Int.reduceToNat, Int.reduceEq, Int.reduceBEq, dec_f h2, Bool.not_false]
      exact hno _ _ (fun h => h2 ⟨h.2.1.1.1, h.2.1.2.1.1⟩) he k0
  · have he : errP s = 5 := by rw [errP, if_pos (by omega)]
    simp -implicitDefEqProofs (disch := (first | omega | (simp only [lenB, lowB_len, numB_len, nsumB_len] <;> omega) | fail)) only [admQ, lenB, lowB_len, numB_len, nsumB_len, aFill, AK.cls, implies_true, ↓reduceIte, reduceCtorEq, if_true, if_false, Nat.reduceAdd, Nat.reduceEqDiff, Nat.reduceMod, Nat.reduceLT, Nat.reduceLeDiff, Nat.reduceSub, Nat.reduceMul, Nat.reduceBEq, Int.reduceAdd, Int.reduceSub, Int.reduceMul, Int.reduceNeg, Int.reduceLT, Int.reduceLE, Int.reduceToNat, Int.reduceEq, Int.reduceBEq, dec_f h1, Bool.not_false]
    exact hno _ _ (fun h => h1 h.1) he k0
end Go.Proofs.YtmnlmjlmbceimaaGreatDoor
end
section
/- Sectors, as the document has them: got. -/
namespace Go.Proofs.YtmnlmjlmbceimaaGreatDoor
open Go Go.Adm
set_option linter.unusedSimpArgs false
set_option linter.unusedVariables false
set_option maxRecDepth 100000
theorem ans_r11kindof {m : Mem} {x : AV} {b : List B8} (hb : RdB m x b) : Ans Tryz.prog 15 [x] m fun r m' => r = .int .i64 (kindB b) ∧ m' = m := by
  refine ans_ret mixed ok15 ?_
  have hbl := (gb b 0).isLt
  unfold kindB
  by_cases h1 : b.length < 17
  · rw [if_pos (.inl h1)]
    simp -implicitDefEqProofs (disch := (first | omega | (simp only [lenB, lowB_len, numB_len, nsumB_len] <;> omega) | fail)) only [admQ, lenB, lowB_len, numB_len, nsumB_len, aFill, AK.cls, implies_true, ↓reduceIte, reduceCtorEq, if_true, if_false, Nat.reduceAdd, Nat.reduceEqDiff, Nat.reduceMod, Nat.reduceLT, Nat.reduceLeDiff, Nat.reduceSub, Nat.reduceMul, Nat.reduceBEq, Int.reduceAdd, Int.reduceSub, Int.reduceMul, Int.reduceNeg, Int.reduceLT, Int.reduceLE, Int.reduceToNat, Int.reduceEq, Int.reduceBEq, c15, r15, hb.len, dec_t (show (b.length : Int) < 17 by omega)]
  · obtain ⟨q, o, cap, sl, cc, rfl, hrow, hat, _⟩ := hb.cons (i := 0) (by omega)
    have e0 := hat 0 (by omega)
    simp only [Nat.add_zero] at e0
    have w0 := wrap_i64 (show (-9223372036854775808 : Int) ≤ ((gb b 0).toNat : Int) by omega) (show ((gb b 0).toNat : Int) < 9223372036854775808 by omega)
    simp -implicitDefEqProofs (disch := (first | omega | (simp only [lenB, lowB_len, numB_len, nsumB_len] <;> omega) | fail)) only [admQ, lenB, lowB_len, numB_len, nsumB_len, aFill, AK.cls, implies_true, ↓reduceIte, reduceCtorEq, if_true, if_false, Nat.reduceAdd, Nat.reduceEqDiff, Nat.reduceMod, Nat.reduceLT, Nat.reduceLeDiff, Nat.reduceSub, Nat.reduceMul, Nat.reduceBEq, Int.reduceAdd, Int.reduceSub, Int.reduceMul, Int.reduceNeg, Int.reduceLT, Int.reduceLE, Int.reduceToNat, Int.reduceEq, Int.reduceBEq, c15, r15, hrow, e0, dec_f (show ¬ (b.length : Int) < 17 by omega), w0]
    refine (ans_r11kind _ m).mono ?_
    rintro _ M ⟨rfl, hM⟩
    subst hM
    by_cases h2 : 1 ≤ ((gb b 0).toNat : Int) ∧ ((gb b 0).toNat : Int) ≤ 5
    · rw [if_neg (by omega)]
      simp -implicitDefEqProofs (disch := (first | omega | (simp only [lenB, lowB_len, numB_len, nsumB_len] <;> omega) | fail)) only [admQ, lenB, lowB_len, numB_len, nsumB_len, aFill, AK.cls, implies_true, ↓reduceIte, reduceCtorEq, if_true, if_false, Nat.reduceAdd, Nat.reduceEqDiff, Nat.reduceMod, Nat.reduceLT, Nat.reduceLeDiff, Nat.reduceSub, Nat.reduceMul, Nat.reduceBEq, Int.reduceAdd, Int.reduceSub, Int.reduceMul, Int.reduceNeg, Int.reduceLT, Int.reduceLE, Int.reduceToNat, Int.reduceEq, Int.reduceBEq, dec_t h2, Bool.not_true, hrow, e0, w0]
    · rw [if_pos (by omega)]
      simp -implicitDefEqProofs (disch := (first | omega | (simp only [lenB, lowB_len, numB_len, nsumB_len] <;> omega) | fail)) only [admQ, lenB, lowB_len, numB_len, nsumB_len, aFill, AK.cls, implies_true, ↓reduceIte, reduceCtorEq, if_true, if_false, Nat.reduceAdd, Nat.reduceEqDiff, Nat.reduceMod, Nat.reduceLT, Nat.reduceLeDiff, Nat.reduceSub, Nat.reduceMul, Nat.reduceBEq, Int.reduceAdd, Int.reduceSub, Int.reduceMul, Int.reduceNeg, Int.reduceLT, Int.reduceLE, Int.reduceToNat, Int.reduceEq, Int.reduceBEq, dec_f h2, Bool.not_false]
theorem ans_r11get {m : Mem} {x : Nat} {key : List B8} {k a : Int} {y : AV} {b : List B8} (hC : RCy m x key) (hy : RdB m y b) (hl : b.length ≤ 100000) :
    Ans Tryz.prog 11 [.ptr x 0, .int .i64 k, .int .i64 a, y] m fun r m' => Kept [] m m' ∧ ∃ w, r = .tup [secV (getS (.box key) k a b) w, .int .i64 (getE (.box key) k a b)] ∧ GrB m.length m' w (getS (.box key) k a b).p := by
  refine ans_ret mixed ok11 ?_
  have hno : ∀ (m' : Mem) (er : Int), er ≠ 0 → getE (.box key) k a b = er → Kept [] m m' → Kept [] m m' ∧ ∃ w, AV.tup [.agg [.int .i64 0, .int .i64 0, .int .i64 0, .int .i64 0, .nils], .int .i64 er] = .tup [secV (getS (.box key) k a b) w, .int .i64 (getE (.box key) k a b)] ∧ GrB m.length m' w (getS (.box key) k a b).p := fun m' er h0 he hk => by
    rw [he]
    have hs : getS (.box key) k a b = sec0 := by rw [getS, he, if_neg h0]
    rw [hs]
    exact ⟨hk, .nils, rfl, .nils ..⟩
  have k0 := Kept.app [] m [Blk.row [.int .i64 0, .int .i64 0, .int .i64 0, .int .i64 0, .nils] false]
  have o0 : own (m ++ [Blk.row [.int .i64 0, .int .i64 0, .int .i64 0, .int .i64 0, .nils] false]) m.length = some [.int .i64 0, .int .i64 0, .int .i64 0, .int .i64 0, .nils] := by rw [own_app_at0]; rfl
  by_cases h1 : b.length < 17
  · have he : getE (.box key) k a b = 2 := by rw [getE, if_pos h1]
    simp -implicitDefEqProofs (disch := (first | omega | (simp only [lenB, lowB_len, numB_len, nsumB_len] <;> omega) | fail)) only [admQ, lenB, lowB_len, numB_len, nsumB_len, aFill, AK.cls, implies_true, ↓reduceIte, reduceCtorEq, if_true, if_false, Nat.reduceAdd, Nat.reduceEqDiff, Nat.reduceMod, Nat.reduceLT, Nat.reduceLeDiff, Nat.reduceSub, Nat.reduceMul, Nat.reduceBEq, Int.reduceAdd, Int.reduceSub, Int.reduceMul, Int.reduceNeg, Int.reduceLT, Int.reduceLE, Int.reduceToNat, Int.reduceEq, Int.reduceBEq, c11, r11, hy.len, dec_t (show (b.length : Int) < 17 by omega)]
    exact hno _ _ (by omega) he (.app _ _ _)
  by_cases h2 : b.length > 1024
  · have he : getE (.box key) k a b = 3 := by rw [getE, if_neg h1, if_pos h2]
    simp -implicitDefEqProofs (disch := (first | omega | (simp only [lenB, lowB_len, numB_len, nsumB_len] <;> omega) | fail)) only [admQ, lenB, lowB_len, numB_len, nsumB_len, aFill, AK.cls, implies_true, ↓reduceIte, reduceCtorEq, if_true, if_false, Nat.reduceAdd, Nat.reduceEqDiff, Nat.reduceMod, Nat.reduceLT, Nat.reduceLeDiff, Nat.reduceSub, Nat.reduceMul, Nat.reduceBEq, Int.reduceAdd, Int.reduceSub, Int.reduceMul, Int.reduceNeg, Int.reduceLT, Int.reduceLE, Int.reduceToNat, Int.reduceEq, Int.reduceBEq, c11, r11, hy.len, dec_f (show ¬ (b.length : Int) < 17 by omega), dec_t (show (b.length : Int) > 1024 by omega)]
    exact hno _ _ (by omega) he (.app _ _ _)
  obtain ⟨q, o, cap, sl, cc, rfl, hrow, hat, hlen, hcap, hsl, htk⟩ := hy.cons (i := 0) (by omega)
  have hbl := (gb b 0).isLt
  have e0 := hat 0 (by omega)
  simp only [Nat.add_zero] at e0
  have w0 := wrap_i64 (show (-9223372036854775808 : Int) ≤ ((gb b 0).toNat : Int) by omega) (show ((gb b 0).toNat : Int) < 9223372036854775808 by omega)
  simp -implicitDefEqProofs (disch := (first | omega | (simp only [lenB, lowB_len, numB_len, nsumB_len] <;> omega) | fail)) only [admQ, lenB, lowB_len, numB_len, nsumB_len, aFill, AK.cls, implies_true, ↓reduceIte, reduceCtorEq, if_true, if_false, Nat.reduceAdd, Nat.reduceEqDiff, Nat.reduceMod, Nat.reduceLT, Nat.reduceLeDiff, Nat.reduceSub, Nat.reduceMul, Nat.reduceBEq, Int.reduceAdd, Int.reduceSub, Int.reduceMul, Int.reduceNeg, Int.reduceLT, Int.reduceLE, Int.reduceToNat, Int.reduceEq, Int.reduceBEq, c11, r11, hy.len, dec_f (show ¬ (b.length : Int) < 17 by omega), dec_f (show ¬ (b.length : Int) > 1024 by omega)]
  generalize m ++ [Blk.row [.int .i64 0, .int .i64 0, .int .i64 0, .int .i64 0, .nils] false] = A at k0 o0
  have hyA := hy.kept0 k0
  have hrA := k0.row hrow (by simp)
  refine (ans_r11kind k A).mono ?_
  rintro _ M ⟨rfl, hM⟩
  subst hM
  by_cases h3 : 1 ≤ k ∧ k ≤ 5
  · by_cases h4 : ((gb b 0).toNat : Int) = k
    · have hkb : kindB b = k := by rw [kindB, if_neg (by omega), h4]
      have hsub : RdB M (.sl q (o + 1) 16 (cap - 1) sl) ((b.drop 1).take 16) := by
        have hd := hyA.drop (k := 1) (by omega)
        exact hd.take (k := 16) (by omega)
      have hl16 : ((b.drop 1).take 16).length = 16 := by rw [List.length_take, List.length_drop]; omega
      have hkk : (((gb b 0).toNat : Int) == k) = true := beq_iff_eq.mpr h4
      simp -implicitDefEqProofs (disch := (first | omega | (simp only [lenB, lowB_len, numB_len, nsumB_len] <;> omega) | fail)) only [admQ, lenB, lowB_len, numB_len, nsumB_len, aFill, AK.cls, implies_true, ↓reduceIte, reduceCtorEq, if_true, if_false, Nat.reduceAdd, Nat.reduceEqDiff, Nat.reduceMod, Nat.reduceLT, Nat.reduceLeDiff, Nat.reduceSub, Nat.reduceMul, Nat.reduceBEq, Int.reduceAdd, Int.reduceSub, Int.reduceMul, Int.reduceNeg, Int.reduceLT, Int.reduceLE, Int.reduceToNat, Int.reduceEq, Int.reduceBEq, dec_t h3, Bool.not_true, hrA, e0, w0, hkk, hsl]
      refine (ans_r9read hsub (by omega)).mono ?_
      rintro _ m1 ⟨k1, p, rfl, hp, hR1⟩
      simp -implicitDefEqProofs (disch := (first | omega | (simp only [lenB, lowB_len, numB_len, nsumB_len] <;> omega) | fail)) only [admQ, lenB, lowB_len, numB_len, nsumB_len, aFill, AK.cls, implies_true, ↓reduceIte, reduceCtorEq, if_true, if_false, Nat.reduceAdd, Nat.reduceEqDiff, Nat.reduceMod, Nat.reduceLT, Nat.reduceLeDiff, Nat.reduceSub, Nat.reduceMul, Nat.reduceBEq, Int.reduceAdd, Int.reduceSub, Int.reduceMul, Int.reduceNeg, Int.reduceLT, Int.reduceLE, Int.reduceToNat, Int.reduceEq, Int.reduceBEq]
      refine (ans_r9rint hR1 (by omega)).mono ?_
      rintro _ m2 ⟨rfl, k2, hR2⟩
      simp -implicitDefEqProofs (disch := (first | omega | (simp only [lenB, lowB_len, numB_len, nsumB_len] <;> omega) | fail)) only [admQ, lenB, lowB_len, numB_len, nsumB_len, aFill, AK.cls, implies_true, ↓reduceIte, reduceCtorEq, if_true, if_false, Nat.reduceAdd, Nat.reduceEqDiff, Nat.reduceMod, Nat.reduceLT, Nat.reduceLeDiff, Nat.reduceSub, Nat.reduceMul, Nat.reduceBEq, Int.reduceAdd, Int.reduceSub, Int.reduceMul, Int.reduceNeg, Int.reduceLT, Int.reduceLE, Int.reduceToNat, Int.reduceEq, Int.reduceBEq]
      refine (ans_r9rint hR2 (by omega)).mono ?_
      rintro _ m3 ⟨rfl, k3, -⟩
      have e1 : (((b.drop 1).take 16).drop 0).take 8 = (b.drop 1).take 8 := by rw [List.drop_zero, List.take_take]; rfl
      have e2 : (((b.drop 1).take 16).drop (0 + 8)).take 8 = (b.drop 9).take 8 := by rw [List.drop_take, List.take_take, List.drop_drop]; rfl
      have hE : intB (((b.drop 1).take 16).take 8) = nE b := by rw [List.drop_zero] at e1; rw [e1]; rfl
      have hNn : intB ((((b.drop 1).take 16).drop (0 + 8)).take 8) = nN b := by rw [e2]; rfl
      have K3 : Kept [] M m3 := (k1.upon k2 (by simpa using hp)).upon k3 (by simpa using hp)
      have o3 := K3.own o0 (by simp)
      have KB := k0.trans K3
      rw [hE, hNn]
      simp -implicitDefEqProofs (disch := (first | omega | (simp only [lenB, lowB_len, numB_len, nsumB_len] <;> omega) | fail)) only [admQ, lenB, lowB_len, numB_len, nsumB_len, aFill, AK.cls, implies_true, ↓reduceIte, reduceCtorEq, if_true, if_false, Nat.reduceAdd, Nat.reduceEqDiff, Nat.reduceMod, Nat.reduceLT, Nat.reduceLeDiff, Nat.reduceSub, Nat.reduceMul, Nat.reduceBEq, Int.reduceAdd, Int.reduceSub, Int.reduceMul, Int.reduceNeg, Int.reduceLT, Int.reduceLE, Int.reduceToNat, Int.reduceEq, Int.reduceBEq]
      refine (ans_r11number (nE b) m3).mono ?_
      rintro _ M3 ⟨rfl, hM⟩
      subst hM
      have er7 : ¬ rightP (nE b) (nN b) a → getE (.box key) k a b = 7 := fun h => by rw [getE, if_neg h1, if_neg h2, if_neg (by rintro (h | h); omega; exact h hkb), if_pos h]
      by_cases h5 : 0 ≤ nE b ∧ nE b ≤ 1099511627776
      · simp -implicitDefEqProofs (disch := (first | omega | (simp only [lenB, lowB_len, numB_len, nsumB_len] <;> omega) | fail)) only [admQ, lenB, lowB_len, numB_len, nsumB_len, aFill, AK.cls, implies_true, ↓reduceIte, reduceCtorEq, if_true, if_false, Nat.reduceAdd, Nat.reduceEqDiff, Nat.reduceMod, Nat.reduceLT, Nat.reduceLeDiff, Nat.reduceSub, Nat.reduceMul, Nat.reduceBEq, Int.reduceAdd, Int.reduceSub, Int.reduceMul, Int.reduceNeg, Int.reduceLT, Int.reduceLE, Int.reduceToNat, Int.reduceEq, Int.reduceBEq, dec_t h5, Bool.not_true]
        refine (ans_r11number (nN b) M3).mono ?_
        rintro _ M4 ⟨rfl, hM⟩
        subst hM
        by_cases h6 : 0 ≤ nN b ∧ nN b ≤ 1099511627776
        · simp -implicitDefEqProofs (disch := (first | omega | (simp only [lenB, lowB_len, numB_len, nsumB_len] <;> omega) | fail)) only [admQ, lenB, lowB_len, numB_len, nsumB_len, aFill, AK.cls, implies_true, ↓reduceIte, reduceCtorEq, if_true, if_false, Nat.reduceAdd, Nat.reduceEqDiff, Nat.reduceMod, Nat.reduceLT, Nat.reduceLeDiff, Nat.reduceSub, Nat.reduceMul, Nat.reduceBEq, Int.reduceAdd, Int.reduceSub, Int.reduceMul, Int.reduceNeg, Int.reduceLT, Int.reduceLE, Int.reduceToNat, Int.reduceEq, Int.reduceBEq, dec_t h6, Bool.not_true]
          refine (ans_r11place a M4).mono ?_
          rintro _ M5 ⟨rfl, hM⟩
          subst hM
          by_cases h7 : 0 ≤ a ∧ a < 4096
          · simp -implicitDefEqProofs (disch := (first | omega | (simp only [lenB, lowB_len, numB_len, nsumB_len] <;> omega) | fail)) only [admQ, lenB, lowB_len, numB_len, nsumB_len, aFill, AK.cls, implies_true, ↓reduceIte, reduceCtorEq, if_true, if_false, Nat.reduceAdd, Nat.reduceEqDiff, Nat.reduceMod, Nat.reduceLT, Nat.reduceLeDiff, Nat.reduceSub, Nat.reduceMul, Nat.reduceBEq, Int.reduceAdd, Int.reduceSub, Int.reduceMul, Int.reduceNeg, Int.reduceLT, Int.reduceLE, Int.reduceToNat, Int.reduceEq, Int.reduceBEq, dec_t h7, Bool.not_true]
            obtain ⟨a, rfl⟩ : ∃ a' : Nat, a = a' := ⟨a.toNat, by omega⟩
            refine (ans_r11head k a (by omega) M5).mono ?_
            rintro y1 m5 ⟨k5, g5⟩
            have hr : rightP (nE b) (nN b) a := ⟨⟨h5.1, h6.1, h7.1⟩, ⟨h5.2, h6.2⟩, h7.2⟩
            have K5 := KB.trans k5
            have hy5 := hy.kept0 K5
            have hdr := hy5.drop (k := 17) (by omega)
            simp -implicitDefEqProofs (disch := (first | omega | (simp only [lenB, lowB_len, numB_len, nsumB_len] <;> omega) | fail)) only [admQ, lenB, lowB_len, numB_len, nsumB_len, aFill, AK.cls, implies_true, ↓reduceIte, reduceCtorEq, if_true, if_false, Nat.reduceAdd, Nat.reduceEqDiff, Nat.reduceMod, Nat.reduceLT, Nat.reduceLeDiff, Nat.reduceSub, Nat.reduceMul, Nat.reduceBEq, Int.reduceAdd, Int.reduceSub, Int.reduceMul, Int.reduceNeg, Int.reduceLT, Int.reduceLE, Int.reduceToNat, Int.reduceEq, Int.reduceBEq, hsl]
            refine (ans_rcopen (e := nE b) (n := nN b) (hC.kept0 K5) g5.rd hdr ⟨by rw [headB_len]; omega, by rw [List.length_drop]; omega⟩).mono ?_
            rintro _ m6 ⟨k6, w, rfl, gw6⟩
            have rw6 := gw6.rd
            have K6 := K5.trans k6
            have o6 := (k5.trans k6).own o3 (by simp)
            cases hop : cyOp (.box key) (nE b) (nN b) (headB k a) (b.drop 17) with
            | none =>
              have he : getE (.box key) k a b = 19 := by rw [getE, if_neg h1, if_neg h2, if_neg (by rintro (h | h); omega; exact h hkb), if_neg (by simpa using hr), Int.toNat_natCast, hop]
              simp -implicitDefEqProofs (disch := (first | omega | (simp only [lenB, lowB_len, numB_len, nsumB_len] <;> omega) | fail)) only [admQ, lenB, lowB_len, numB_len, nsumB_len, aFill, AK.cls, implies_true, ↓reduceIte, reduceCtorEq, if_true, if_false, Nat.reduceAdd, Nat.reduceEqDiff, Nat.reduceMod, Nat.reduceLT, Nat.reduceLeDiff, Nat.reduceSub, Nat.reduceMul, Nat.reduceBEq, Int.reduceAdd, Int.reduceSub, Int.reduceMul, Int.reduceNeg, Int.reduceLT, Int.reduceLE, Int.reduceToNat, Int.reduceEq, Int.reduceBEq, Option.isSome_none, Bool.not_false, o6, own_set (own_lt o6), rowOf_own (own_set (own_lt o6) _)]
              exact hno _ _ (by omega) he (K6.write (.inr (Nat.le_refl _)) _)
            | some pl =>
              have he : getE (.box key) k a b = 0 := by rw [getE, if_neg h1, if_neg h2, if_neg (by rintro (h | h); omega; exact h hkb), if_neg (by simpa using hr), Int.toNat_natCast, hop]
              have hs : getS (.box key) k a b = ⟨k, nE b, nN b, a, pl⟩ := by rw [getS, if_pos he, Int.toNat_natCast, hop]; rfl
              rw [hop] at rw6 gw6
              simp -implicitDefEqProofs (disch := (first | omega | (simp only [lenB, lowB_len, numB_len, nsumB_len] <;> omega) | fail)) only [admQ, lenB, lowB_len, numB_len, nsumB_len, aFill, AK.cls, implies_true, ↓reduceIte, reduceCtorEq, if_true, if_false, Nat.reduceAdd, Nat.reduceEqDiff, Nat.reduceMod, Nat.reduceLT, Nat.reduceLeDiff, Nat.reduceSub, Nat.reduceMul, Nat.reduceBEq, Int.reduceAdd, Int.reduceSub, Int.reduceMul, Int.reduceNeg, Int.reduceLT, Int.reduceLE, Int.reduceToNat, Int.reduceEq, Int.reduceBEq, Option.isSome_some, Bool.not_true, (rd_one rw6).1, (rd_one rw6).2, o6, own_set (own_lt o6), rowOf_own (own_set (own_lt o6) _)]
              refine ⟨K6.write (.inr (Nat.le_refl _)) _, w, by rw [hs, he]; rfl, ?_⟩
              rw [hs]
              exact (gw6.low K5.len).kept (X := [m.length]) (.set1 _ _ _) fun q hq => by
                have := gr_apart gw6 (own_lt (k5.own o3 (by simp))) o6 (by simp) q hq
                simpa using this
          · simp -implicitDefEqProofs (disch := (first | omega | (simp only [lenB, lowB_len, numB_len, nsumB_len] <;> omega) | fail)) only [admQ, lenB, lowB_len, numB_len, nsumB_len, aFill, AK.cls, implies_true, ↓reduceIte, reduceCtorEq, if_true, if_false, Nat.reduceAdd, Nat.reduceEqDiff, Nat.reduceMod, Nat.reduceLT, Nat.reduceLeDiff, Nat.reduceSub, Nat.reduceMul, Nat.reduceBEq, Int.reduceAdd, Int.reduceSub, Int.reduceMul, Int.reduceNeg, Int.reduceLT, Int.reduceLE, Int.reduceToNat, Int.reduceEq, Int.reduceBEq, dec_f h7, Bool.not_false, o3, own_set (own_lt o3), rowOf_own (own_set (own_lt o3) _)]
            exact hno _ _ (by omega) (er7 fun h => h7 ⟨h.1.2.2, h.2.2⟩) (KB.write (.inr (Nat.le_refl _)) _)
        · simp -implicitDefEqProofs (disch := (first | omega | (simp only [lenB, lowB_len, numB_len, nsumB_len] <;> omega) | fail)) only [admQ, lenB, lowB_len, numB_len, nsumB_len, aFill, AK.cls, implies_true, ↓reduceIte, reduceCtorEq, if_true, if_false, Nat.reduceAdd, Nat.reduceEqDiff, Nat.reduceMod, Nat.reduceLT, Nat.reduceLeDiff, Nat.reduceSub, Nat.reduceMul, Nat.reduceBEq, Int.reduceAdd, Int.reduceSub, Int.reduceMul, Int.reduceNeg, Int.reduceLT, Int.reduceLE, Int.reduceToNat, Int.reduceEq, Int.reduceBEq, dec_f h6, Bool.not_false, o3, own_set (own_lt o3), rowOf_own (own_set (own_lt o3) _)]
          exact hno _ _ (by omega) (er7 fun h => h6 ⟨h.1.2.1, h.2.1.2⟩) (KB.write (.inr (Nat.le_refl _)) _)
      · simp -implicitDefEqProofs (disch := (first | omega | (simp only [lenB, lowB_len, numB_len, nsumB_len] <;> omega) | fail)) only [admQ, lenB, lowB_len, numB_len, nsumB_len, aFill, AK.cls, implies_true, ↓reduceIte, reduceCtorEq, if_true, if_false, Nat.reduceAdd, Nat.reduceEqDiff, Nat.reduceMod, Nat.reduceLT, Nat.reduceLeDiff, Nat.reduceSub, Nat.reduceMul, Nat.reduceBEq, Int.reduceAdd, Int.reduceSub, Int.reduceMul, Int.reduceNeg, Int.reduceLT, Int.reduceLE, Int.reduceToNat, Int.reduceEq, Int.reduceBEq, dec_f h5, Bool.not_false, o3, own_set (own_lt o3), rowOf_own (own_set (own_lt o3) _)]
        exact hno _ _ (by omega) (er7 fun h => h5 ⟨h.1.1, h.2.1.1⟩) (KB.write (.inr (Nat.le_refl _)) _)
    · have hkk : (((gb b 0).toNat : Int) == k) = false := beq_eq_false_iff_ne.mpr h4
      have he : getE (.box key) k a b = 5 := by
        rw [getE, if_neg h1, if_neg h2, if_pos (.inr (by unfold kindB; split <;> omega))]
      simp -implicitDefEqProofs (disch := (first | omega | (simp only [lenB, lowB_len, numB_len, nsumB_len] <;> omega) | fail)) only [admQ, lenB, lowB_len, numB_len, nsumB_len, aFill, AK.cls, implies_true, ↓reduceIte, reduceCtorEq, if_true, if_false, Nat.reduceAdd, Nat.reduceEqDiff, Nat.reduceMod, Nat.reduceLT, Nat.reduceLeDiff, Nat.reduceSub, Nat.reduceMul, Nat.reduceBEq, Int.reduceAdd, Int.reduceSub, Int.reduceMul, Int.reduceNeg, Int.reduceLT, Int.reduceLE, Int.reduceToNat, Int.reduceEq, Int.reduceBEq, dec_t h3, Bool.not_true, hrA, e0, w0, hkk, Bool.not_false, o0, own_set (own_lt o0), rowOf_own (own_set (own_lt o0) _)]
      exact hno _ _ (by omega) he (k0.write (.inr (Nat.le_refl _)) _)
  · have he : getE (.box key) k a b = 5 := by
      rw [getE, if_neg h1, if_neg h2]
      by_cases hk0 : k = 0
      · rw [if_pos (.inl hk0)]
      · rw [if_pos (.inr (by unfold kindB; split <;> omega))]
    simp -implicitDefEqProofs (disch := (first | omega | (simp only [lenB, lowB_len, numB_len, nsumB_len] <;> omega) | fail)) only [admQ, lenB, lowB_len, numB_len, nsumB_len, aFill, AK.cls, implies_true, ↓reduceIte, reduceCtorEq, if_true, if_false, Nat.reduceAdd, Nat.reduceEqDiff, Nat.reduceMod, Nat.reduceLT, Nat.reduceLeDiff, Nat.reduceSub, Nat.reduceMul, Nat.reduceBEq, Int.reduceAdd, Int.reduceSub, Int.reduceMul, Int.reduceNeg, Int.reduceLT, Int.reduceLE, Int.reduceToNat, Int.reduceEq, Int.reduceBEq, dec_f h3, Bool.not_false, o0, own_set (own_lt o0), rowOf_own (own_set (own_lt o0) _)]
    exact hno _ _ (by omega) he (k0.write (.inr (Nat.le_refl _)) _)
end Go.Proofs.YtmnlmjlmbceimaaGreatDoor
end
section
/- Sectors: as the document has them. -/
namespace Go.Proofs.YtmnlmjlmbceimaaGreatDoor
open Go Go.Adm
set_option linter.unusedSimpArgs false
set_option linter.unusedVariables false
set_option maxRecDepth 100000
theorem cyOp_len {c : CyS} {e n : Int} {head b pl : List B8} (h : cyOp c e n head b = some pl) : pl.length ≤ b.length := by
  cases c with
  | box key =>
    simp only [cyOp] at h
    split at h
    · simp only [Option.some.injEq] at h; rw [← h, turnB_len]; simp
    · cases h
  | nm S T =>
    simp only [cyOp] at h
    split at h
    · simp only [Option.some.injEq] at h; rw [← h]; simp
    · cases h
theorem getS_len (c : CyS) (k a : Int) (b : List B8) : (getS c k a b).p.length ≤ b.length := by
  unfold getS; split
  · cases h : cyOp c (nE b) (nN b) (headB k a.toNat) (b.drop 17) with
    | none => simp
    | some pl => have := cyOp_len h; simp at this ⊢; omega
  · simp [sec0]
theorem ans_spoilb {m0 : Nat} {m : Mem} {x : AV} {l : List B8} (h : SPb m0 m x l) (hl : l.length < 1152921504606846976) : Ans Tryz.prog 16 [x] m fun r m' => r = .tup [] ∧ Kept (blkOf x) m m' ∧ (l = [] → m' = m) := by
  rcases h with ⟨rfl, rfl⟩ | ⟨b, cap, s, rfl, ho, _, hc, hs⟩
  · refine ans_ret mixed ok16 ?_
    simp -implicitDefEqProofs (disch := (first | omega | (simp only [lenB, lowB_len, numB_len, nsumB_len] <;> omega) | fail)) only [admQ, lenB, lowB_len, numB_len, nsumB_len, aFill, AK.cls, implies_true, ↓reduceIte, reduceCtorEq, if_true, if_false, Nat.reduceAdd, Nat.reduceEqDiff, Nat.reduceMod, Nat.reduceLT, Nat.reduceLeDiff, Nat.reduceSub, Nat.reduceMul, Nat.reduceBEq, Int.reduceAdd, Int.reduceSub, Int.reduceMul, Int.reduceNeg, Int.reduceLT, Int.reduceLE, Int.reduceToNat, Int.reduceEq, Int.reduceBEq, c16, r16]
    refine LoopW.on (fun _ : Unit => [(0, .nils), (2, .int .i64 0)]) (fun _ => 0) (fun _ m' => m' = m) ?_ () _ _ rfl rfl
    rintro _ _ X rfl hX
    simp -implicitDefEqProofs (disch := (first | omega | (simp only [lenB, lowB_len, numB_len, nsumB_len] <;> omega) | fail)) only [admQ, lenB, lowB_len, numB_len, nsumB_len, aFill, AK.cls, implies_true, ↓reduceIte, reduceCtorEq, if_true, if_false, Nat.reduceAdd, Nat.reduceEqDiff, Nat.reduceMod, Nat.reduceLT, Nat.reduceLeDiff, Nat.reduceSub, Nat.reduceMul, Nat.reduceBEq, Int.reduceAdd, Int.reduceSub, Int.reduceMul, Int.reduceNeg, Int.reduceLT, Int.reduceLE, Int.reduceToNat, Int.reduceEq, Int.reduceBEq]
    exact Kept.refl _ _
  · refine (ans_spoilbytes ho hl).mono fun r m' ⟨h1, h2⟩ => ⟨h1, h2 ▸ .set1 _ _ _, fun h0 => ?_⟩
    subst h0
    rw [h2]
    exact set_same ho
/-- What was made behind what is spoilt stays. -/
theorem gr_spoilt {m0 m1 : Nat} {m m' : Mem} {x z : AV} {l lz : List B8} (hx : SPb m0 m x l) (hk : Kept (blkOf x) m m') (h0 : l = [] → m' = m) (hz : GrB m1 m z lz) (hl : ∀ q ∈ blkOf x, q < m1) : GrB m1 m' z lz := by
  by_cases hl0 : l = []
  · rw [h0 hl0]; exact hz
  · refine hz.kept hk fun q hq h => ?_
    rcases hx with ⟨rfl, rfl⟩ | ⟨b, cap, s, rfl, ho, _⟩
    · exact hl0 rfl
    · simp only [blkOf, List.mem_singleton] at h
      subst h
      exact gr_apart hz (hl q (by simp [blkOf])) ho (by intro h; exact hl0 (List.map_eq_nil_iff.mp h)) q hq rfl
theorem ans_SectorPuts {m : Mem} {x v y : AV} {key b : List B8} {s : Sec} {k a : Int} (hK : rowOf m 0 = some (wds kT)) (hR : rowOf m 1 = some (wds kT)) (hx : RdB m x key) (hv : RdB m v s.p) (hy : RdB m y b) :
    Ans Tryz.prog 3 [x, secV s v, .agg [.int .i64 k, .int .i64 a], y] m fun r m' => r = .bool true ∧ Kept [] m m' := by
  refine ans_ret mixed ok3 ?_
  unfold secV
  have known : ∀ M, Kept [] m M → Ans Tryz.prog 4 [] M fun r m' => r = .bool true ∧ Kept [] m m' := fun M hk =>
    (ans_scknown (hk.row hK (by simp))).mono fun r m' ⟨h1, h2⟩ => ⟨h1, hk.trans h2⟩
  have k0 := Kept.app [] m [Blk.row [.int .i64 s.k, .int .i64 s.e, .int .i64 s.n, .int .i64 s.a, v] false, Blk.row [.int .i64 k, .int .i64 a] false]
  by_cases h1 : (key.length : Int) > 4096
  · simp -implicitDefEqProofs (disch := (first | omega | (simp only [lenB, lowB_len, numB_len, nsumB_len] <;> omega) | fail)) only [admQ, lenB, lowB_len, numB_len, nsumB_len, aFill, AK.cls, implies_true, ↓reduceIte, reduceCtorEq, if_true, if_false, Nat.reduceAdd, Nat.reduceEqDiff, Nat.reduceMod, Nat.reduceLT, Nat.reduceLeDiff, Nat.reduceSub, Nat.reduceMul, Nat.reduceBEq, Int.reduceAdd, Int.reduceSub, Int.reduceMul, Int.reduceNeg, Int.reduceLT, Int.reduceLE, Int.reduceToNat, Int.reduceEq, Int.reduceBEq, q3, d3_1, d3_3, d3_4, r3, (rd_one hv).1, (rd_one hv).2, hx.len, dec_t h1]
    refine (known _ k0).mono ?_
    rintro _ m1 ⟨rfl, k1⟩
    simp -implicitDefEqProofs (disch := (first | omega | (simp only [lenB, lowB_len, numB_len, nsumB_len] <;> omega) | fail)) only [admQ, lenB, lowB_len, numB_len, nsumB_len, aFill, AK.cls, implies_true, ↓reduceIte, reduceCtorEq, if_true, if_false, Nat.reduceAdd, Nat.reduceEqDiff, Nat.reduceMod, Nat.reduceLT, Nat.reduceLeDiff, Nat.reduceSub, Nat.reduceMul, Nat.reduceBEq, Int.reduceAdd, Int.reduceSub, Int.reduceMul, Int.reduceNeg, Int.reduceLT, Int.reduceLE, Int.reduceToNat, Int.reduceEq, Int.reduceBEq]
    exact k1
  by_cases h2 : (s.p.length : Int) > 4096
  · simp -implicitDefEqProofs (disch := (first | omega | (simp only [lenB, lowB_len, numB_len, nsumB_len] <;> omega) | fail)) only [admQ, lenB, lowB_len, numB_len, nsumB_len, aFill, AK.cls, implies_true, ↓reduceIte, reduceCtorEq, if_true, if_false, Nat.reduceAdd, Nat.reduceEqDiff, Nat.reduceMod, Nat.reduceLT, Nat.reduceLeDiff, Nat.reduceSub, Nat.reduceMul, Nat.reduceBEq, Int.reduceAdd, Int.reduceSub, Int.reduceMul, Int.reduceNeg, Int.reduceLT, Int.reduceLE, Int.reduceToNat, Int.reduceEq, Int.reduceBEq, q3, d3_1, d3_3, d3_4, r3, (rd_one hv).1, (rd_one hv).2, hx.len, hv.len, dec_f h1, dec_t h2]
    refine (known _ k0).mono ?_
    rintro _ m1 ⟨rfl, k1⟩
    simp -implicitDefEqProofs (disch := (first | omega | (simp only [lenB, lowB_len, numB_len, nsumB_len] <;> omega) | fail)) only [admQ, lenB, lowB_len, numB_len, nsumB_len, aFill, AK.cls, implies_true, ↓reduceIte, reduceCtorEq, if_true, if_false, Nat.reduceAdd, Nat.reduceEqDiff, Nat.reduceMod, Nat.reduceLT, Nat.reduceLeDiff, Nat.reduceSub, Nat.reduceMul, Nat.reduceBEq, Int.reduceAdd, Int.reduceSub, Int.reduceMul, Int.reduceNeg, Int.reduceLT, Int.reduceLE, Int.reduceToNat, Int.reduceEq, Int.reduceBEq]
    exact k1
  by_cases h3 : (b.length : Int) > 4096
  · simp -implicitDefEqProofs (disch := (first | omega | (simp only [lenB, lowB_len, numB_len, nsumB_len] <;> omega) | fail)) only [admQ, lenB, lowB_len, numB_len, nsumB_len, aFill, AK.cls, implies_true, ↓reduceIte, reduceCtorEq, if_true, if_false, Nat.reduceAdd, Nat.reduceEqDiff, Nat.reduceMod, Nat.reduceLT, Nat.reduceLeDiff, Nat.reduceSub, Nat.reduceMul, Nat.reduceBEq, Int.reduceAdd, Int.reduceSub, Int.reduceMul, Int.reduceNeg, Int.reduceLT, Int.reduceLE, Int.reduceToNat, Int.reduceEq, Int.reduceBEq, q3, d3_1, d3_3, d3_4, r3, (rd_one hv).1, (rd_one hv).2, hx.len, hv.len, hy.len, dec_f h1, dec_f h2, dec_t h3]
    refine (known _ k0).mono ?_
    rintro _ m1 ⟨rfl, k1⟩
    simp -implicitDefEqProofs (disch := (first | omega | (simp only [lenB, lowB_len, numB_len, nsumB_len] <;> omega) | fail)) only [admQ, lenB, lowB_len, numB_len, nsumB_len, aFill, AK.cls, implies_true, ↓reduceIte, reduceCtorEq, if_true, if_false, Nat.reduceAdd, Nat.reduceEqDiff, Nat.reduceMod, Nat.reduceLT, Nat.reduceLeDiff, Nat.reduceSub, Nat.reduceMul, Nat.reduceBEq, Int.reduceAdd, Int.reduceSub, Int.reduceMul, Int.reduceNeg, Int.reduceLT, Int.reduceLE, Int.reduceToNat, Int.reduceEq, Int.reduceBEq]
    exact k1
  simp -implicitDefEqProofs (disch := (first | omega | (simp only [lenB, lowB_len, numB_len, nsumB_len] <;> omega) | fail)) only [admQ, lenB, lowB_len, numB_len, nsumB_len, aFill, AK.cls, implies_true, ↓reduceIte, reduceCtorEq, if_true, if_false, Nat.reduceAdd, Nat.reduceEqDiff, Nat.reduceMod, Nat.reduceLT, Nat.reduceLeDiff, Nat.reduceSub, Nat.reduceMul, Nat.reduceBEq, Int.reduceAdd, Int.reduceSub, Int.reduceMul, Int.reduceNeg, Int.reduceLT, Int.reduceLE, Int.reduceToNat, Int.reduceEq, Int.reduceBEq, q3, d3_1, d3_3, d3_4, r3, (rd_one hv).1, (rd_one hv).2, hx.len, hv.len, hy.len, dec_f h1, dec_f h2, dec_f h3]
  have o0 : own (m ++ [Blk.row [.int .i64 s.k, .int .i64 s.e, .int .i64 s.n, .int .i64 s.a, v] false, Blk.row [.int .i64 k, .int .i64 a] false]) m.length = some [.int .i64 s.k, .int .i64 s.e, .int .i64 s.n, .int .i64 s.a, v] := by rw [own_app_at0]; rfl
  have q0 : own (m ++ [Blk.row [.int .i64 s.k, .int .i64 s.e, .int .i64 s.n, .int .i64 s.a, v] false, Blk.row [.int .i64 k, .int .i64 a] false]) (m.length + 1) = some [.int .i64 k, .int .i64 a] := by rw [own_app_at]; rfl
  generalize m ++ [Blk.row [.int .i64 s.k, .int .i64 s.e, .int .i64 s.n, .int .i64 s.a, v] false, Blk.row [.int .i64 k, .int .i64 a] false] = A at k0 o0 q0
  have xA := hx.kept0 k0
  have vA := hv.kept0 k0
  have yA := hy.kept0 k0
  have lA := own_lt o0
  have lA2 := own_lt q0
  refine wp_recut [0, 3, 5, 6] rfl ?_
  simp -implicitDefEqProofs (disch := (first | omega | (simp only [lenB, lowB_len, numB_len, nsumB_len] <;> omega) | fail)) only [admQ, lenB, lowB_len, numB_len, nsumB_len, aFill, AK.cls, implies_true, ↓reduceIte, reduceCtorEq, if_true, if_false, Nat.reduceAdd, Nat.reduceEqDiff, Nat.reduceMod, Nat.reduceLT, Nat.reduceLeDiff, Nat.reduceSub, Nat.reduceMul, Nat.reduceBEq, Int.reduceAdd, Int.reduceSub, Int.reduceMul, Int.reduceNeg, Int.reduceLT, Int.reduceLE, Int.reduceToNat, Int.reduceEq, Int.reduceBEq, d3_2]
  refine (ans_senew (k0.row hK (by simp)) xA (by omega)).mono ?_
  rintro _ m1 ⟨z, c, kb, kk, rfl, k1, hlow, hs⟩
  have hC : Cy m1 z [] [z, c, kb, kk, 0] (.box key) := ⟨c, kb, kk, hs, rfl, rfl⟩
  have K1 := k0.trans k1
  simp -implicitDefEqProofs (disch := (first | omega | (simp only [lenB, lowB_len, numB_len, nsumB_len] <;> omega) | fail)) only [admQ, lenB, lowB_len, numB_len, nsumB_len, aFill, AK.cls, implies_true, ↓reduceIte, reduceCtorEq, if_true, if_false, Nat.reduceAdd, Nat.reduceEqDiff, Nat.reduceMod, Nat.reduceLT, Nat.reduceLeDiff, Nat.reduceSub, Nat.reduceMul, Nat.reduceBEq, Int.reduceAdd, Int.reduceSub, Int.reduceMul, Int.reduceNeg, Int.reduceLT, Int.reduceLE, Int.reduceToNat, Int.reduceEq, Int.reduceBEq]
  refine (ans_rboxed (K1.row hR (by simp)) (xA.kept0 k1) (by omega)).mono ?_
  rintro _ m2 ⟨k2, x2, rfl, hD⟩
  have K12 := k1.trans k2
  have o2 := K12.own o0 (by simp)
  have q2 := K12.own q0 (by simp)
  simp -implicitDefEqProofs (disch := (first | omega | (simp only [lenB, lowB_len, numB_len, nsumB_len] <;> omega) | fail)) only [admQ, lenB, lowB_len, numB_len, nsumB_len, aFill, AK.cls, implies_true, ↓reduceIte, reduceCtorEq, if_true, if_false, Nat.reduceAdd, Nat.reduceEqDiff, Nat.reduceMod, Nat.reduceLT, Nat.reduceLeDiff, Nat.reduceSub, Nat.reduceMul, Nat.reduceBEq, Int.reduceAdd, Int.reduceSub, Int.reduceMul, Int.reduceNeg, Int.reduceLT, Int.reduceLE, Int.reduceToNat, Int.reduceEq, Int.reduceBEq, rowOf_own o2]
  generalize hB : m2 ++ _ = B
  have k3 : Kept [] m2 B := by rw [← hB]; exact .app _ _ _
  have i3 : own B m2.length = some [.int .i64 s.k, .int .i64 s.e, .int .i64 s.n, .int .i64 s.a, v] := by rw [← hB, own_app_at0]; rfl
  clear hB
  have K13 := K12.trans k3
  have o3 := K13.own o0 (by simp)
  simp -implicitDefEqProofs (disch := (first | omega | (simp only [lenB, lowB_len, numB_len, nsumB_len] <;> omega) | fail)) only [admQ, lenB, lowB_len, numB_len, nsumB_len, aFill, AK.cls, implies_true, ↓reduceIte, reduceCtorEq, if_true, if_false, Nat.reduceAdd, Nat.reduceEqDiff, Nat.reduceMod, Nat.reduceLT, Nat.reduceLeDiff, Nat.reduceSub, Nat.reduceMul, Nat.reduceBEq, Int.reduceAdd, Int.reduceSub, Int.reduceMul, Int.reduceNeg, Int.reduceLT, Int.reduceLE, Int.reduceToNat, Int.reduceEq, Int.reduceBEq, rowOf_own o3]
  refine (ans_lentbytes (vA.kept0 K13) (by omega)).mono ?_
  rintro _ m4 ⟨p1, rfl, k4, hp1, e4⟩
  have i4 := k4.own i3 (by simp)
  have o4 := k4.own o3 (by simp)
  have hl3 := k3.len
  have hl4 := k4.len
  have hm2 := own_lt i3
  have hi1 := own_set (own_lt i4) [AV.int .i64 s.k, .int .i64 s.e, .int .i64 s.n, .int .i64 s.a, .sl p1 0 s.p.length (s.p.length + 5) 0]
  simp -implicitDefEqProofs (disch := (first | omega | (simp only [lenB, lowB_len, numB_len, nsumB_len] <;> omega) | fail)) only [admQ, lenB, lowB_len, numB_len, nsumB_len, aFill, AK.cls, implies_true, ↓reduceIte, reduceCtorEq, if_true, if_false, Nat.reduceAdd, Nat.reduceEqDiff, Nat.reduceMod, Nat.reduceLT, Nat.reduceLeDiff, Nat.reduceSub, Nat.reduceMul, Nat.reduceBEq, Int.reduceAdd, Int.reduceSub, Int.reduceMul, Int.reduceNeg, Int.reduceLT, Int.reduceLE, Int.reduceToNat, Int.reduceEq, Int.reduceBEq, rowOf_own o4, (vA.kept0 (K13.trans k4)).len, i4, rowOf_own i4]
  have hl12 := K12.len
  have hl2 := k2.len
  have KD := (K13.trans k4).write (q := m2.length) (.inr hl12) (.row [AV.int .i64 s.k, .int .i64 s.e, .int .i64 s.n, .int .i64 s.a, .sl p1 0 s.p.length (s.p.length + 5) 0] false)
  have KD1 := ((k2.trans k3).trans k4).write (q := m2.length) (.inr hl2) (.row [AV.int .i64 s.k, .int .i64 s.e, .int .i64 s.n, .int .i64 s.a, .sl p1 0 s.p.length (s.p.length + 5) 0] false)
  have KD2 := (k3.trans k4).write (q := m2.length) (.inr (Nat.le_refl _)) (.row [AV.int .i64 s.k, .int .i64 s.e, .int .i64 s.n, .int .i64 s.a, .sl p1 0 s.p.length (s.p.length + 5) 0] false)
  have eD := own_set_ne' e4 (show m2.length ≠ p1 by omega) (.row [AV.int .i64 s.k, .int .i64 s.e, .int .i64 s.n, .int .i64 s.a, .sl p1 0 s.p.length (s.p.length + 5) 0] false)
  generalize m4.set m2.length (.row [AV.int .i64 s.k, .int .i64 s.e, .int .i64 s.n, .int .i64 s.a, .sl p1 0 s.p.length (s.p.length + 5) 0] false) = D at *
  refine (ans_lentbytes (yA.kept0 KD) (by omega)).mono ?_
  rintro _ m5 ⟨p2, rfl, k5, hp2, e5⟩
  have KA5 := KD.trans k5
  have i5 := k5.own hi1 (by simp)
  have o5 := KA5.own o0 (by simp)
  have q5 := KA5.own q0 (by simp)
  have pl5 := k5.own eD (by simp)
  have hC5 := hC.kept0 (KD1.trans k5)
  have hD5 := hD.kept0 (KD2.trans k5)
  have hll := lent_len s.p
  have hlb := lent_len b
  have rv5 : RdB m5 (.sl p1 0 s.p.length (s.p.length + 5) 0) s.p := by
    have h := (RdB.row (m := m5) (l := lent s.p) (s.p.length + 5) 0 (rowOf_own pl5) (by omega))
    rw [hll] at h
    have := h.take (k := s.p.length) (by omega)
    rwa [lent_take] at this
  have hr5 := KA5.len
  simp -implicitDefEqProofs (disch := (first | omega | (simp only [lenB, lowB_len, numB_len, nsumB_len] <;> omega) | fail)) only [admQ, lenB, lowB_len, numB_len, nsumB_len, aFill, AK.cls, implies_true, ↓reduceIte, reduceCtorEq, if_true, if_false, Nat.reduceAdd, Nat.reduceEqDiff, Nat.reduceMod, Nat.reduceLT, Nat.reduceLeDiff, Nat.reduceSub, Nat.reduceMul, Nat.reduceBEq, Int.reduceAdd, Int.reduceSub, Int.reduceMul, Int.reduceNeg, Int.reduceLT, Int.reduceLE, Int.reduceToNat, Int.reduceEq, Int.reduceBEq, rowOf_own i5]
  refine (ans_scputS (s := s) hC5 rv5 (by simp) trivial (by omega)).mono ?_
  rintro _ m6 ⟨W', R', w, k6, hC6, -, rfl, sw, -⟩
  have hcc : putC (.box key) s = .box key := by unfold putC; split <;> rfl
  rw [hcc] at hC6
  have KA6 := KA5.trans k6
  have o6 := k6.own o5 (by simp)
  have q6 := k6.own q5 (by simp)
  simp -implicitDefEqProofs (disch := (first | omega | (simp only [lenB, lowB_len, numB_len, nsumB_len] <;> omega) | fail)) only [admQ, lenB, lowB_len, numB_len, nsumB_len, aFill, AK.cls, implies_true, ↓reduceIte, reduceCtorEq, if_true, if_false, Nat.reduceAdd, Nat.reduceEqDiff, Nat.reduceMod, Nat.reduceLT, Nat.reduceLeDiff, Nat.reduceSub, Nat.reduceMul, Nat.reduceBEq, Int.reduceAdd, Int.reduceSub, Int.reduceMul, Int.reduceNeg, Int.reduceLT, Int.reduceLE, Int.reduceToNat, Int.reduceEq, Int.reduceBEq, rowOf_own o6]
  refine (ans_r11put (s := s) (hD5.kept0 k6) (vA.kept0 KA6) (by omega)).mono ?_
  rintro _ m7 ⟨k7, w2, rfl, rw2⟩
  have o7 := k7.own o6 (by simp)
  have q7 := k7.own q6 (by simp)
  have KA7 := KA6.trans k7
  have k57 := k6.trans k7
  have ra7 : RdB m7 (.sl p2 0 b.length (b.length + 5) 0) b := by
    have h := (RdB.row (m := m7) (l := lent b) (b.length + 5) 0 (rowOf_own (k57.own e5 (by simp))) (by omega))
    rw [hlb] at h
    have := h.take (k := b.length) (by omega)
    rwa [lent_take] at this
  have yl7 := (yA.kept0 KA7).len
  simp -implicitDefEqProofs (disch := (first | omega | (simp only [lenB, lowB_len, numB_len, nsumB_len] <;> omega) | fail)) only [admQ, lenB, lowB_len, numB_len, nsumB_len, aFill, AK.cls, implies_true, ↓reduceIte, reduceCtorEq, if_true, if_false, Nat.reduceAdd, Nat.reduceEqDiff, Nat.reduceMod, Nat.reduceLT, Nat.reduceLeDiff, Nat.reduceSub, Nat.reduceMul, Nat.reduceBEq, Int.reduceAdd, Int.reduceSub, Int.reduceMul, Int.reduceNeg, Int.reduceLT, Int.reduceLE, Int.reduceToNat, Int.reduceEq, Int.reduceBEq, rowOf_own q7, yl7]
  have hpx : (putL (.box key) s).length ≤ 1024 := by
    by_cases h : okP s
    · rw [putL_len h]; have := h.2.2; omega
    · rw [putL, if_neg h]; simp
  refine (ans_scgetS (k := k) (a := a) (hC6.kept0 k7) ra7 trivial (by omega)).mono ?_
  rintro _ m8 ⟨k8, w3, rfl, sw3⟩
  have q8 := k8.own q7 (by simp)
  generalize hG1 : getS (.box key) k a b = G1 at sw3
  generalize hF1 : getE (.box key) k a b = F1
  unfold secV
  simp -implicitDefEqProofs (disch := (first | omega | (simp only [lenB, lowB_len, numB_len, nsumB_len] <;> omega) | fail)) only [admQ, lenB, lowB_len, numB_len, nsumB_len, aFill, AK.cls, implies_true, ↓reduceIte, reduceCtorEq, if_true, if_false, Nat.reduceAdd, Nat.reduceEqDiff, Nat.reduceMod, Nat.reduceLT, Nat.reduceLeDiff, Nat.reduceSub, Nat.reduceMul, Nat.reduceBEq, Int.reduceAdd, Int.reduceSub, Int.reduceMul, Int.reduceNeg, Int.reduceLT, Int.reduceLE, Int.reduceToNat, Int.reduceEq, Int.reduceBEq, rowOf_own q8, rowOf_own q7, (rd_one sw3.rd).1, (rd_one sw3.rd).2]
  generalize hE8 : m8 ++ _ = E8
  have k8' : Kept [] m8 E8 := by rw [← hE8]; exact .app _ _ _
  have c8 : own E8 m8.length = some [.int .i64 G1.k, .int .i64 G1.e, .int .i64 G1.n, .int .i64 G1.a, w3] := by rw [← hE8, own_app_at0]; rfl
  clear hE8
  have k78 := k8.trans k8'
  have qE8 := k8'.own q8 (by simp)
  have KA8 := KA7.trans k78
  have hDE8 := (hD5.kept0 (k57.trans k78))
  simp -implicitDefEqProofs (disch := (first | omega | (simp only [lenB, lowB_len, numB_len, nsumB_len] <;> omega) | fail)) only [admQ, lenB, lowB_len, numB_len, nsumB_len, aFill, AK.cls, implies_true, ↓reduceIte, reduceCtorEq, if_true, if_false, Nat.reduceAdd, Nat.reduceEqDiff, Nat.reduceMod, Nat.reduceLT, Nat.reduceLeDiff, Nat.reduceSub, Nat.reduceMul, Nat.reduceBEq, Int.reduceAdd, Int.reduceSub, Int.reduceMul, Int.reduceNeg, Int.reduceLT, Int.reduceLE, Int.reduceToNat, Int.reduceEq, Int.reduceBEq, rowOf_own qE8]
  refine (ans_r11get (k := k) (a := a) hDE8 (yA.kept0 KA8) (by omega)).mono ?_
  rintro _ m9 ⟨k9, w4, rfl, gw4⟩
  have rw4 := gw4.rd
  rw [hG1, hF1]
  rw [hG1] at rw4
  unfold secV
  simp -implicitDefEqProofs (disch := (first | omega | (simp only [lenB, lowB_len, numB_len, nsumB_len] <;> omega) | fail)) only [admQ, lenB, lowB_len, numB_len, nsumB_len, aFill, AK.cls, implies_true, ↓reduceIte, reduceCtorEq, if_true, if_false, Nat.reduceAdd, Nat.reduceEqDiff, Nat.reduceMod, Nat.reduceLT, Nat.reduceLeDiff, Nat.reduceSub, Nat.reduceMul, Nat.reduceBEq, Int.reduceAdd, Int.reduceSub, Int.reduceMul, Int.reduceNeg, Int.reduceLT, Int.reduceLE, Int.reduceToNat, Int.reduceEq, Int.reduceBEq, (rd_one rw4).1, (rd_one rw4).2]
  generalize hE9 : m9 ++ _ = E9
  have k9' : Kept [] m9 E9 := by rw [← hE9]; exact .app _ _ _
  have c9 : own E9 m9.length = some [.int .i64 G1.k, .int .i64 G1.e, .int .i64 G1.n, .int .i64 G1.a, w4] := by rw [← hE9, own_app_at0]; rfl
  clear hE9
  have k89 := k9.trans k9'
  have KA9 := KA8.trans k89
  have oE9 := KA9.own o0 (by simp)
  have k59 := (k57.trans k78).trans k89
  have k69 := (k7.trans k78).trans k89
  simp -implicitDefEqProofs (disch := (first | omega | (simp only [lenB, lowB_len, numB_len, nsumB_len] <;> omega) | fail)) only [admQ, lenB, lowB_len, numB_len, nsumB_len, aFill, AK.cls, implies_true, ↓reduceIte, reduceCtorEq, if_true, if_false, Nat.reduceAdd, Nat.reduceEqDiff, Nat.reduceMod, Nat.reduceLT, Nat.reduceLeDiff, Nat.reduceSub, Nat.reduceMul, Nat.reduceBEq, Int.reduceAdd, Int.reduceSub, Int.reduceMul, Int.reduceNeg, Int.reduceLT, Int.reduceLE, Int.reduceToNat, Int.reduceEq, Int.reduceBEq, rowOf_own oE9]
  refine (ans_scgetS (k := s.k) (a := s.a) (hC6.kept0 k69) (sw.kept0 k69).rd trivial (by omega)).mono ?_
  rintro _ m10 ⟨k10, w5, rfl, sw5⟩
  generalize hG2 : getS (.box key) s.k s.a (putL (.box key) s) = G2 at sw5
  generalize hF2 : getE (.box key) s.k s.a (putL (.box key) s) = F2
  unfold secV
  simp -implicitDefEqProofs (disch := (first | omega | (simp only [lenB, lowB_len, numB_len, nsumB_len] <;> omega) | fail)) only [admQ, lenB, lowB_len, numB_len, nsumB_len, aFill, AK.cls, implies_true, ↓reduceIte, reduceCtorEq, if_true, if_false, Nat.reduceAdd, Nat.reduceEqDiff, Nat.reduceMod, Nat.reduceLT, Nat.reduceLeDiff, Nat.reduceSub, Nat.reduceMul, Nat.reduceBEq, Int.reduceAdd, Int.reduceSub, Int.reduceMul, Int.reduceNeg, Int.reduceLT, Int.reduceLE, Int.reduceToNat, Int.reduceEq, Int.reduceBEq, (rd_one sw5.rd).1, (rd_one sw5.rd).2]
  generalize hE10 : m10 ++ _ = E10
  have k10' : Kept [] m10 E10 := by rw [← hE10]; exact .app _ _ _
  have c10 : own E10 m10.length = some [.int .i64 G2.k, .int .i64 G2.e, .int .i64 G2.n, .int .i64 G2.a, w5] := by rw [← hE10, own_app_at0]; rfl
  clear hE10
  have k910 := k10.trans k10'
  have KA10 := KA9.trans k910
  have oE10 := KA10.own o0 (by simp)
  have k710 := (k78.trans k89).trans k910
  simp -implicitDefEqProofs (disch := (first | omega | (simp only [lenB, lowB_len, numB_len, nsumB_len] <;> omega) | fail)) only [admQ, lenB, lowB_len, numB_len, nsumB_len, aFill, AK.cls, implies_true, ↓reduceIte, reduceCtorEq, if_true, if_false, Nat.reduceAdd, Nat.reduceEqDiff, Nat.reduceMod, Nat.reduceLT, Nat.reduceLeDiff, Nat.reduceSub, Nat.reduceMul, Nat.reduceBEq, Int.reduceAdd, Int.reduceSub, Int.reduceMul, Int.reduceNeg, Int.reduceLT, Int.reduceLE, Int.reduceToNat, Int.reduceEq, Int.reduceBEq, rowOf_own oE10]
  refine (ans_r11get (k := s.k) (a := s.a) (hD5.kept0 (k59.trans k910)) (rw2.kept0 k710) (by omega)).mono ?_
  rintro _ m11 ⟨k11, w6, rfl, gw6⟩
  rw [hG2, hF2]
  rw [hG2] at gw6
  have rw6 := gw6.rd
  unfold secV
  simp -implicitDefEqProofs (disch := (first | omega | (simp only [lenB, lowB_len, numB_len, nsumB_len] <;> omega) | fail)) only [admQ, lenB, lowB_len, numB_len, nsumB_len, aFill, AK.cls, implies_true, ↓reduceIte, reduceCtorEq, if_true, if_false, Nat.reduceAdd, Nat.reduceEqDiff, Nat.reduceMod, Nat.reduceLT, Nat.reduceLeDiff, Nat.reduceSub, Nat.reduceMul, Nat.reduceBEq, Int.reduceAdd, Int.reduceSub, Int.reduceMul, Int.reduceNeg, Int.reduceLT, Int.reduceLE, Int.reduceToNat, Int.reduceEq, Int.reduceBEq, (rd_one rw6).1, (rd_one rw6).2]
  generalize hE11 : m11 ++ _ = E11
  have k11' : Kept [] m11 E11 := by rw [← hE11]; exact .app _ _ _
  have c11 : own E11 m11.length = some [.int .i64 G2.k, .int .i64 G2.e, .int .i64 G2.n, .int .i64 G2.a, w6] := by rw [← hE11, own_app_at0]; rfl
  clear hE11
  have k1011 := k11.trans k11'
  have KA11 := KA10.trans k1011
  have d8 := ((k89.trans k910).trans k1011).own c8 (by simp)
  have d9 := (k910.trans k1011).own c9 (by simp)
  have d10 := k1011.own c10 (by simp)
  have k611 := (k69.trans k910).trans k1011
  have k711 := k710.trans k1011
  have k811 := (((k8'.trans k9).trans k9').trans k910).trans k1011
  have s14 := sw.kept0 k611
  have s3 := sw3.kept0 k811
  have s5 := sw5.kept0 (k10'.trans k1011)
  have g6 := gw6.kept0 k11'
  have y11 := yA.kept0 KA11
  have hg1 : G1.p.length ≤ 100000 := by rw [← hG1]; have := getS_len (.box key) k a b; omega
  have hg2 : G2.p.length ≤ 100000 := by rw [← hG2]; have := getS_len (.box key) s.k s.a (putL (.box key) s); omega
  simp -implicitDefEqProofs (disch := (first | omega | (simp only [lenB, lowB_len, numB_len, nsumB_len] <;> omega) | fail)) only [admQ, lenB, lowB_len, numB_len, nsumB_len, aFill, AK.cls, implies_true, ↓reduceIte, reduceCtorEq, if_true, if_false, Nat.reduceAdd, Nat.reduceEqDiff, Nat.reduceMod, Nat.reduceLT, Nat.reduceLeDiff, Nat.reduceSub, Nat.reduceMul, Nat.reduceBEq, Int.reduceAdd, Int.reduceSub, Int.reduceMul, Int.reduceNeg, Int.reduceLT, Int.reduceLE, Int.reduceToNat, Int.reduceEq, Int.reduceBEq, d3_3, beq_self_eq_true, Bool.not_true]
  refine (ans_samebytes s14.rd (rw2.kept0 k711) (by omega)).mono ?_
  rintro _ N1 ⟨rfl, hM⟩
  subst hM
  simp -implicitDefEqProofs (disch := (first | omega | (simp only [lenB, lowB_len, numB_len, nsumB_len] <;> omega) | fail)) only [admQ, lenB, lowB_len, numB_len, nsumB_len, aFill, AK.cls, implies_true, ↓reduceIte, reduceCtorEq, if_true, if_false, Nat.reduceAdd, Nat.reduceEqDiff, Nat.reduceMod, Nat.reduceLT, Nat.reduceLeDiff, Nat.reduceSub, Nat.reduceMul, Nat.reduceBEq, Int.reduceAdd, Int.reduceSub, Int.reduceMul, Int.reduceNeg, Int.reduceLT, Int.reduceLE, Int.reduceToNat, Int.reduceEq, Int.reduceBEq, rowOf_own d8, rowOf_own d9, beq_self_eq_true, Bool.not_true]
  refine (ans_samesector (s := G1) (t := G1) s3.rd (rw4.kept0 ((k9'.trans k910).trans k1011)) (by omega)).mono ?_
  rintro _ N2 ⟨rfl, kN2⟩
  simp -implicitDefEqProofs (disch := (first | omega | (simp only [lenB, lowB_len, numB_len, nsumB_len] <;> omega) | fail)) only [admQ, lenB, lowB_len, numB_len, nsumB_len, aFill, AK.cls, implies_true, ↓reduceIte, reduceCtorEq, if_true, if_false, Nat.reduceAdd, Nat.reduceEqDiff, Nat.reduceMod, Nat.reduceLT, Nat.reduceLeDiff, Nat.reduceSub, Nat.reduceMul, Nat.reduceBEq, Int.reduceAdd, Int.reduceSub, Int.reduceMul, Int.reduceNeg, Int.reduceLT, Int.reduceLE, Int.reduceToNat, Int.reduceEq, Int.reduceBEq, rowOf_own (kN2.own d10 (by simp)), rowOf_own (kN2.own c11 (by simp)), decide_true, Bool.not_true]
  refine (ans_samesector (s := G2) (t := G2) (s5.rd.kept0 kN2) (g6.rd.kept0 kN2) (by omega)).mono ?_
  rintro _ N3 ⟨rfl, kN3⟩
  have kN := kN2.trans kN3
  simp -implicitDefEqProofs (disch := (first | omega | (simp only [lenB, lowB_len, numB_len, nsumB_len] <;> omega) | fail)) only [admQ, lenB, lowB_len, numB_len, nsumB_len, aFill, AK.cls, implies_true, ↓reduceIte, reduceCtorEq, if_true, if_false, Nat.reduceAdd, Nat.reduceEqDiff, Nat.reduceMod, Nat.reduceLT, Nat.reduceLeDiff, Nat.reduceSub, Nat.reduceMul, Nat.reduceBEq, Int.reduceAdd, Int.reduceSub, Int.reduceMul, Int.reduceNeg, Int.reduceLT, Int.reduceLE, Int.reduceToNat, Int.reduceEq, Int.reduceBEq, decide_true, Bool.not_true]
  refine (ans_sckind (y11.kept0 kN)).mono ?_
  rintro _ N4 ⟨rfl, hM⟩
  subst hM
  simp -implicitDefEqProofs (disch := (first | omega | (simp only [lenB, lowB_len, numB_len, nsumB_len] <;> omega) | fail)) only [admQ, lenB, lowB_len, numB_len, nsumB_len, aFill, AK.cls, implies_true, ↓reduceIte, reduceCtorEq, if_true, if_false, Nat.reduceAdd, Nat.reduceEqDiff, Nat.reduceMod, Nat.reduceLT, Nat.reduceLeDiff, Nat.reduceSub, Nat.reduceMul, Nat.reduceBEq, Int.reduceAdd, Int.reduceSub, Int.reduceMul, Int.reduceNeg, Int.reduceLT, Int.reduceLE, Int.reduceToNat, Int.reduceEq, Int.reduceBEq]
  refine (ans_r11kindof (y11.kept0 kN)).mono ?_
  rintro _ N5 ⟨rfl, hM⟩
  subst hM
  simp -implicitDefEqProofs (disch := (first | omega | (simp only [lenB, lowB_len, numB_len, nsumB_len] <;> omega) | fail)) only [admQ, lenB, lowB_len, numB_len, nsumB_len, aFill, AK.cls, implies_true, ↓reduceIte, reduceCtorEq, if_true, if_false, Nat.reduceAdd, Nat.reduceEqDiff, Nat.reduceMod, Nat.reduceLT, Nat.reduceLeDiff, Nat.reduceSub, Nat.reduceMul, Nat.reduceBEq, Int.reduceAdd, Int.reduceSub, Int.reduceMul, Int.reduceNeg, Int.reduceLT, Int.reduceLE, Int.reduceToNat, Int.reduceEq, Int.reduceBEq, beq_self_eq_true, Bool.not_true]
  have f8 := kN.own d8 (by simp)
  have f10 := kN.own d10 (by simp)
  have f11 := kN.own c11 (by simp)
  have t14 := s14.kept0 kN
  have t3 := s3.kept0 kN
  have t5 := s5.kept0 kN
  have t6 := g6.kept0 kN
  have KAN := KA11.trans kN
  have fo := KAN.own o0 (by simp)
  have l6 := k6.len
  have l7 := k7.len
  have l8 := k8.len
  have l8' := k8'.len
  have l9 := k9.len
  have l9' := k9'.len
  have l10 := k10.len
  have l10' := k10'.len
  have l11 := k11.len
  have b14 : ∀ q ∈ blkOf w, m5.length ≤ q ∧ q < m6.length := fun q hq => ⟨sw.low q hq, sw.rd.blk_lt q hq⟩
  have b3 : ∀ q ∈ blkOf w3, m7.length ≤ q ∧ q < m8.length := fun q hq => ⟨sw3.low q hq, sw3.rd.blk_lt q hq⟩
  have b5 : ∀ q ∈ blkOf w5, E9.length ≤ q := sw5.low
  simp -implicitDefEqProofs (disch := (first | omega | (simp only [lenB, lowB_len, numB_len, nsumB_len] <;> omega) | fail)) only [admQ, lenB, lowB_len, numB_len, nsumB_len, aFill, AK.cls, implies_true, ↓reduceIte, reduceCtorEq, if_true, if_false, Nat.reduceAdd, Nat.reduceEqDiff, Nat.reduceMod, Nat.reduceLT, Nat.reduceLeDiff, Nat.reduceSub, Nat.reduceMul, Nat.reduceBEq, Int.reduceAdd, Int.reduceSub, Int.reduceMul, Int.reduceNeg, Int.reduceLT, Int.reduceLE, Int.reduceToNat, Int.reduceEq, Int.reduceBEq, d3_4]
  refine (ans_spoilb t14 (by omega)).mono ?_
  rintro _ N6 ⟨rfl, k6s, z6⟩
  have h8 := k6s.own f8 (fun h => by have := b14 _ h; omega)
  have h10 := k6s.own f10 (fun h => by have := b14 _ h; omega)
  have h11 := k6s.own f11 (fun h => by have := b14 _ h; omega)
  have ho := k6s.own fo (fun h => by have := b14 _ h; omega)
  have u3 := t3.kept k6s (fun q h1 h2 => by have := b14 q h2; have := b3 q h1; omega)
  have u5 := t5.kept k6s (fun q h1 h2 => by have := b14 q h2; have := b5 q h1; omega)
  have u6 := gr_spoilt t14 k6s z6 t6 (fun q h => by have := b14 q h; omega)
  have KA6s := KAN.upon k6s (fun q h => by have := b14 q h; omega)
  simp -implicitDefEqProofs (disch := (first | omega | (simp only [lenB, lowB_len, numB_len, nsumB_len] <;> omega) | fail)) only [admQ, lenB, lowB_len, numB_len, nsumB_len, aFill, AK.cls, implies_true, ↓reduceIte, reduceCtorEq, if_true, if_false, Nat.reduceAdd, Nat.reduceEqDiff, Nat.reduceMod, Nat.reduceLT, Nat.reduceLeDiff, Nat.reduceSub, Nat.reduceMul, Nat.reduceBEq, Int.reduceAdd, Int.reduceSub, Int.reduceMul, Int.reduceNeg, Int.reduceLT, Int.reduceLE, Int.reduceToNat, Int.reduceEq, Int.reduceBEq, rowOf_own h8]
  refine (ans_spoilb u3 (by omega)).mono ?_
  rintro _ N7 ⟨rfl, k7s, z7⟩
  have j10 := k7s.own h10 (fun h => by have := b3 _ h; omega)
  have j11 := k7s.own h11 (fun h => by have := b3 _ h; omega)
  have jo := k7s.own ho (fun h => by have := b3 _ h; omega)
  have v5 := u5.kept k7s (fun q h1 h2 => by have := b3 q h2; have := b5 q h1; omega)
  have v6 := gr_spoilt u3 k7s z7 u6 (fun q h => by have := b3 q h; omega)
  have KA7s := KA6s.upon k7s (fun q h => by have := b3 q h; omega)
  simp -implicitDefEqProofs (disch := (first | omega | (simp only [lenB, lowB_len, numB_len, nsumB_len] <;> omega) | fail)) only [admQ, lenB, lowB_len, numB_len, nsumB_len, aFill, AK.cls, implies_true, ↓reduceIte, reduceCtorEq, if_true, if_false, Nat.reduceAdd, Nat.reduceEqDiff, Nat.reduceMod, Nat.reduceLT, Nat.reduceLeDiff, Nat.reduceSub, Nat.reduceMul, Nat.reduceBEq, Int.reduceAdd, Int.reduceSub, Int.reduceMul, Int.reduceNeg, Int.reduceLT, Int.reduceLE, Int.reduceToNat, Int.reduceEq, Int.reduceBEq, rowOf_own j10, rowOf_own j11]
  have lp1 := own_lt pl5
  have lp2 := own_lt e5
  have np14 : ∀ q, q < m5.length → q ∉ blkOf w := fun q h1 h2 => by have := b14 q h2; omega
  have np3 : ∀ q, q < m5.length → q ∉ blkOf w3 := fun q h1 h2 => by have := b3 q h2; omega
  have P1 := k7s.own (k6s.own (kN.own (k611.own (k6.own pl5 (by simp)) (by simp)) (by simp)) (np14 _ lp1)) (np3 _ lp1)
  have P2 := k7s.own (k6s.own (kN.own (k611.own (k6.own e5 (by simp)) (by simp)) (by simp)) (np14 _ lp2)) (np3 _ lp2)
  have r1 := RdB.row (m := N7) (l := lent s.p) (s.p.length + 5) 0 (rowOf_own P1) (by omega)
  have r2 := RdB.row (m := N7) (l := lent b) (b.length + 5) 0 (rowOf_own P2) (by omega)
  rw [hll] at r1
  rw [hlb] at r2
  refine (ans_samesector (s := G2) (t := G2) v5.rd v6.rd (by omega)).mono ?_
  rintro _ N8 ⟨rfl, k8s⟩
  have KA8s := KA7s.trans k8s
  simp -implicitDefEqProofs (disch := (first | omega | (simp only [lenB, lowB_len, numB_len, nsumB_len] <;> omega) | fail)) only [admQ, lenB, lowB_len, numB_len, nsumB_len, aFill, AK.cls, implies_true, ↓reduceIte, reduceCtorEq, if_true, if_false, Nat.reduceAdd, Nat.reduceEqDiff, Nat.reduceMod, Nat.reduceLT, Nat.reduceLeDiff, Nat.reduceSub, Nat.reduceMul, Nat.reduceBEq, Int.reduceAdd, Int.reduceSub, Int.reduceMul, Int.reduceNeg, Int.reduceLT, Int.reduceLE, Int.reduceToNat, Int.reduceEq, Int.reduceBEq, decide_true, rowOf_own (k8s.own jo (by simp))]
  refine (ans_keptbytes (r1.kept0 k8s) (vA.kept0 KA8s) (by omega)).mono ?_
  rintro _ N9 ⟨rfl, hM⟩
  subst hM
  simp -implicitDefEqProofs (disch := (first | omega | (simp only [lenB, lowB_len, numB_len, nsumB_len] <;> omega) | fail)) only [admQ, lenB, lowB_len, numB_len, nsumB_len, aFill, AK.cls, implies_true, ↓reduceIte, reduceCtorEq, if_true, if_false, Nat.reduceAdd, Nat.reduceEqDiff, Nat.reduceMod, Nat.reduceLT, Nat.reduceLeDiff, Nat.reduceSub, Nat.reduceMul, Nat.reduceBEq, Int.reduceAdd, Int.reduceSub, Int.reduceMul, Int.reduceNeg, Int.reduceLT, Int.reduceLE, Int.reduceToNat, Int.reduceEq, Int.reduceBEq, beq_self_eq_true]
  refine (ans_keptbytes (r2.kept0 k8s) (yA.kept0 KA8s) (by omega)).mono ?_
  rintro _ N10 ⟨rfl, hM⟩
  subst hM
  simp -implicitDefEqProofs (disch := (first | omega | (simp only [lenB, lowB_len, numB_len, nsumB_len] <;> omega) | fail)) only [admQ, lenB, lowB_len, numB_len, nsumB_len, aFill, AK.cls, implies_true, ↓reduceIte, reduceCtorEq, if_true, if_false, Nat.reduceAdd, Nat.reduceEqDiff, Nat.reduceMod, Nat.reduceLT, Nat.reduceLeDiff, Nat.reduceSub, Nat.reduceMul, Nat.reduceBEq, Int.reduceAdd, Int.reduceSub, Int.reduceMul, Int.reduceNeg, Int.reduceLT, Int.reduceLE, Int.reduceToNat, Int.reduceEq, Int.reduceBEq, beq_self_eq_true]
  refine (known _ (k0.trans KA8s)).mono ?_
  rintro _ N11 ⟨rfl, kZ⟩
  simp -implicitDefEqProofs (disch := (first | omega | (simp only [lenB, lowB_len, numB_len, nsumB_len] <;> omega) | fail)) only [admQ, lenB, lowB_len, numB_len, nsumB_len, aFill, AK.cls, implies_true, ↓reduceIte, reduceCtorEq, if_true, if_false, Nat.reduceAdd, Nat.reduceEqDiff, Nat.reduceMod, Nat.reduceLT, Nat.reduceLeDiff, Nat.reduceSub, Nat.reduceMul, Nat.reduceBEq, Int.reduceAdd, Int.reduceSub, Int.reduceMul, Int.reduceNeg, Int.reduceLT, Int.reduceLE, Int.reduceToNat, Int.reduceEq, Int.reduceBEq]
  exact kZ
end Go.Proofs.YtmnlmjlmbceimaaGreatDoor
end
