/- What the statements of all layers share: lists of bytes. -/
import Derived.Test.YthdkclkiegkabaaCode
import Derived.Test.YthdkclkiegkabaaAdmd
namespace Go.Proofs.Ythdkclkiegkabaa
open Go Go.Adm
set_option linter.unusedSimpArgs false
set_option maxRecDepth 100000

def lent (l : List B8) : List B8 := tab (l.length + 5) fun j => if j < l.length then gb l j else 165#8
theorem lent_len (l : List B8) : (lent l).length = l.length + 5 := tab_len _ _
theorem gb_eq_of {a b : List B8} (hl : a.length = b.length) : (∀ i, i < a.length → gb a i = gb b i) → a = b := gb_ext hl
theorem ans_samebytes {m : Mem} {x y : AV} {a b : List B8} (hx : RdB m x a) (hy : RdB m y b) (hl : a.length < 1152921504606846976) : Ans Try.prog 14 [x, y] m fun r m' => r = .bool (a == b) ∧ m' = m := by
  refine ans_ret mixed ok14 ?_
  by_cases h : a.length = b.length
  · have h' : ((a.length : Int) == (b.length : Int)) = true := by rw [h]; simp
    simp -implicitDefEqProofs (disch := (first | omega | (simp only [lenB, lent_len] <;> omega) | fail)) only [admQ, lenB, lent_len, aFill, ↓reduceIte, reduceCtorEq, if_true, if_false, Nat.reduceAdd, Nat.reduceEqDiff, Nat.reduceMod, Nat.reduceLT, Nat.reduceLeDiff, Nat.reduceSub, Nat.reduceMul, Nat.reduceBEq, Int.reduceAdd, Int.reduceSub, Int.reduceMul, Int.reduceNeg, Int.reduceLT, Int.reduceLE, Int.reduceToNat, Int.reduceEq, Int.reduceBEq, c14, r14, hx.len, hy.len, h']
    refine LoopW.on (fun i : Nat => [(0, x), (1, y), (5, .int .i64 i)]) (fun i => a.length - i) (fun i m' => m' = m ∧ i ≤ a.length ∧ ∀ j, j < i → gb a j = gb b j) ?_ 0 _ _ rfl ⟨rfl, by omega, fun j hj => by omega⟩
    rintro i _ X ⟨rfl, hi, hj⟩ hX
    by_cases hlt : i < a.length
    · obtain ⟨b1, o1, cap1, s1, c1, rfl, hr1, hg1, hl1, hc1, hs1, ht1⟩ := hx.cons hlt
      obtain ⟨b2, o2, cap2, s2, c2, rfl, hr2, hg2, hl2, hc2, hs2, ht2⟩ := hy.cons (by omega : i < b.length)
      have e1 := hg1 i hlt
      have e2 := hg2 i (by omega)
      cases he : gb a i == gb b i
      · have hne : (a == b) = false := by
          rw [beq_eq_false_iff_ne]; rintro rfl; simp at he
        simp -implicitDefEqProofs (disch := (first | omega | (simp only [lenB, lent_len] <;> omega) | fail)) only [admQ, lenB, lent_len, aFill, ↓reduceIte, reduceCtorEq, if_true, if_false, Nat.reduceAdd, Nat.reduceEqDiff, Nat.reduceMod, Nat.reduceLT, Nat.reduceLeDiff, Nat.reduceSub, Nat.reduceMul, Nat.reduceBEq, Int.reduceAdd, Int.reduceSub, Int.reduceMul, Int.reduceNeg, Int.reduceLT, Int.reduceLE, Int.reduceToNat, Int.reduceEq, Int.reduceBEq, hr1, hr2, e1, e2, he, hne]
      · simp -implicitDefEqProofs (disch := (first | omega | (simp only [lenB, lent_len] <;> omega) | fail)) only [admQ, lenB, lent_len, aFill, ↓reduceIte, reduceCtorEq, if_true, if_false, Nat.reduceAdd, Nat.reduceEqDiff, Nat.reduceMod, Nat.reduceLT, Nat.reduceLeDiff, Nat.reduceSub, Nat.reduceMul, Nat.reduceBEq, Int.reduceAdd, Int.reduceSub, Int.reduceMul, Int.reduceNeg, Int.reduceLT, Int.reduceLE, Int.reduceToNat, Int.reduceEq, Int.reduceBEq, hr1, hr2, e1, e2, he]
        refine hX (i + 1) _ _ rfl (by omega) ⟨rfl, by omega, fun j hj2 => ?_⟩
        by_cases hji : j = i
        · subst hji; simpa using he
        · exact hj j (by omega)
    · have he : (a == b) = true := by rw [beq_iff_eq]; exact gb_ext h fun j hj2 => hj j (by omega)
      simp -implicitDefEqProofs (disch := (first | omega | (simp only [lenB, lent_len] <;> omega) | fail)) only [admQ, lenB, lent_len, aFill, ↓reduceIte, reduceCtorEq, if_true, if_false, Nat.reduceAdd, Nat.reduceEqDiff, Nat.reduceMod, Nat.reduceLT, Nat.reduceLeDiff, Nat.reduceSub, Nat.reduceMul, Nat.reduceBEq, Int.reduceAdd, Int.reduceSub, Int.reduceMul, Int.reduceNeg, Int.reduceLT, Int.reduceLE, Int.reduceToNat, Int.reduceEq, Int.reduceBEq, hx.len, he]
  · have h' : ((a.length : Int) == (b.length : Int)) = false := by rw [beq_eq_false_iff_ne]; omega
    have he : (a == b) = false := by rw [beq_eq_false_iff_ne]; rintro rfl; exact h rfl
    simp -implicitDefEqProofs (disch := (first | omega | (simp only [lenB, lent_len] <;> omega) | fail)) only [admQ, lenB, lent_len, aFill, ↓reduceIte, reduceCtorEq, if_true, if_false, Nat.reduceAdd, Nat.reduceEqDiff, Nat.reduceMod, Nat.reduceLT, Nat.reduceLeDiff, Nat.reduceSub, Nat.reduceMul, Nat.reduceBEq, Int.reduceAdd, Int.reduceSub, Int.reduceMul, Int.reduceNeg, Int.reduceLT, Int.reduceLE, Int.reduceToNat, Int.reduceEq, Int.reduceBEq, c14, r14, hx.len, hy.len, h', he]

theorem lent_take (l : List B8) : (lent l).take l.length = l := by
  apply gb_ext
  · simp [lent_len]
  · intro i hi
    simp only [List.length_take, lent_len] at hi
    simp only [gb, List.getD_eq_getElem?_getD, List.getElem?_take_of_lt (show i < l.length by omega), lent, tab_get _ (show i < l.length + 5 by omega), if_pos (show i < l.length by omega), Option.getD_some]
theorem ans_lentbytes {m : Mem} {x : AV} {l : List B8} (hx : RdB m x l) (hl : l.length < 1099511627000) : Ans Try.prog 11 [x] m fun r m' => ∃ p, r = .sl p 0 (l.length + 5) (l.length + 5) 0 ∧ Kept [] m m' ∧ m.length ≤ p ∧ own m' p = some (bys (lent l)) := by
  refine ans_ret mixed ok11 ?_
  have hmk : (0 : Int) ≤ ((l.length + 5 : Nat) : Int) ∧ ((l.length + 5 : Nat) : Int) ≤ ((l.length + 5 : Nat) : Int) ∧ ((l.length + 5 : Nat) : Int) * 1 ≤ 1099511627776 ∧ ((l.length + 5 : Nat) : Int) ≤ 1099511627776 := by omega
  simp -implicitDefEqProofs (disch := (first | omega | (simp only [lenB, lent_len] <;> omega) | fail)) only [admQ, lenB, lent_len, aFill, ↓reduceIte, reduceCtorEq, if_true, if_false, Nat.reduceAdd, Nat.reduceEqDiff, Nat.reduceMod, Nat.reduceLT, Nat.reduceLeDiff, Nat.reduceSub, Nat.reduceMul, Nat.reduceBEq, Int.reduceAdd, Int.reduceSub, Int.reduceMul, Int.reduceNeg, Int.reduceLT, Int.reduceLE, Int.reduceToNat, Int.reduceEq, Int.reduceBEq, c11, r11, hx.len]
  have hr : rep (l.length + 5) [AV.int .u8 0] = bys (List.replicate (l.length + 5) 0#8) := by rw [← bys_rep]; simp [rep]
  simp -implicitDefEqProofs (disch := (first | omega | (simp only [lenB, lent_len] <;> omega) | fail)) only [admQ, lenB, lent_len, aFill, ↓reduceIte, reduceCtorEq, if_true, if_false, Nat.reduceAdd, Nat.reduceEqDiff, Nat.reduceMod, Nat.reduceLT, Nat.reduceLeDiff, Nat.reduceSub, Nat.reduceMul, Nat.reduceBEq, Int.reduceAdd, Int.reduceSub, Int.reduceMul, Int.reduceNeg, Int.reduceLT, Int.reduceLE, Int.reduceToNat, Int.reduceEq, Int.reduceBEq, hr]
  let f : Nat → B8 := fun j => if j < l.length then gb l j else 165#8
  refine LoopW.on (fun i : Nat => [(0, x), (3, .sl m.length 0 (l.length + 5) (l.length + 5) 0), (4, .int .i64 i)]) (fun i => l.length + 5 - i) (fun i m' => i ≤ l.length + 5 ∧ m' = m ++ [.row (bys (upTo (l.length + 5) f (fun _ => 0#8) i)) false]) ?_ 0 _ _ rfl ⟨by omega, by rw [upTo_zero, tab_const]⟩
  rintro i m' X ⟨hi, rfl⟩ hX
  by_cases hlt : i < l.length + 5
  · have hxA := hx.app [.row (bys ((upTo (l.length + 5) f (fun _ => 0#8) i).set i 165#8)) false]
    have hsp : splice (bys (upTo (l.length + 5) f (fun _ => 0#8) i)) i [.int .u8 165] = _ := splice_byte (l := upTo (l.length + 5) f (fun _ => 0#8) i) (i := i) (x := 165#8) (by rw [upTo_len]; exact hlt)
    have hu : (upTo (l.length + 5) f (fun _ => 0#8) i).set i (f i) = _ := upTo_set
    by_cases h2 : i < l.length
    · obtain ⟨b, o, cap, s, c, rfl, hr1, hg1, _⟩ := hxA.cons h2
      have e1 := hg1 i h2
      have hf : f i = gb l i := if_pos h2
      rw [hf] at hu
      have hss : ((upTo (l.length + 5) f (fun _ => 0#8) i).set i 165#8).set i (gb l i) = upTo (l.length + 5) f (fun _ => 0#8) (i + 1) := by rw [List.set_set]; exact hu
      clear_value f
      simp -implicitDefEqProofs (disch := (first | omega | (simp only [lenB, lent_len] <;> omega) | fail)) only [admQ, lenB, lent_len, aFill, ↓reduceIte, reduceCtorEq, if_true, if_false, Nat.reduceAdd, Nat.reduceEqDiff, Nat.reduceMod, Nat.reduceLT, Nat.reduceLeDiff, Nat.reduceSub, Nat.reduceMul, Nat.reduceBEq, Int.reduceAdd, Int.reduceSub, Int.reduceMul, Int.reduceNeg, Int.reduceLT, Int.reduceLE, Int.reduceToNat, Int.reduceEq, Int.reduceBEq, hx.len, hsp, hr1, e1, splice_byte, hss]
      exact hX (i + 1) _ _ rfl (by omega) ⟨by omega, rfl⟩
    · have hf : f i = 165#8 := if_neg h2
      rw [hf] at hu
      clear_value f
      simp -implicitDefEqProofs (disch := (first | omega | (simp only [lenB, lent_len] <;> omega) | fail)) only [admQ, lenB, lent_len, aFill, ↓reduceIte, reduceCtorEq, if_true, if_false, Nat.reduceAdd, Nat.reduceEqDiff, Nat.reduceMod, Nat.reduceLT, Nat.reduceLeDiff, Nat.reduceSub, Nat.reduceMul, Nat.reduceBEq, Int.reduceAdd, Int.reduceSub, Int.reduceMul, Int.reduceNeg, Int.reduceLT, Int.reduceLE, Int.reduceToNat, Int.reduceEq, Int.reduceBEq, hx.len, hsp, hu]
      exact hX (i + 1) _ _ rfl (by omega) ⟨by omega, rfl⟩
  · obtain rfl : i = l.length + 5 := by omega
    have hu : upTo (l.length + 5) f (fun _ => 0#8) (l.length + 5) = lent l := upTo_all _ _ _
    simp -implicitDefEqProofs (disch := (first | omega | (simp only [lenB, lent_len] <;> omega) | fail)) only [admQ, lenB, lent_len, aFill, ↓reduceIte, reduceCtorEq, if_true, if_false, Nat.reduceAdd, Nat.reduceEqDiff, Nat.reduceMod, Nat.reduceLT, Nat.reduceLeDiff, Nat.reduceSub, Nat.reduceMul, Nat.reduceBEq, Int.reduceAdd, Int.reduceSub, Int.reduceMul, Int.reduceNeg, Int.reduceLT, Int.reduceLE, Int.reduceToNat, Int.reduceEq, Int.reduceBEq, hu]
    exact ⟨m.length, rfl, .app _ _ _, by omega, by simp -implicitDefEqProofs (disch := (first | omega | (simp only [lenB, lent_len] <;> omega) | fail)) only [admQ, lenB, lent_len, aFill, ↓reduceIte, reduceCtorEq, if_true, if_false, Nat.reduceAdd, Nat.reduceEqDiff, Nat.reduceMod, Nat.reduceLT, Nat.reduceLeDiff, Nat.reduceSub, Nat.reduceMul, Nat.reduceBEq, Int.reduceAdd, Int.reduceSub, Int.reduceMul, Int.reduceNeg, Int.reduceLT, Int.reduceLE, Int.reduceToNat, Int.reduceEq, Int.reduceBEq]⟩
theorem ans_keptbytes {m : Mem} {x y : AV} {a l : List B8} (hx : RdB m x a) (hy : RdB m y l) (hl : l.length < 1152921504606846976) : Ans Try.prog 16 [x, y] m fun r m' => r = .bool (a == lent l) ∧ m' = m := by
  refine ans_ret mixed ok16 ?_
  by_cases h : a.length = l.length + 5
  · obtain ⟨b1, o1, cap1, s1, c1, rfl, hr1, hg1, hl1, hc1, hs1, ht1⟩ := hx.cons (show 0 < a.length by omega)
    have h' : ((a.length : Int) == ((l.length + 5 : Nat) : Int)) = true := by rw [h]; simp
    simp -implicitDefEqProofs (disch := (first | omega | (simp only [lenB, lent_len] <;> omega) | fail)) only [admQ, lenB, lent_len, aFill, ↓reduceIte, reduceCtorEq, if_true, if_false, Nat.reduceAdd, Nat.reduceEqDiff, Nat.reduceMod, Nat.reduceLT, Nat.reduceLeDiff, Nat.reduceSub, Nat.reduceMul, Nat.reduceBEq, Int.reduceAdd, Int.reduceSub, Int.reduceMul, Int.reduceNeg, Int.reduceLT, Int.reduceLE, Int.reduceToNat, Int.reduceEq, Int.reduceBEq, c16, r16, hx.len, hy.len, h']
    refine (ans_samebytes (hx.take (k := l.length) (by omega)) hy (by simp; omega)).mono ?_
    rintro _ m1 ⟨rfl, rfl⟩
    cases he : a.take l.length == l
    · have hne : (a == lent l) = false := by
        rw [beq_eq_false_iff_ne]; rintro rfl; rw [lent_take] at he; simp at he
      simp -implicitDefEqProofs (disch := (first | omega | (simp only [lenB, lent_len] <;> omega) | fail)) only [admQ, lenB, lent_len, aFill, ↓reduceIte, reduceCtorEq, if_true, if_false, Nat.reduceAdd, Nat.reduceEqDiff, Nat.reduceMod, Nat.reduceLT, Nat.reduceLeDiff, Nat.reduceSub, Nat.reduceMul, Nat.reduceBEq, Int.reduceAdd, Int.reduceSub, Int.reduceMul, Int.reduceNeg, Int.reduceLT, Int.reduceLE, Int.reduceToNat, Int.reduceEq, Int.reduceBEq, hne]
    · simp -implicitDefEqProofs (disch := (first | omega | (simp only [lenB, lent_len] <;> omega) | fail)) only [admQ, lenB, lent_len, aFill, ↓reduceIte, reduceCtorEq, if_true, if_false, Nat.reduceAdd, Nat.reduceEqDiff, Nat.reduceMod, Nat.reduceLT, Nat.reduceLeDiff, Nat.reduceSub, Nat.reduceMul, Nat.reduceBEq, Int.reduceAdd, Int.reduceSub, Int.reduceMul, Int.reduceNeg, Int.reduceLT, Int.reduceLE, Int.reduceToNat, Int.reduceEq, Int.reduceBEq, hy.len]
      refine LoopW.on (fun i : Nat => [(0, .sl b1 o1 a.length cap1 s1), (5, .int .i64 i)]) (fun i => a.length - i) (fun i m' => m' = m1 ∧ i ≤ a.length ∧ l.length ≤ i ∧ ∀ j, j < i → gb a j = gb (lent l) j) ?_ l.length _ _ rfl ⟨rfl, by omega, by omega, fun j hj => ?_⟩
      · rintro i _ X ⟨rfl, hi, hi2, hj⟩ hX
        by_cases hlt : i < a.length
        · have e1 := hg1 i hlt
          have e2 : gb (lent l) i = 165#8 := by rw [lent, gb_tab _ (by omega), if_neg (by omega)]
          cases he2 : gb a i == 165#8
          · have hne : (a == lent l) = false := by
              rw [beq_eq_false_iff_ne]; rintro rfl; rw [e2] at he2; simp at he2
            simp -implicitDefEqProofs (disch := (first | omega | (simp only [lenB, lent_len] <;> omega) | fail)) only [admQ, lenB, lent_len, aFill, ↓reduceIte, reduceCtorEq, if_true, if_false, Nat.reduceAdd, Nat.reduceEqDiff, Nat.reduceMod, Nat.reduceLT, Nat.reduceLeDiff, Nat.reduceSub, Nat.reduceMul, Nat.reduceBEq, Int.reduceAdd, Int.reduceSub, Int.reduceMul, Int.reduceNeg, Int.reduceLT, Int.reduceLE, Int.reduceToNat, Int.reduceEq, Int.reduceBEq, hr1, e1, beql_u8 (show 165 < 2 ^ 8 by decide), he2, hne]
          · simp -implicitDefEqProofs (disch := (first | omega | (simp only [lenB, lent_len] <;> omega) | fail)) only [admQ, lenB, lent_len, aFill, ↓reduceIte, reduceCtorEq, if_true, if_false, Nat.reduceAdd, Nat.reduceEqDiff, Nat.reduceMod, Nat.reduceLT, Nat.reduceLeDiff, Nat.reduceSub, Nat.reduceMul, Nat.reduceBEq, Int.reduceAdd, Int.reduceSub, Int.reduceMul, Int.reduceNeg, Int.reduceLT, Int.reduceLE, Int.reduceToNat, Int.reduceEq, Int.reduceBEq, hr1, e1, beql_u8 (show 165 < 2 ^ 8 by decide), he2]
            refine hX (i + 1) _ _ rfl (by omega) ⟨rfl, by omega, by omega, fun j hj2 => ?_⟩
            by_cases hji : j = i
            · subst hji; rw [e2]; simpa using he2
            · exact hj j (by omega)
        · have he2 : (a == lent l) = true := by rw [beq_iff_eq]; exact gb_ext (by rw [lent_len]; omega) fun j hj2 => hj j (by omega)
          simp -implicitDefEqProofs (disch := (first | omega | (simp only [lenB, lent_len] <;> omega) | fail)) only [admQ, lenB, lent_len, aFill, ↓reduceIte, reduceCtorEq, if_true, if_false, Nat.reduceAdd, Nat.reduceEqDiff, Nat.reduceMod, Nat.reduceLT, Nat.reduceLeDiff, Nat.reduceSub, Nat.reduceMul, Nat.reduceBEq, Int.reduceAdd, Int.reduceSub, Int.reduceMul, Int.reduceNeg, Int.reduceLT, Int.reduceLE, Int.reduceToNat, Int.reduceEq, Int.reduceBEq, he2]
      · rw [beq_iff_eq] at he
        have e1 : gb a j = gb l j := by rw [← he]; simp [gb, List.getElem?_take_of_lt hj]
        rw [e1, lent, gb_tab _ (by omega), if_pos hj]
  · have h' : ((a.length : Int) == ((l.length + 5 : Nat) : Int)) = false := by rw [beq_eq_false_iff_ne]; omega
    have he : (a == lent l) = false := by rw [beq_eq_false_iff_ne]; rintro rfl; exact h (lent_len l)
    simp -implicitDefEqProofs (disch := (first | omega | (simp only [lenB, lent_len] <;> omega) | fail)) only [admQ, lenB, lent_len, aFill, ↓reduceIte, reduceCtorEq, if_true, if_false, Nat.reduceAdd, Nat.reduceEqDiff, Nat.reduceMod, Nat.reduceLT, Nat.reduceLeDiff, Nat.reduceSub, Nat.reduceMul, Nat.reduceBEq, Int.reduceAdd, Int.reduceSub, Int.reduceMul, Int.reduceNeg, Int.reduceLT, Int.reduceLE, Int.reduceToNat, Int.reduceEq, Int.reduceBEq, c16, r16, hx.len, hy.len, h', he]
def spoil (l : List B8) : List B8 := tab l.length fun j => gb l j ^^^ 90#8
theorem ans_spoilbytes {m : Mem} {p cap s : Nat} {l : List B8} (hp : own m p = some (bys l)) (hl : l.length < 1152921504606846976) : Ans Try.prog 15 [.sl p 0 l.length cap s] m fun r m' => r = .tup [] ∧ m' = m.set p (.row (bys (spoil l)) false) := by
  refine ans_ret mixed ok15 ?_
  simp -implicitDefEqProofs (disch := (first | omega | (simp only [lenB, lent_len] <;> omega) | fail)) only [admQ, lenB, lent_len, aFill, ↓reduceIte, reduceCtorEq, if_true, if_false, Nat.reduceAdd, Nat.reduceEqDiff, Nat.reduceMod, Nat.reduceLT, Nat.reduceLeDiff, Nat.reduceSub, Nat.reduceMul, Nat.reduceBEq, Int.reduceAdd, Int.reduceSub, Int.reduceMul, Int.reduceNeg, Int.reduceLT, Int.reduceLE, Int.reduceToNat, Int.reduceEq, Int.reduceBEq, c15, r15]
  let f : Nat → B8 := fun j => gb l j ^^^ 90#8
  refine LoopW.on (fun i : Nat => [(0, .sl p 0 l.length cap s), (2, .int .i64 i)]) (fun i => l.length - i) (fun i m' => i ≤ l.length ∧ m' = m.set p (.row (bys (upTo l.length f (gb l) i)) false)) ?_ 0 _ _ rfl ⟨by omega, ?_⟩
  · rintro i m' X ⟨hi, rfl⟩ hX
    have ho := own_set (own_lt hp) (bys (upTo l.length f (gb l) i))
    by_cases hlt : i < l.length
    · have hu : (upTo l.length f (gb l) i).set i (gb l i ^^^ 90#8) = _ := upTo_set (f := f)
      clear_value f
      simp -implicitDefEqProofs (disch := (first | omega | (simp only [lenB, lent_len] <;> omega) | fail)) only [admQ, lenB, lent_len, aFill, ↓reduceIte, reduceCtorEq, if_true, if_false, Nat.reduceAdd, Nat.reduceEqDiff, Nat.reduceMod, Nat.reduceLT, Nat.reduceLeDiff, Nat.reduceSub, Nat.reduceMul, Nat.reduceBEq, Int.reduceAdd, Int.reduceSub, Int.reduceMul, Int.reduceNeg, Int.reduceLT, Int.reduceLE, Int.reduceToNat, Int.reduceEq, Int.reduceBEq, ho, rowOf_own ho, splice_byte, hu, List.set_set]
      exact hX (i + 1) _ _ rfl (by omega) ⟨by omega, rfl⟩
    · obtain rfl : i = l.length := by omega
      have hu : upTo l.length f (gb l) l.length = spoil l := upTo_all _ _ _
      simp -implicitDefEqProofs (disch := (first | omega | (simp only [lenB, lent_len] <;> omega) | fail)) only [admQ, lenB, lent_len, aFill, ↓reduceIte, reduceCtorEq, if_true, if_false, Nat.reduceAdd, Nat.reduceEqDiff, Nat.reduceMod, Nat.reduceLT, Nat.reduceLeDiff, Nat.reduceSub, Nat.reduceMul, Nat.reduceBEq, Int.reduceAdd, Int.reduceSub, Int.reduceMul, Int.reduceNeg, Int.reduceLT, Int.reduceLE, Int.reduceToNat, Int.reduceEq, Int.reduceBEq, hu]
  · rw [upTo_zero, tab_gb rfl, set_same hp]
end Go.Proofs.Ythdkclkiegkabaa
