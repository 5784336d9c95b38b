/- AES: a block turned by the program. -/
import Derived.Test.YthdkclkiegkabaaAeB
namespace Go.Proofs.Ythdkclkiegkabaa
open Go Go.Adm
set_option linter.unusedSimpArgs false
set_option maxRecDepth 100000

def subs (s : List B8) : List B8 := tab 16 fun i => sb (gb s ((i + 4 * (i % 4)) % 16))
theorem subs_len (s : List B8) : (subs s).length = 16 := tab_len _ _
def keyAt (ks : List B8) (r : Nat) : List B8 := (ks.drop (r * 16)).take 16
def roundB (ks : List B8) (n r : Nat) (s : List B8) : List B8 := ovr (if r + 2 < n then mixB (subs s) else subs s) (keyAt ks (r + 1))
def runB (ks : List B8) (n : Nat) (s : List B8) : Nat → List B8
  | 0 => ovr s (keyAt ks 0)
  | r + 1 => roundB ks n r (runB ks n s r)
def blockB (ks : List B8) (n : Nat) (s : List B8) : List B8 := runB ks n s (n - 1)
theorem runB_len (ks : List B8) (n : Nat) (s : List B8) (r : Nat) : (runB ks n s r).length = 16 := by cases r <;> exact ovr_len _ _
theorem keyAt_len {ks : List B8} {n r : Nat} (h : ks.length = n * 16) (hr : r < n) : (keyAt ks r).length = 16 := by
  simp only [keyAt, List.length_take, List.length_drop]; omega
theorem keyAt_bys (ks : List B8) (r : Nat) : List.take 16 (List.drop (r * 16) (bys ks)) = bys (keyAt ks r) := by
  simp [keyAt, List.map_take, List.map_drop]

/-- A cipher: its keys, the table. -/
structure Ciph (m : Mem) (c kb n : Nat) (ks : List B8) : Prop where
  hd : rowOf m c = some (.sl kb 0 n n 16 :: bys sboxL)
  keys : rowOf m kb = some (bys ks)
  len : ks.length = n * 16
  pos : 2 ≤ n ∧ n ≤ 100
theorem Ciph.kept {X : List Nat} {m m' : Mem} {c kb n : Nat} {ks : List B8} (h : Ciph m c kb n ks) (hk : Kept X m m') (h1 : c ∉ X) (h2 : kb ∉ X) : Ciph m' c kb n ks :=
  ⟨hk.row h.hd h1, hk.row h.keys h2, h.len, h.pos⟩
theorem Ciph.app {m : Mem} {c kb n : Nat} {ks : List B8} (h : Ciph m c kb n ks) (e : Mem) : Ciph (m ++ e) c kb n ks := h.kept (.app [] _ _) (by simp) (by simp)

theorem ans_block {m : Mem} {c kb n : Nat} {ks : List B8} (hc : Ciph m c kb n ks) (b : List B8) (hb : b.length = 16) : Ans Try.prog 24 [.ptr c 0, .agg (bys b)] m fun r m' => r = .agg (bys (blockB ks n b)) ∧ Kept [] m m' := by
  refine ans_ret mixed ok24 ?_
  have h1 := fun e => (hc.app e).hd
  have h2 := fun e => (hc.app e).keys
  have h3 := hc.len
  have h4 := hc.pos
  have h5 := keyAt_bys ks 0
  simp only [Nat.zero_mul, List.drop_zero] at h5
  simp -implicitDefEqProofs (disch := (first | omega | (simp only [lenB, ovr_len, mixB_len, subs_len, runB_len] <;> omega) | fail)) only [admQ, lenB, ovr_len, mixB_len, subs_len, runB_len, aFill, ↓reduceIte, reduceCtorEq, if_true, if_false, Nat.reduceAdd, Nat.reduceEqDiff, Nat.reduceMod, Nat.reduceLT, Nat.reduceLeDiff, Nat.reduceSub, Nat.reduceMul, Nat.reduceBEq, Int.reduceAdd, Int.reduceSub, Int.reduceMul, Int.reduceNeg, Int.reduceLT, Int.reduceLE, Int.reduceToNat, Int.reduceEq, Int.reduceBEq, c24, r24, h1, h2, h5]
  refine (ans_ovr _ _ hb (keyAt_len h3 (by omega)) _).mono ?_
  rintro _ m1 ⟨rfl, hk⟩
  obtain ⟨e1, rfl⟩ := hk.grow
  simp -implicitDefEqProofs (disch := (first | omega | (simp only [lenB, ovr_len, mixB_len, subs_len, runB_len] <;> omega) | fail)) only [admQ, lenB, ovr_len, mixB_len, subs_len, runB_len, aFill, ↓reduceIte, reduceCtorEq, if_true, if_false, Nat.reduceAdd, Nat.reduceEqDiff, Nat.reduceMod, Nat.reduceLT, Nat.reduceLeDiff, Nat.reduceSub, Nat.reduceMul, Nat.reduceBEq, Int.reduceAdd, Int.reduceSub, Int.reduceMul, Int.reduceNeg, Int.reduceLT, Int.reduceLE, Int.reduceToNat, Int.reduceEq, Int.reduceBEq, h1, h2, h5]
  generalize hM : m ++ Blk.row (bys b) false :: Blk.row _ false :: (e1 ++ [Blk.row (bys (ovr b (keyAt ks 0))) false]) = M
  generalize h5p : m.length + (e1.length + 1 + 1) = p5
  have o4 : own M (m.length + 1) = some (bys (List.replicate 16 0#8)) := by subst hM; simp -implicitDefEqProofs (disch := (first | omega | (simp only [lenB, ovr_len, mixB_len, subs_len, runB_len] <;> omega) | fail)) only [admQ, lenB, ovr_len, mixB_len, subs_len, runB_len, aFill, ↓reduceIte, reduceCtorEq, if_true, if_false, Nat.reduceAdd, Nat.reduceEqDiff, Nat.reduceMod, Nat.reduceLT, Nat.reduceLeDiff, Nat.reduceSub, Nat.reduceMul, Nat.reduceBEq, Int.reduceAdd, Int.reduceSub, Int.reduceMul, Int.reduceNeg, Int.reduceLT, Int.reduceLE, Int.reduceToNat, Int.reduceEq, Int.reduceBEq]
  have o5 : own M p5 = some (bys (runB ks n b 0)) := by subst hM h5p; simp -implicitDefEqProofs (disch := (first | omega | (simp only [lenB, ovr_len, mixB_len, subs_len, runB_len] <;> omega) | fail)) only [admQ, lenB, ovr_len, mixB_len, subs_len, runB_len, aFill, ↓reduceIte, reduceCtorEq, if_true, if_false, Nat.reduceAdd, Nat.reduceEqDiff, Nat.reduceMod, Nat.reduceLT, Nat.reduceLeDiff, Nat.reduceSub, Nat.reduceMul, Nat.reduceBEq, Int.reduceAdd, Int.reduceSub, Int.reduceMul, Int.reduceNeg, Int.reduceLT, Int.reduceLE, Int.reduceToNat, Int.reduceEq, Int.reduceBEq]; rfl
  have hk0 : Kept [] m M := by subst hM; exact .app _ _ _
  have hp5 : m.length + 1 < p5 := by omega
  clear hM h5p hk
  refine LoopW.on (fun r : Nat => [(0, .ptr c 0), (4, .ptr (m.length + 1) 0), (5, .ptr p5 0), (22, .sl kb 16 (n - 1) (n - 1) 16), (23, .int .i64 ((n - 1 : Nat) : Int)), (24, .int .i64 r)]) (fun r => n - 1 - r)
    (fun r m' => r ≤ n - 1 ∧ Kept [] m m' ∧ own m' (m.length + 1) = some (bys (List.replicate 16 0#8)) ∧ own m' p5 = some (bys (runB ks n b r))) ?_ 0 _ _ rfl ⟨by omega, hk0, o4, o5⟩
  clear o4 o5 hk0 M h1 h2 h5
  rintro r m' X ⟨hr, hk, o4, o5⟩ hX
  have hc' := hc.kept hk (by simp) (by simp)
  have h1 := fun e => (hc'.app e).hd
  have h2 := fun e => (hc'.app e).keys
  have o5' := fun e => rowOf_own (own_app o5 e)
  have h10 := hc'.hd
  have h20 := hc'.keys
  by_cases hlt : r < n - 1
  · have h5 := keyAt_bys ks (r + 1)
    have h6 : 16 + r * 16 = (r + 1) * 16 := by omega
    have h7 := keyAt_len h3 (r := r + 1) (by omega)
    simp -implicitDefEqProofs (disch := (first | omega | (simp only [lenB, ovr_len, mixB_len, subs_len, runB_len] <;> omega) | fail)) only [admQ, lenB, ovr_len, mixB_len, subs_len, runB_len, aFill, ↓reduceIte, reduceCtorEq, if_true, if_false, Nat.reduceAdd, Nat.reduceEqDiff, Nat.reduceMod, Nat.reduceLT, Nat.reduceLeDiff, Nat.reduceSub, Nat.reduceMul, Nat.reduceBEq, Int.reduceAdd, Int.reduceSub, Int.reduceMul, Int.reduceNeg, Int.reduceLT, Int.reduceLE, Int.reduceToNat, Int.reduceEq, Int.reduceBEq, h1, h2, h10, h20, h6, h5, o5']
    have hS := runB_len ks n b r
    have hn : runB ks n b (r + 1) = roundB ks n r (runB ks n b r) := rfl
    generalize runB ks n b r = S at *
    let f : Nat → B8 := fun j => sb (gb S ((j + 4 * (j % 4)) % 16))
    refine LoopW.on (fun i : Nat => [(0, .ptr c 0), (4, .ptr (m.length + 1) 0), (5, .ptr p5 0), (6, .int .i64 r), (7, .ptr m'.length 0), (8, .ptr (m'.length + 1) 0), (22, .sl kb 16 (n - 1) (n - 1) 16), (23, .int .i64 ((n - 1 : Nat) : Int)), (24, .int .i64 r), (29, .int .i64 i)]) (fun i => 16 - i)
      (fun i m2 => i ≤ 16 ∧ m2 = m' ++ [.row (bys (keyAt ks (r + 1))) false, .row (bys (upTo 16 f (fun _ => 0#8) i)) false]) ?_ 0 _ _ rfl ⟨by omega, by rw [upTo_zero, tab_const]⟩
    rintro i m2 X2 ⟨hi, rfl⟩ hX2
    by_cases hl2 : i < 16
    · have g3 : (upTo 16 f (fun _ => 0#8) i).set i (sb (gb S ((i + 4 * (i % 4)) % 16))) = _ := upTo_set
      simp -implicitDefEqProofs (disch := (first | omega | (simp only [lenB, ovr_len, mixB_len, subs_len, runB_len] <;> omega) | fail)) only [admQ, lenB, ovr_len, mixB_len, subs_len, runB_len, aFill, ↓reduceIte, reduceCtorEq, if_true, if_false, Nat.reduceAdd, Nat.reduceEqDiff, Nat.reduceMod, Nat.reduceLT, Nat.reduceLeDiff, Nat.reduceSub, Nat.reduceMul, Nat.reduceBEq, Int.reduceAdd, Int.reduceSub, Int.reduceMul, Int.reduceNeg, Int.reduceLT, Int.reduceLE, Int.reduceToNat, Int.reduceEq, Int.reduceBEq, h1, o5', sb_at, splice_byte, g3]
      exact hX2 (i + 1) _ _ rfl (by omega) ⟨by omega, rfl⟩
    · obtain rfl : i = 16 := by omega
      have g1 : upTo 16 f (fun _ => 0#8) 16 = subs S := upTo_all _ _ _
      clear_value f
      simp -implicitDefEqProofs (disch := (first | omega | (simp only [lenB, ovr_len, mixB_len, subs_len, runB_len] <;> omega) | fail)) only [admQ, lenB, ovr_len, mixB_len, subs_len, runB_len, aFill, ↓reduceIte, reduceCtorEq, if_true, if_false, Nat.reduceAdd, Nat.reduceEqDiff, Nat.reduceMod, Nat.reduceLT, Nat.reduceLeDiff, Nat.reduceSub, Nat.reduceMul, Nat.reduceBEq, Int.reduceAdd, Int.reduceSub, Int.reduceMul, Int.reduceNeg, Int.reduceLT, Int.reduceLE, Int.reduceToNat, Int.reduceEq, Int.reduceBEq, h1, o5', g1]
      have q5 := fun e b => set_app (own_lt o5) e b
      have q4 : p5 ≠ m.length + 1 := by omega
      have fin : ∀ (e : Mem) (t : AFr), AFr.cut [0, 4, 5, 22, 23, 24] t = [(0, .ptr c 0), (4, .ptr (m.length + 1) 0), (5, .ptr p5 0), (22, .sl kb 16 (n - 1) (n - 1) 16), (23, .int .i64 ((n - 1 : Nat) : Int)), (24, .int .i64 ((r + 1 : Nat) : Int))] →
          X t (m'.set p5 (.row (bys (roundB ks n r S)) false) ++ e) := by
        intro e t ht
        refine hX (r + 1) _ _ ht (by omega) ⟨by omega, hk.fresh ((Kept.set1 m' p5 _).trans (.app _ _ _)) (by simp; omega), own_app (own_set_ne' o4 q4 _) _, ?_⟩
        rw [hn]; exact own_app (own_set (own_lt o5) _) _
      have o5o := fun e => own_app o5 e
      by_cases hm : r + 2 < n
      · have e1 : roundB ks n r S = ovr (mixB (subs S)) (keyAt ks (r + 1)) := by rw [roundB, if_pos hm]
        rw [e1] at fin
        simp -implicitDefEqProofs (disch := (first | omega | (simp only [lenB, ovr_len, mixB_len, subs_len, runB_len] <;> omega) | fail)) only [admQ, lenB, ovr_len, mixB_len, subs_len, runB_len, aFill, ↓reduceIte, reduceCtorEq, if_true, if_false, Nat.reduceAdd, Nat.reduceEqDiff, Nat.reduceMod, Nat.reduceLT, Nat.reduceLeDiff, Nat.reduceSub, Nat.reduceMul, Nat.reduceBEq, Int.reduceAdd, Int.reduceSub, Int.reduceMul, Int.reduceNeg, Int.reduceLT, Int.reduceLE, Int.reduceToNat, Int.reduceEq, Int.reduceBEq]
        refine (ans_mix _ (subs_len S) _).mono ?_
        rintro _ m3 ⟨rfl, hk3⟩
        obtain ⟨e3, rfl⟩ := hk3.grow
        simp -implicitDefEqProofs (disch := (first | omega | (simp only [lenB, ovr_len, mixB_len, subs_len, runB_len] <;> omega) | fail)) only [admQ, lenB, ovr_len, mixB_len, subs_len, runB_len, aFill, ↓reduceIte, reduceCtorEq, if_true, if_false, Nat.reduceAdd, Nat.reduceEqDiff, Nat.reduceMod, Nat.reduceLT, Nat.reduceLeDiff, Nat.reduceSub, Nat.reduceMul, Nat.reduceBEq, Int.reduceAdd, Int.reduceSub, Int.reduceMul, Int.reduceNeg, Int.reduceLT, Int.reduceLE, Int.reduceToNat, Int.reduceEq, Int.reduceBEq]
        refine (ans_ovr _ _ (mixB_len _) h7 _).mono ?_
        rintro _ m4 ⟨rfl, hk4⟩
        obtain ⟨e4, rfl⟩ := hk4.grow
        simp -implicitDefEqProofs (disch := (first | omega | (simp only [lenB, ovr_len, mixB_len, subs_len, runB_len] <;> omega) | fail)) only [admQ, lenB, ovr_len, mixB_len, subs_len, runB_len, aFill, ↓reduceIte, reduceCtorEq, if_true, if_false, Nat.reduceAdd, Nat.reduceEqDiff, Nat.reduceMod, Nat.reduceLT, Nat.reduceLeDiff, Nat.reduceSub, Nat.reduceMul, Nat.reduceBEq, Int.reduceAdd, Int.reduceSub, Int.reduceMul, Int.reduceNeg, Int.reduceLT, Int.reduceLE, Int.reduceToNat, Int.reduceEq, Int.reduceBEq, o5o, q5]
        exact fin _ _ rfl
      · have e1 : roundB ks n r S = ovr (subs S) (keyAt ks (r + 1)) := by rw [roundB, if_neg hm]
        rw [e1] at fin
        simp -implicitDefEqProofs (disch := (first | omega | (simp only [lenB, ovr_len, mixB_len, subs_len, runB_len] <;> omega) | fail)) only [admQ, lenB, ovr_len, mixB_len, subs_len, runB_len, aFill, ↓reduceIte, reduceCtorEq, if_true, if_false, Nat.reduceAdd, Nat.reduceEqDiff, Nat.reduceMod, Nat.reduceLT, Nat.reduceLeDiff, Nat.reduceSub, Nat.reduceMul, Nat.reduceBEq, Int.reduceAdd, Int.reduceSub, Int.reduceMul, Int.reduceNeg, Int.reduceLT, Int.reduceLE, Int.reduceToNat, Int.reduceEq, Int.reduceBEq]
        refine (ans_ovr _ _ (subs_len _) h7 _).mono ?_
        rintro _ m4 ⟨rfl, hk4⟩
        obtain ⟨e4, rfl⟩ := hk4.grow
        simp -implicitDefEqProofs (disch := (first | omega | (simp only [lenB, ovr_len, mixB_len, subs_len, runB_len] <;> omega) | fail)) only [admQ, lenB, ovr_len, mixB_len, subs_len, runB_len, aFill, ↓reduceIte, reduceCtorEq, if_true, if_false, Nat.reduceAdd, Nat.reduceEqDiff, Nat.reduceMod, Nat.reduceLT, Nat.reduceLeDiff, Nat.reduceSub, Nat.reduceMul, Nat.reduceBEq, Int.reduceAdd, Int.reduceSub, Int.reduceMul, Int.reduceNeg, Int.reduceLT, Int.reduceLE, Int.reduceToNat, Int.reduceEq, Int.reduceBEq, o5o, q5]
        exact fin _ _ rfl
  · obtain rfl : r = n - 1 := by omega
    have q4 := own_set (own_lt o4)
    have hb' : blockB ks n b = runB ks n b (n - 1) := rfl
    simp -implicitDefEqProofs (disch := (first | omega | (simp only [lenB, ovr_len, mixB_len, subs_len, runB_len] <;> omega) | fail)) only [admQ, lenB, ovr_len, mixB_len, subs_len, runB_len, aFill, ↓reduceIte, reduceCtorEq, if_true, if_false, Nat.reduceAdd, Nat.reduceEqDiff, Nat.reduceMod, Nat.reduceLT, Nat.reduceLeDiff, Nat.reduceSub, Nat.reduceMul, Nat.reduceBEq, Int.reduceAdd, Int.reduceSub, Int.reduceMul, Int.reduceNeg, Int.reduceLT, Int.reduceLE, Int.reduceToNat, Int.reduceEq, Int.reduceBEq, rowOf_own o5, o4, rowOf_own (q4 _), hb']
    exact hk.fresh (Kept.set1 m' _ _) (by simp)
end Go.Proofs.Ythdkclkiegkabaa
