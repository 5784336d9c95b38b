/- Texts of this seat, joined (part 5 of 5): an abstract memory for Go programs, this seat's functions as abstract code, and what each of them does. -/
import Derived.Test.YtodkgembfcddbaaM4
set_option linter.unusedSimpArgs false
section
/- Names as the document has them: summed. -/
namespace Go.Proofs.Ytodkgembfcddbaa
open Go Go.Adm
set_option linter.unusedSimpArgs false
set_option linter.unusedVariables false
set_option maxRecDepth 100000
def nrF (k : Nat) (j : Nat) : B8 := if j < 24 then 1#8 else gb (numB k) (j - 24)
theorem nrF_sum (k : Nat) : tab 32 (nrF k) = List.replicate 24 1#8 ++ numB k := by
  refine gb_ext (by simp [tab_len, numB_len]) fun i hi => ?_
  rw [tab_len] at hi
  rw [gb_tab _ hi, nrF]
  by_cases h : i < 24
  · rw [gb_app_l (by rw [List.length_replicate]; exact h), if_pos h]
    have e := gb_get (l := List.replicate 24 1#8) (i := i) (by rw [List.length_replicate]; exact h)
    rw [List.getElem?_replicate, if_pos h] at e
    exact Option.some.inj e
  · rw [gb_app_r (by rw [List.length_replicate]; omega), List.length_replicate, if_neg h]
theorem nrsumTail {m M : Mem} {y : Nat} {R R' Q Q' : List Nat} {S : List Sd} {T : List (List B8)} {b : List B8} (hT : T.length ≤ 100000) (k : Nat) (hk1 : k = posN b T) (hk2 : k ≤ 100001)
    (hk : Kept R m M) (hN : RNm M y R' Q' S (addN b T)) (hQ : ∀ q ∈ Q', q ∈ Q ∨ m.length ≤ q) (hz : own M m.length = some (bys (List.replicate 32 0#8))) (hW : m.length ∉ Q') :
    wpA Try.prog c23_2 [(4, .ptr m.length 0), (5, .int .i64 (k : Int))] M (retQ [.cell 4 true 32] fun r m' => r = .agg (bys (nsumB T b)) ∧ ∃ R' Q', Kept R m m' ∧ RNm m' y R' Q' S (addN b T) ∧ ∀ q ∈ Q', q ∈ Q ∨ m.length ≤ q) := by
  simp -implicitDefEqProofs (disch := (first | omega | (simp only [lenB, lowB_len, numB_len, nsumB_len] <;> omega) | fail)) only [admQ, lenB, lowB_len, numB_len, nsumB_len, aFill, AK.cls, implies_true, ↓reduceIte, reduceCtorEq, if_true, if_false, Nat.reduceAdd, Nat.reduceEqDiff, Nat.reduceMod, Nat.reduceLT, Nat.reduceLeDiff, Nat.reduceSub, Nat.reduceMul, Nat.reduceBEq, Int.reduceAdd, Int.reduceSub, Int.reduceMul, Int.reduceNeg, Int.reduceLT, Int.reduceLE, Int.reduceToNat, Int.reduceEq, Int.reduceBEq, c23_2]
  have hzl := own_lt hz
  have hr : bys (List.replicate 32 0#8) = bys (upTo 32 (nrF k) (fun _ => 0#8) 0) := by rw [upTo_zero, tab_const]
  have oS := show own (M ++ [Blk.row (bys (upTo 32 (nrF k) (fun _ => 0#8) 0)) false]) M.length = some _ by rw [own_app_at0]; rfl
  have kA := Kept.app [] M [Blk.row (bys (upTo 32 (nrF k) (fun _ => 0#8) 0)) false]
  have hAl : (M ++ [Blk.row (bys (upTo 32 (nrF k) (fun _ => 0#8) 0)) false]).length = M.length + 1 := by simp
  rw [hr]
  generalize M ++ [Blk.row (bys (upTo 32 (nrF k) (fun _ => 0#8) 0)) false] = A at *
  refine (ans_nreight k (by omega) _).mono ?_
  rintro v m1 ⟨k1, g1⟩
  simp -implicitDefEqProofs (disch := (first | omega | (simp only [lenB, lowB_len, numB_len, nsumB_len] <;> omega) | fail)) only [admQ, lenB, lowB_len, numB_len, nsumB_len, aFill, AK.cls, implies_true, ↓reduceIte, reduceCtorEq, if_true, if_false, Nat.reduceAdd, Nat.reduceEqDiff, Nat.reduceMod, Nat.reduceLT, Nat.reduceLeDiff, Nat.reduceSub, Nat.reduceMul, Nat.reduceBEq, Int.reduceAdd, Int.reduceSub, Int.reduceMul, Int.reduceNeg, Int.reduceLT, Int.reduceLE, Int.reduceToNat, Int.reduceEq, Int.reduceBEq]
  have oS1 := k1.own oS (by simp)
  have hv := GrA.blk g1 (by intro h0; have := congrArg List.length h0; simp [numB_len] at this)
  have hnl := numB_len k
  have hm1 := k1.len
  refine LoopW.on (fun i : Nat => [(4, .ptr m.length 0), (7, .ptr M.length 0), (8, v), (9, .int .i64 i)]) (fun i => 24 - i)
    (fun i N => i ≤ 24 ∧ Kept [M.length] m1 N ∧ own N M.length = some (bys (upTo 32 (nrF k) (fun _ => 0#8) i))) ?_ 0 _ _ rfl ⟨by omega, .refl _ _, oS1⟩
  rintro i N X ⟨hi, kk, oN⟩ hX
  have hNl := own_lt oN
  by_cases hlt : i < 24
  · have hsp : splice (bys (upTo 32 (nrF k) (fun _ => 0#8) i)) i [.int .u8 1] = bys (upTo 32 (nrF k) (fun _ => 0#8) (i + 1)) :=
      (splice_byte (l := upTo 32 (nrF k) (fun _ => 0#8) i) (i := i) (x := 1#8) (by rw [upTo_len]; omega)).trans (congrArg bys (by rw [← upTo_set]; simp [nrF, hlt]))
    simp -implicitDefEqProofs (disch := (first | omega | (simp only [lenB, lowB_len, numB_len, nsumB_len] <;> omega) | fail)) only [admQ, lenB, lowB_len, numB_len, nsumB_len, aFill, AK.cls, implies_true, ↓reduceIte, reduceCtorEq, if_true, if_false, Nat.reduceAdd, Nat.reduceEqDiff, Nat.reduceMod, Nat.reduceLT, Nat.reduceLeDiff, Nat.reduceSub, Nat.reduceMul, Nat.reduceBEq, Int.reduceAdd, Int.reduceSub, Int.reduceMul, Int.reduceNeg, Int.reduceLT, Int.reduceLE, Int.reduceToNat, Int.reduceEq, Int.reduceBEq, oN, hsp]
    exact hX (i + 1) _ _ rfl (by omega) ⟨by omega, kk.write (.inl (by simp)) _, own_set hNl _⟩
  · obtain rfl : i = 24 := by omega
    simp -implicitDefEqProofs (disch := (first | omega | (simp only [lenB, lowB_len, numB_len, nsumB_len] <;> omega) | fail)) only [admQ, lenB, lowB_len, numB_len, nsumB_len, aFill, AK.cls, implies_true, ↓reduceIte, reduceCtorEq, if_true, if_false, Nat.reduceAdd, Nat.reduceEqDiff, Nat.reduceMod, Nat.reduceLT, Nat.reduceLeDiff, Nat.reduceSub, Nat.reduceMul, Nat.reduceBEq, Int.reduceAdd, Int.reduceSub, Int.reduceMul, Int.reduceNeg, Int.reduceLT, Int.reduceLE, Int.reduceToNat, Int.reduceEq, Int.reduceBEq]
    clear hX X
    refine LoopW.on (fun j : Nat => [(4, .ptr m.length 0), (7, .ptr M.length 0), (8, v), (10, .int .i64 j)]) (fun j => 8 - j)
      (fun j N => j ≤ 8 ∧ Kept [M.length] m1 N ∧ own N M.length = some (bys (upTo 32 (nrF k) (fun _ => 0#8) (24 + j)))) ?_ 0 _ _ rfl ⟨by omega, kk, oN⟩
    rintro j N X ⟨hj, kk, oN⟩ hX
    have hNl := own_lt oN
    by_cases hlt : j < 8
    · obtain ⟨bv, o, cap, sl, c, rfl, hrow, hat, _⟩ := (g1.kept kk (by simp; rintro b hb rfl; have := hv _ hb; omega)).rd.cons (i := j) (by omega)
      have e := hat j (by omega)
      have hf : nrF k (24 + j) = gb (numB k) j := by rw [nrF, if_neg (by omega), Nat.add_sub_cancel_left]
      have hsp : splice (bys (upTo 32 (nrF k) (fun _ => 0#8) (24 + j))) (24 + j) [b8 (gb (numB k) j)] = bys (upTo 32 (nrF k) (fun _ => 0#8) (24 + (j + 1))) :=
        (splice_byte (l := upTo 32 (nrF k) (fun _ => 0#8) (24 + j)) (i := 24 + j) (by rw [upTo_len]; omega)).trans (congrArg bys (by rw [← Nat.add_assoc, ← upTo_set, hf]))
      simp -implicitDefEqProofs (disch := (first | omega | (simp only [lenB, lowB_len, numB_len, nsumB_len] <;> omega) | fail)) only [admQ, lenB, lowB_len, numB_len, nsumB_len, aFill, AK.cls, implies_true, ↓reduceIte, reduceCtorEq, if_true, if_false, Nat.reduceAdd, Nat.reduceEqDiff, Nat.reduceMod, Nat.reduceLT, Nat.reduceLeDiff, Nat.reduceSub, Nat.reduceMul, Nat.reduceBEq, Int.reduceAdd, Int.reduceSub, Int.reduceMul, Int.reduceNeg, Int.reduceLT, Int.reduceLE, Int.reduceToNat, Int.reduceEq, Int.reduceBEq, hrow, e, oN, hsp]
      exact hX (j + 1) _ _ rfl (by omega) ⟨by omega, kk.write (.inl (by simp)) _, own_set hNl _⟩
    · obtain rfl : j = 8 := by omega
      have oS2 : own N M.length = some (bys (nsumB T b)) := by rw [oN, show 24 + 8 = 32 from rfl, upTo_all, nrF_sum, nsumB, hk1]
      have K1 := (kA.trans k1).more (X := []) (Y := [M.length]) (by simp)
      have oZ := (K1.trans kk).own hz (by simp; omega)
      have hnl := nsumB_len T b
      have hMm := hk.len
      simp -implicitDefEqProofs (disch := (first | omega | (simp only [lenB, lowB_len, numB_len, nsumB_len] <;> omega) | fail)) only [admQ, lenB, lowB_len, numB_len, nsumB_len, aFill, AK.cls, implies_true, ↓reduceIte, reduceCtorEq, if_true, if_false, Nat.reduceAdd, Nat.reduceEqDiff, Nat.reduceMod, Nat.reduceLT, Nat.reduceLeDiff, Nat.reduceSub, Nat.reduceMul, Nat.reduceBEq, Int.reduceAdd, Int.reduceSub, Int.reduceMul, Int.reduceNeg, Int.reduceLT, Int.reduceLE, Int.reduceToNat, Int.reduceEq, Int.reduceBEq, rowOf_own oS2, own_set (own_lt oZ), rowOf_own (own_set (own_lt oZ) _), oZ, oS2]
      have K0 : Kept [] M N := (K1.trans kk).more fun q hq hl => by simp at hq; omega
      exact ⟨R', Q', (hk.trans (K0.more (by simp))).write (.inr (Nat.le_refl _)) _, (hN.kept0 K0).kept (.set1 N m.length _) (by simpa using fun q hq (h : q = m.length) => hW (h ▸ hq)), hQ⟩
def lookK {α : Type} [DecidableEq α] (a : α) (l : List α) (i : Nat) : Nat := match fidx a l with | some j => if j < i then j + 1 else 0 | none => 0
theorem lookK_step {α : Type} [DecidableEq α] {a b : α} {l : List α} {i : Nat} (hn : l.Nodup) (h : l[i]? = some b) : lookK a l (i + 1) = if b = a then i + 1 else lookK a l i := by
  unfold lookK
  by_cases he : b = a
  · subst he
    rw [fidx_nodup hn h]
    simp
  · rw [if_neg he]
    cases hf : fidx a l with
    | none => rfl
    | some j =>
      have hj := fidx_some hf
      have hne : j ≠ i := by rintro rfl; rw [hj] at h; exact he (Option.some.inj h).symm
      simp only
      by_cases hji : j < i
      · rw [if_pos hji, if_pos (by omega)]
      · rw [if_neg hji, if_neg (by omega)]
theorem TxL.snoc {m : Mem} {G : Nat → Prop} {c : List AV} {T : List (List B8)} {v : AV} {t : List B8} (hc : TxL m G c T) (hv : RdB m v t) (gv : ∀ b ∈ blkOf v, G b) : TxL m G (c ++ [v]) (T ++ [t]) := by
  refine ⟨by simp [hc.1], fun i u hu => ?_⟩
  by_cases hi : i < T.length
  · rw [List.getElem?_append_left hi] at hu
    obtain ⟨w, a1, a2⟩ := hc.2 i u hu
    have hcl := hc.1
    exact ⟨w, by rw [List.getElem?_append_left (by omega)]; exact a1, a2⟩
  · have hlt := lt_of_get hu
    simp only [List.length_append, List.length_singleton] at hlt
    obtain rfl : i = T.length := by omega
    simp at hu
    subst hu
    exact ⟨v, by rw [← hc.1, List.getElem?_append_right (by omega)]; simp, hv, gv⟩
theorem ans_nrsum {m : Mem} {y : Nat} {R Q : List Nat} {S : List Sd} {T : List (List B8)} {bx : AV} {b : List B8} (hN : RNm m y R Q S T) (hb : RdB m bx b) (hd : ∀ q ∈ blkOf bx, q ∉ Q) (hT : T.length ≤ 100000) (hl : b.length ≤ 100000) (hTl : ∀ t ∈ T, t.length ≤ 100000) :
    Ans Try.prog 23 [.ptr y 0, bx] m fun r m' => r = .agg (bys (nsumB T b)) ∧ ∃ R' Q', Kept R m m' ∧ RNm m' y R' Q' S (addN b T) ∧ ∀ q ∈ Q', q ∈ Q ∨ m.length ≤ q := by
  refine ans_ret mixed ok23 ?_
  simp -implicitDefEqProofs (disch := (first | omega | (simp only [lenB, lowB_len, numB_len, nsumB_len] <;> omega) | fail)) only [admQ, lenB, lowB_len, numB_len, nsumB_len, aFill, AK.cls, implies_true, ↓reduceIte, reduceCtorEq, if_true, if_false, Nat.reduceAdd, Nat.reduceEqDiff, Nat.reduceMod, Nat.reduceLT, Nat.reduceLeDiff, Nat.reduceSub, Nat.reduceMul, Nat.reduceBEq, Int.reduceAdd, Int.reduceSub, Int.reduceMul, Int.reduceNeg, Int.reduceLT, Int.reduceLE, Int.reduceToNat, Int.reduceEq, Int.reduceBEq, p23, r23]
  have k0 := Kept.app [] m [Blk.row (bys (List.replicate 32 0#8)) false]
  have o0 : own (m ++ [Blk.row (bys (List.replicate 32 0#8)) false]) m.length = some (bys (List.replicate 32 0#8)) := by rw [own_app_at0]; rfl
  have hAl : (m ++ [Blk.row (bys (List.replicate 32 0#8)) false]).length = m.length + 1 := by simp
  generalize m ++ [Blk.row (bys (List.replicate 32 0#8)) false] = A at k0 o0 hAl
  have hNA := hN.kept0 k0
  obtain ⟨vS, vT, cS, cT, h1, h2, h3, hR, h5, h6, h7, h8, h9⟩ := hNA.ex
  have hb0 := hb.kept0 k0
  refine LoopW.on (fun i : Nat => [(0, .ptr y 0), (1, bx), (4, .ptr m.length 0), (5, .int .i64 ((lookK b T i : Nat) : Int)), (6, .int .i64 i)]) (fun i => T.length - i) (fun i M => i ≤ T.length ∧ M = A) ?_ 0 _ _ (by simp [lookK]; cases fidx b T <;> rfl) ⟨by omega, rfl⟩
  rintro i M X ⟨hi, rfl⟩ hX
  have h9l := h9.1
  by_cases hlt : i < T.length
  · obtain ⟨bT, rfl, hbT⟩ := gr_slS (n := T.length) h3 (by omega) (by omega) (by omega)
    obtain ⟨t, ht⟩ : ∃ t, T[i]? = some t := ⟨_, List.getElem?_eq_getElem hlt⟩
    obtain ⟨v, a1, a2, a3⟩ := h9.2 i t ht
    have hst := lookK_step (a := b) hN.nd.2 ht
    have := hTl t (List.mem_of_getElem? ht)
    simp -implicitDefEqProofs (disch := (first | omega | (simp only [lenB, lowB_len, numB_len, nsumB_len] <;> omega) | fail)) only [admQ, lenB, lowB_len, numB_len, nsumB_len, aFill, AK.cls, implies_true, ↓reduceIte, reduceCtorEq, if_true, if_false, Nat.reduceAdd, Nat.reduceEqDiff, Nat.reduceMod, Nat.reduceLT, Nat.reduceLeDiff, Nat.reduceSub, Nat.reduceMul, Nat.reduceBEq, Int.reduceAdd, Int.reduceSub, Int.reduceMul, Int.reduceNeg, Int.reduceLT, Int.reduceLE, Int.reduceToNat, Int.reduceEq, Int.reduceBEq, rowOf_own h1, rowOf_own hbT, a1]
    refine (ans_samebytes a2 hb0 (by omega)).mono ?_
    rintro _ N ⟨rfl, hM⟩
    subst hM
    by_cases he : t = b
    · simp -implicitDefEqProofs (disch := (first | omega | (simp only [lenB, lowB_len, numB_len, nsumB_len] <;> omega) | fail)) only [admQ, lenB, lowB_len, numB_len, nsumB_len, aFill, AK.cls, implies_true, ↓reduceIte, reduceCtorEq, if_true, if_false, Nat.reduceAdd, Nat.reduceEqDiff, Nat.reduceMod, Nat.reduceLT, Nat.reduceLeDiff, Nat.reduceSub, Nat.reduceMul, Nat.reduceBEq, Int.reduceAdd, Int.reduceSub, Int.reduceMul, Int.reduceNeg, Int.reduceLT, Int.reduceLE, Int.reduceToNat, Int.reduceEq, Int.reduceBEq, beq_iff_eq.mpr he]
      refine hX (i + 1) _ _ ?_ (by omega) ⟨by omega, rfl⟩
      rw [hst, if_pos he]; rfl
    · simp -implicitDefEqProofs (disch := (first | omega | (simp only [lenB, lowB_len, numB_len, nsumB_len] <;> omega) | fail)) only [admQ, lenB, lowB_len, numB_len, nsumB_len, aFill, AK.cls, implies_true, ↓reduceIte, reduceCtorEq, if_true, if_false, Nat.reduceAdd, Nat.reduceEqDiff, Nat.reduceMod, Nat.reduceLT, Nat.reduceLeDiff, Nat.reduceSub, Nat.reduceMul, Nat.reduceBEq, Int.reduceAdd, Int.reduceSub, Int.reduceMul, Int.reduceNeg, Int.reduceLT, Int.reduceLE, Int.reduceToNat, Int.reduceEq, Int.reduceBEq, beq_eq_false_iff_ne.mpr he]
      refine hX (i + 1) _ _ ?_ (by omega) ⟨by omega, rfl⟩
      rw [hst, if_neg he]; rfl
  · obtain rfl : i = T.length := by omega
    simp -implicitDefEqProofs (disch := (first | omega | (simp only [lenB, lowB_len, numB_len, nsumB_len] <;> omega) | fail)) only [admQ, lenB, lowB_len, numB_len, nsumB_len, aFill, AK.cls, implies_true, ↓reduceIte, reduceCtorEq, if_true, if_false, Nat.reduceAdd, Nat.reduceEqDiff, Nat.reduceMod, Nat.reduceLT, Nat.reduceLeDiff, Nat.reduceSub, Nat.reduceMul, Nat.reduceBEq, Int.reduceAdd, Int.reduceSub, Int.reduceMul, Int.reduceNeg, Int.reduceLT, Int.reduceLE, Int.reduceToNat, Int.reduceEq, Int.reduceBEq, rowOf_own h1, gr_lenS (n := T.length) h3 (by omega) (by omega)]
    have hQm := hN.lt
    have hRQ := hN.sub
    have hWQ : m.length ∉ Q := fun h => by have := hQm _ h; omega
    cases hf : fidx b T with
    | some j =>
      have hin := List.mem_of_getElem? (fidx_some hf)
      have hj := fidx_lt hf
      have hk : lookK b T T.length = j + 1 := by simp only [lookK, hf, if_pos hj]
      rw [hk]
      refine wp_join2 [4, 5] (fun _ : Unit => [(4, .ptr m.length 0), (5, .int .i64 ((j + 1 : Nat) : Int))]) (fun _ M' => M' = M) rfl ?_ ?_
      · simp -implicitDefEqProofs (disch := (first | omega | (simp only [lenB, lowB_len, numB_len, nsumB_len] <;> omega) | fail)) only [admQ, lenB, lowB_len, numB_len, nsumB_len, aFill, AK.cls, implies_true, ↓reduceIte, reduceCtorEq, if_true, if_false, Nat.reduceAdd, Nat.reduceEqDiff, Nat.reduceMod, Nat.reduceLT, Nat.reduceLeDiff, Nat.reduceSub, Nat.reduceMul, Nat.reduceBEq, Int.reduceAdd, Int.reduceSub, Int.reduceMul, Int.reduceNeg, Int.reduceLT, Int.reduceLE, Int.reduceToNat, Int.reduceEq, Int.reduceBEq, c23_1, joins]
        exact ⟨(), trivial⟩
      · rintro _ M' rfl
        exact nrsumTail hT _ (posN_some hf).symm (by omega) (k0.more (by simp)) (by rw [addN, if_pos hin]; exact hNA) (fun q hq => .inl hq) o0 hWQ
    | none =>
      have hin := fidx_none.mp hf
      have hk : lookK b T T.length = 0 := by simp only [lookK, hf]
      rw [hk]
      have hyQ : y ∈ Q := hRQ y (by rw [hR]; simp)
      have hvS : ∀ b ∈ blkOf vS, b ∈ Q := fun b hb => hRQ b (by rw [hR]; simp [hb])
      have hvT : ∀ b ∈ blkOf vT, b ∈ Q := fun b hb => hRQ b (by rw [hR]; simp [hb])
      refine wp_join2 [4, 5] (fun _ : Unit => [(4, .ptr m.length 0), (5, .int .i64 ((T.length + 1 : Nat) : Int))]) (fun _ M' => ∃ R' Q', Kept R m M' ∧ RNm M' y R' Q' S (T ++ [b]) ∧ own M' m.length = some (bys (List.replicate 32 0#8)) ∧ m.length ∉ Q' ∧ ∀ q ∈ Q', q ∈ Q ∨ m.length ≤ q) rfl ?_ ?_
      · simp -implicitDefEqProofs (disch := (first | omega | (simp only [lenB, lowB_len, numB_len, nsumB_len] <;> omega) | fail)) only [admQ, lenB, lowB_len, numB_len, nsumB_len, aFill, AK.cls, implies_true, ↓reduceIte, reduceCtorEq, if_true, if_false, Nat.reduceAdd, Nat.reduceEqDiff, Nat.reduceMod, Nat.reduceLT, Nat.reduceLeDiff, Nat.reduceSub, Nat.reduceMul, Nat.reduceBEq, Int.reduceAdd, Int.reduceSub, Int.reduceMul, Int.reduceNeg, Int.reduceLT, Int.reduceLE, Int.reduceToNat, Int.reduceEq, Int.reduceBEq, c23_1, joins, rowOf_own h1]
        refine (ans_copynew hb0 (by omega)).mono ?_
        rintro v B ⟨kB, gB, nB⟩
        have yB := kB.own h1 (by simp)
        simp -implicitDefEqProofs (disch := (first | omega | (simp only [lenB, lowB_len, numB_len, nsumB_len] <;> omega) | fail)) only [admQ, lenB, lowB_len, numB_len, nsumB_len, aFill, AK.cls, implies_true, ↓reduceIte, reduceCtorEq, if_true, if_false, Nat.reduceAdd, Nat.reduceEqDiff, Nat.reduceMod, Nat.reduceLT, Nat.reduceLeDiff, Nat.reduceSub, Nat.reduceMul, Nat.reduceBEq, Int.reduceAdd, Int.reduceSub, Int.reduceMul, Int.reduceNeg, Int.reduceLT, Int.reduceLE, Int.reduceToNat, Int.reduceEq, Int.reduceBEq, (gr_one gB).1, (gr_one gB).2, rowOf_own yB]
        have kC := Kept.app [] B [Blk.row [v] false]
        obtain ⟨v2, m3, e2, gv2, kv2, av2, nv2⟩ := GrA.pushs5 (bytes := 24) (k := 1) (y := .sl B.length 0 1 1 0) (l2 := [v]) ((h3.kept0 kB).kept0 kC) (by omega) (elemsS_one B rfl) rfl rfl (by omega) (Nat.zero_le _)
        refine someW_eq e2 ?_
        have hCl : (B ++ [Blk.row [v] false]).length = B.length + 1 := by simp
        have gBC := gB.kept0 kC
        have ltB := gB.lt
        generalize B ++ [Blk.row [v] false] = C at *
        have KC := kB.trans kC
        have hMB := kB.len
        have hMl : M.length = m.length + 1 := hAl
        have y1 := kv2.own (KC.own h1 (by simp)) h6
        have hy1 := own_lt y1
        have y2 := own_set hy1 [vS, v2]
        have hv2b : ∀ b ∈ blkOf v2, B.length < b := fun b hb => by have := nv2 (by omega) b hb; omega
        have hsl2 : (cT ++ [v]).length = (T.length + 1) * 1 := by simp [h9.1]
        have kX := Kept.set1 m3 y (.row [vS, v2] false)
        have gv3 := gv2.kept kX (by simp; rintro b hb rfl; have := hv2b b hb; have := hQm b hyQ; omega)
        simp -implicitDefEqProofs (disch := (first | omega | (simp only [lenB, lowB_len, numB_len, nsumB_len] <;> omega) | fail)) only [admQ, lenB, lowB_len, numB_len, nsumB_len, aFill, AK.cls, implies_true, ↓reduceIte, reduceCtorEq, if_true, if_false, Nat.reduceAdd, Nat.reduceEqDiff, Nat.reduceMod, Nat.reduceLT, Nat.reduceLeDiff, Nat.reduceSub, Nat.reduceMul, Nat.reduceBEq, Int.reduceAdd, Int.reduceSub, Int.reduceMul, Int.reduceNeg, Int.reduceLT, Int.reduceLE, Int.reduceToNat, Int.reduceEq, Int.reduceBEq, y1, (gr_one gv2).1, (gr_one gv2).2, rowOf_own y2, gr_lenS gv3 (by omega) hsl2]
        have kall : Kept R B (m3.set y (.row [vS, v2] false)) := ((kC.more (by simp)).trans (kv2.more fun q hq _ => by rw [hR]; simp [hq])).trans (kX.more fun q hq _ => by simp at hq; rw [hR]; simp [hq])
        have KB := k0.trans kB
        have hRm : ∀ b ∈ R, b < m.length := fun b hb => hQm b (hRQ b hb)
        have nR : ∀ b, M.length ≤ b → b ∉ R := fun b hb h => by have := hRm b h; omega
        have nG : ∀ b, b ∈ Q ∨ b ∈ blkOf v → b ∉ R → b ∉ y :: (blkOf vS ++ blkOf v2) := fun b hb hr h => by
          have hbB : b < B.length := by
            rcases hb with hb | hb
            · have := hQm b hb; omega
            · exact ltB b hb
          simp only [List.mem_cons, List.mem_append] at h
          rcases h with h | h | h
          · exact hr (by rw [hR]; simp [h])
          · exact hr (by rw [hR]; simp [h])
          · have := hv2b b h; omega
        have ozB := kB.own o0 (by simp)
        refine ⟨(), rfl, y :: (blkOf vS ++ blkOf v2), Q ++ (blkOf v2 ++ blkOf v), (KB.more (by simp)).trans kall, ⟨⟨vS, v2, cS, _, y2, ?_, gv3, rfl, h5, ?_, ?_, ?_, ?_⟩, ?_, ?_, ?_⟩, ?_, ?_, ?_⟩
        · exact (((h2.kept0 KC)).kept kv2 fun b hb h => h7 b hb h).kept kX (by simp; rintro b hb rfl; exact h5 hb)
        · intro h; have := hv2b y h; have := hQm y hyQ; omega
        · intro b h h'; have := hv2b b h'; have := hQm b (hvS b h); omega
        · exact (h8.kept kB (by simp) (fun b hb _ => hb)).kept kall (fun b hb => hb.2) (fun b hb _ => ⟨by simp [hb.1], nG b (.inl hb.1) hb.2⟩)
        · refine TxL.snoc ((h9.kept kB (by simp) (fun b hb _ => hb)).kept kall (fun b hb => hb.2) (fun b hb _ => ⟨by simp [hb.1], nG b (.inl hb.1) hb.2⟩)) (gB.rd.kept kall (fun b o n cap s' e => nR b (nB b (by rw [e]; simp [blkOf])))) (fun b hb => ⟨by simp [hb], nG b (.inr hb) (nR b (nB b hb))⟩)
        · intro b hb
          simp only [List.mem_cons, List.mem_append] at hb ⊢
          rcases hb with rfl | hb | hb
          · exact .inl hyQ
          · exact .inl (hvS b hb)
          · exact .inr (.inl hb)
        · intro b hb
          simp only [List.mem_append] at hb
          have := kall.len
          rcases hb with hb | hb | hb
          · have := hQm b hb; omega
          · exact gv3.lt b hb
          · have := ltB b hb; omega
        · exact ⟨hN.nd.1, List.nodup_append.mpr ⟨hN.nd.2, by simp, fun a ha b hb e => by rw [List.mem_singleton] at hb; rw [e, hb] at ha; exact hin ha⟩⟩
        · exact kall.own ozB (fun h => hWQ (hRQ _ h))
        · intro h
          simp only [List.mem_append] at h
          rcases h with h | h | h
          · exact hWQ h
          · have := hv2b _ h; omega
          · have := nB _ h; omega
        · intro b hb
          simp only [List.mem_append] at hb
          rcases hb with hb | hb | hb
          · exact .inl hb
          · have := hv2b b hb; exact .inr (by omega)
          · have := nB b hb; exact .inr (by omega)
      · rintro _ M' ⟨R', Q', hk, hN', hz, hW, hQ⟩
        exact nrsumTail hT _ (posN_none hf).symm (by omega) hk (by rw [addN, if_neg hin]; exact hN') hQ hz hW
end Go.Proofs.Ytodkgembfcddbaa
end
section
/- Names: calls told in a list; the law's helpers. -/
namespace Go.Proofs.Ytodkgembfcddbaa
open Go Go.Adm
set_option linter.unusedSimpArgs false
set_option linter.unusedVariables false
set_option maxRecDepth 100000
/-- A call: its kind, the epoch and number, which answer is taken, the head, the bytes, by what a byte is turned. -/
structure NOp where
  k : Int
  e : Int
  n : Int
  j : Int
  h : List B8
  b : List B8
  w : B8
def opAt (m : Mem) (o : NOp) (c : List AV) : Prop := ∃ h b, c = [.int .i64 o.k, .int .i64 o.e, .int .i64 o.n, .int .i64 o.j, h, b, b8 o.w] ∧ RdB m h o.h ∧ RdB m b o.b
def RdOs (m : Mem) (x : AV) (L : List NOp) : Prop :=
  (x = .nils ∧ L = []) ∨ ∃ b cap s xs, x = .sl b 0 L.length cap s ∧ rowOf m b = some xs ∧ xs.length = L.length * 7 ∧ ∀ (i : Nat) (o : NOp), L[i]? = some o → opAt m o ((xs.drop (i * 7)).take 7)
theorem opAt.kept0 {m m' : Mem} {o : NOp} {c : List AV} (h : opAt m o c) (hk : Kept [] m m') : opAt m' o c := by
  obtain ⟨a, b, h1, h2, h3⟩ := h
  exact ⟨a, b, h1, h2.kept0 hk, h3.kept0 hk⟩
theorem RdOs.kept0 {m m' : Mem} {x : AV} {L : List NOp} (h : RdOs m x L) (hk : Kept [] m m') : RdOs m' x L := by
  rcases h with h | ⟨b, cap, s, xs, h1, h2, h3, h4⟩
  · exact .inl h
  · exact .inr ⟨b, cap, s, xs, h1, hk.row0 h2, h3, fun i o hs => (h4 i o hs).kept0 hk⟩
theorem RdOs.len {m : Mem} {x : AV} {L : List NOp} (h : RdOs m x L) : pLen [x] = some (.int .i64 L.length) := by
  rcases h with ⟨rfl, rfl⟩ | ⟨b, cap, s, _, rfl, _⟩ <;> rfl
theorem get_chunk {xs l : List AV} {k i : Nat} (h : (xs.drop i).take k = l) {j : Nat} (hj : j < k) : xs[i + j]? = l[j]? := by
  rw [← h, List.getElem?_take_of_lt hj, List.getElem?_drop]
theorem ans_nlong {m : Mem} {y : AV} {L : List NOp} (hy : RdOs m y L) :
    Ans Try.prog 9 [y] m fun r m' => ∃ c, r = .bool c ∧ m' = m ∧ (c = false → L.length ≤ 150 ∧ ∀ s ∈ L, s.h.length ≤ 1024 ∧ s.b.length ≤ 4096) := by
  refine ans_ret mixed ok9 ?_
  by_cases h1 : (L.length : Int) > 150
  · simp -implicitDefEqProofs (disch := (first | omega | (simp only [lenB, lowB_len, numB_len, nsumB_len] <;> omega) | fail)) only [admQ, lenB, lowB_len, numB_len, nsumB_len, aFill, AK.cls, implies_true, ↓reduceIte, reduceCtorEq, if_true, if_false, Nat.reduceAdd, Nat.reduceEqDiff, Nat.reduceMod, Nat.reduceLT, Nat.reduceLeDiff, Nat.reduceSub, Nat.reduceMul, Nat.reduceBEq, Int.reduceAdd, Int.reduceSub, Int.reduceMul, Int.reduceNeg, Int.reduceLT, Int.reduceLE, Int.reduceToNat, Int.reduceEq, Int.reduceBEq, c9, r9, hy.len, dec_t h1]
    exact ⟨true, rfl, fun h => by cases h⟩
  · simp -implicitDefEqProofs (disch := (first | omega | (simp only [lenB, lowB_len, numB_len, nsumB_len] <;> omega) | fail)) only [admQ, lenB, lowB_len, numB_len, nsumB_len, aFill, AK.cls, implies_true, ↓reduceIte, reduceCtorEq, if_true, if_false, Nat.reduceAdd, Nat.reduceEqDiff, Nat.reduceMod, Nat.reduceLT, Nat.reduceLeDiff, Nat.reduceSub, Nat.reduceMul, Nat.reduceBEq, Int.reduceAdd, Int.reduceSub, Int.reduceMul, Int.reduceNeg, Int.reduceLT, Int.reduceLE, Int.reduceToNat, Int.reduceEq, Int.reduceBEq, c9, r9, hy.len, dec_f h1]
    refine LoopW.on (fun i : Nat => [(0, y), (3, .int .i64 i)]) (fun i => L.length - i) (fun i M => i ≤ L.length ∧ M = m ∧ ∀ j s, j < i → L[j]? = some s → s.h.length ≤ 1024 ∧ s.b.length ≤ 4096) ?_ 0 _ _ rfl ⟨by simp, rfl, fun i l h => by omega⟩
    rintro i M X ⟨hi, rfl, hj⟩ hX
    by_cases hlt : i < L.length
    · have hlen := hy.len
      rcases hy with ⟨_, rfl⟩ | ⟨bl, cap, sl, xs, rfl, hrow, hhl, hel⟩
      · simp at hlt
      obtain ⟨s, hs⟩ : ∃ s, L[i]? = some s := ⟨_, List.getElem?_eq_getElem hlt⟩
      obtain ⟨h, p, hc, a5, a6⟩ := hel i s hs
      have a3 := get_chunk hc (j := 4) (by omega)
      have a4 := get_chunk hc (j := 5) (by omega)
      simp only [List.getElem?_cons_succ, List.getElem?_cons_zero] at a3 a4
      by_cases b1 : (s.h.length : Int) > 1024
      · simp -implicitDefEqProofs (disch := (first | omega | (simp only [lenB, lowB_len, numB_len, nsumB_len] <;> omega) | fail)) only [admQ, lenB, lowB_len, numB_len, nsumB_len, aFill, AK.cls, implies_true, ↓reduceIte, reduceCtorEq, if_true, if_false, Nat.reduceAdd, Nat.reduceEqDiff, Nat.reduceMod, Nat.reduceLT, Nat.reduceLeDiff, Nat.reduceSub, Nat.reduceMul, Nat.reduceBEq, Int.reduceAdd, Int.reduceSub, Int.reduceMul, Int.reduceNeg, Int.reduceLT, Int.reduceLE, Int.reduceToNat, Int.reduceEq, Int.reduceBEq, hrow, a3, a5.len, dec_t b1]
        exact ⟨true, rfl, fun h => by cases h⟩
      by_cases b2 : (s.b.length : Int) > 4096
      · simp -implicitDefEqProofs (disch := (first | omega | (simp only [lenB, lowB_len, numB_len, nsumB_len] <;> omega) | fail)) only [admQ, lenB, lowB_len, numB_len, nsumB_len, aFill, AK.cls, implies_true, ↓reduceIte, reduceCtorEq, if_true, if_false, Nat.reduceAdd, Nat.reduceEqDiff, Nat.reduceMod, Nat.reduceLT, Nat.reduceLeDiff, Nat.reduceSub, Nat.reduceMul, Nat.reduceBEq, Int.reduceAdd, Int.reduceSub, Int.reduceMul, Int.reduceNeg, Int.reduceLT, Int.reduceLE, Int.reduceToNat, Int.reduceEq, Int.reduceBEq, hrow, a3, a5.len, dec_f b1, a4, a6.len, dec_t b2]
        exact ⟨true, rfl, fun h => by cases h⟩
      · simp -implicitDefEqProofs (disch := (first | omega | (simp only [lenB, lowB_len, numB_len, nsumB_len] <;> omega) | fail)) only [admQ, lenB, lowB_len, numB_len, nsumB_len, aFill, AK.cls, implies_true, ↓reduceIte, reduceCtorEq, if_true, if_false, Nat.reduceAdd, Nat.reduceEqDiff, Nat.reduceMod, Nat.reduceLT, Nat.reduceLeDiff, Nat.reduceSub, Nat.reduceMul, Nat.reduceBEq, Int.reduceAdd, Int.reduceSub, Int.reduceMul, Int.reduceNeg, Int.reduceLT, Int.reduceLE, Int.reduceToNat, Int.reduceEq, Int.reduceBEq, hrow, a3, a5.len, dec_f b1, a4, a6.len, dec_f b2]
        refine hX (i + 1) _ _ rfl (by omega) ⟨by omega, rfl, fun j s' hj2 hs' => ?_⟩
        by_cases hji : j = i
        · subst hji; rw [hs] at hs'; cases hs'; omega
        · exact hj j s' (by omega) hs'
    · obtain rfl : i = L.length := by omega
      simp -implicitDefEqProofs (disch := (first | omega | (simp only [lenB, lowB_len, numB_len, nsumB_len] <;> omega) | fail)) only [admQ, lenB, lowB_len, numB_len, nsumB_len, aFill, AK.cls, implies_true, ↓reduceIte, reduceCtorEq, if_true, if_false, Nat.reduceAdd, Nat.reduceEqDiff, Nat.reduceMod, Nat.reduceLT, Nat.reduceLeDiff, Nat.reduceSub, Nat.reduceMul, Nat.reduceBEq, Int.reduceAdd, Int.reduceSub, Int.reduceMul, Int.reduceNeg, Int.reduceLT, Int.reduceLE, Int.reduceToNat, Int.reduceEq, Int.reduceBEq, hy.len]
      refine ⟨false, rfl, fun _ => ⟨by omega, fun s hs => ?_⟩⟩
      obtain ⟨i, hi⟩ := List.getElem?_of_mem hs
      exact hj i s (lt_of_get hi) hi
theorem ans_npick (k : Int) (n : Nat) (hn : 0 < n) (hn2 : n < 1000000000) (m : Mem) : Ans Try.prog 14 [.int .i64 k, .int .i64 n] m fun r m' => m' = m ∧ ∃ j : Nat, r = .int .i64 j ∧ j < n := by
  refine ans_ret mixed ok14 ?_
  have h1 := Int.tmod_lt_of_pos k (show (0 : Int) < n by omega)
  have h2 : -(n : Int) < k.tmod n := by
    have := Int.tmod_lt_of_pos (-k) (show (0 : Int) < n by omega)
    rw [Int.neg_tmod] at this
    omega
  have h : ¬ (n : Int) < 1 := by omega
  by_cases h3 : k.tmod n < 0
  · simp -implicitDefEqProofs (disch := (first | omega | (simp only [lenB, lowB_len, numB_len, nsumB_len] <;> omega) | fail)) only [admQ, lenB, lowB_len, numB_len, nsumB_len, aFill, AK.cls, implies_true, ↓reduceIte, reduceCtorEq, if_true, if_false, Nat.reduceAdd, Nat.reduceEqDiff, Nat.reduceMod, Nat.reduceLT, Nat.reduceLeDiff, Nat.reduceSub, Nat.reduceMul, Nat.reduceBEq, Int.reduceAdd, Int.reduceSub, Int.reduceMul, Int.reduceNeg, Int.reduceLT, Int.reduceLE, Int.reduceToNat, Int.reduceEq, Int.reduceBEq, c14, r14, dec_f h, ite_some (show ¬ (n : Int) = 0 by omega), dec_t h3]
    exact ⟨(k.tmod n + n).toNat, by congr 1; omega, by omega⟩
  · simp -implicitDefEqProofs (disch := (first | omega | (simp only [lenB, lowB_len, numB_len, nsumB_len] <;> omega) | fail)) only [admQ, lenB, lowB_len, numB_len, nsumB_len, aFill, AK.cls, implies_true, ↓reduceIte, reduceCtorEq, if_true, if_false, Nat.reduceAdd, Nat.reduceEqDiff, Nat.reduceMod, Nat.reduceLT, Nat.reduceLeDiff, Nat.reduceSub, Nat.reduceMul, Nat.reduceBEq, Int.reduceAdd, Int.reduceSub, Int.reduceMul, Int.reduceNeg, Int.reduceLT, Int.reduceLE, Int.reduceToNat, Int.reduceEq, Int.reduceBEq, c14, r14, dec_f h, ite_some (show ¬ (n : Int) = 0 by omega), dec_f h3]
    exact ⟨(k.tmod n).toNat, by congr 1; omega, by omega⟩
theorem ans_nturned {m : Mem} {x : AV} {l : List B8} (w : B8) (hx : RdB m x l) (hl : l.length ≤ 100000) :
    Ans Try.prog 13 [x, b8 w] m fun r m' => Kept [] m m' ∧ ∃ l', l'.length = l.length ∧ RdB m' r l' ∧ ∀ b ∈ blkOf r, m.length ≤ b := by
  refine ans_ret mixed ok13 ?_
  simp -implicitDefEqProofs (disch := (first | omega | (simp only [lenB, lowB_len, numB_len, nsumB_len] <;> omega) | fail)) only [admQ, lenB, lowB_len, numB_len, nsumB_len, aFill, AK.cls, implies_true, ↓reduceIte, reduceCtorEq, if_true, if_false, Nat.reduceAdd, Nat.reduceEqDiff, Nat.reduceMod, Nat.reduceLT, Nat.reduceLeDiff, Nat.reduceSub, Nat.reduceMul, Nat.reduceBEq, Int.reduceAdd, Int.reduceSub, Int.reduceMul, Int.reduceNeg, Int.reduceLT, Int.reduceLE, Int.reduceToNat, Int.reduceEq, Int.reduceBEq, c13, r13]
  refine (ans_copynew hx (by omega)).mono ?_
  rintro r m1 ⟨k1, g1, n1⟩
  by_cases h0 : l = []
  · subst h0
    simp -implicitDefEqProofs (disch := (first | omega | (simp only [lenB, lowB_len, numB_len, nsumB_len] <;> omega) | fail)) only [admQ, lenB, lowB_len, numB_len, nsumB_len, aFill, AK.cls, implies_true, ↓reduceIte, reduceCtorEq, if_true, if_false, Nat.reduceAdd, Nat.reduceEqDiff, Nat.reduceMod, Nat.reduceLT, Nat.reduceLeDiff, Nat.reduceSub, Nat.reduceMul, Nat.reduceBEq, Int.reduceAdd, Int.reduceSub, Int.reduceMul, Int.reduceNeg, Int.reduceLT, Int.reduceLE, Int.reduceToNat, Int.reduceEq, Int.reduceBEq, g1.rd.len]
    exact ⟨k1, [], rfl, g1.rd, n1⟩
  · have hpos : 0 < l.length := List.length_pos_iff.mpr h0
    obtain ⟨b, n, rfl, h1, hn, hb, hlow⟩ := g1.sl (by simpa [bys] using h0)
    have hn : l.length = n := by simpa [bys] using hn
    subst hn
    have hw := gb_get (l := l) (i := l.length - 1) (by omega)
    have e1 : (l.length : Int) - 1 = ((l.length - 1 : Nat) : Int) := by omega
    have e2 := bys_get (l := l) (n := l.length) (i := l.length - 1) rfl (by omega)
    have hsp := splice_byte (l := l) (i := l.length - 1) (x := gb l (l.length - 1) ^^^ w) (by omega)
    simp -implicitDefEqProofs (disch := (first | omega | (simp only [lenB, lowB_len, numB_len, nsumB_len] <;> omega) | fail)) only [admQ, lenB, lowB_len, numB_len, nsumB_len, aFill, AK.cls, implies_true, ↓reduceIte, reduceCtorEq, if_true, if_false, Nat.reduceAdd, Nat.reduceEqDiff, Nat.reduceMod, Nat.reduceLT, Nat.reduceLeDiff, Nat.reduceSub, Nat.reduceMul, Nat.reduceBEq, Int.reduceAdd, Int.reduceSub, Int.reduceMul, Int.reduceNeg, Int.reduceLT, Int.reduceLE, Int.reduceToNat, Int.reduceEq, Int.reduceBEq, g1.rd.len, e1, rowOf_own hb, e2, hb, xor_vv_u8, hsp]
    have hb2 := own_set (own_lt hb) (bys (l.set (l.length - 1) (gb l (l.length - 1) ^^^ w)))
    have hrd := RdB.row (l := l.set (l.length - 1) (gb l (l.length - 1) ^^^ w)) l.length 1 (rowOf_own hb2) (by simp)
    rw [List.length_set] at hrd
    exact ⟨k1.write (.inr hlow) _, _, List.length_set, hrd, n1⟩
theorem ans_spoilgr {m0 : Nat} {m : Mem} {x : AV} {l : List B8} (h : GrB m0 m x l) (hl : l.length < 1152921504606846976) : Ans Try.prog 19 [x] m fun r m' => r = .tup [] ∧ Kept (blkOf x) m m' := by
  rcases h with ⟨h0, rfl | ⟨b, rfl, ho⟩⟩ | ⟨b, n, h1, h2, rfl, ho, h3⟩
  · refine ans_ret mixed ok19 ?_
    simp -implicitDefEqProofs (disch := (first | omega | (simp only [lenB, lowB_len, numB_len, nsumB_len] <;> omega) | fail)) only [admQ, lenB, lowB_len, numB_len, nsumB_len, aFill, AK.cls, implies_true, ↓reduceIte, reduceCtorEq, if_true, if_false, Nat.reduceAdd, Nat.reduceEqDiff, Nat.reduceMod, Nat.reduceLT, Nat.reduceLeDiff, Nat.reduceSub, Nat.reduceMul, Nat.reduceBEq, Int.reduceAdd, Int.reduceSub, Int.reduceMul, Int.reduceNeg, Int.reduceLT, Int.reduceLE, Int.reduceToNat, Int.reduceEq, Int.reduceBEq, c19, r19]
    refine LoopW.on (fun _ : Unit => [(0, .nils), (2, .int .i64 0)]) (fun _ => 0) (fun _ m' => m' = m) ?_ () _ _ rfl rfl
    rintro _ _ X rfl hX
    simp -implicitDefEqProofs (disch := (first | omega | (simp only [lenB, lowB_len, numB_len, nsumB_len] <;> omega) | fail)) only [admQ, lenB, lowB_len, numB_len, nsumB_len, aFill, AK.cls, implies_true, ↓reduceIte, reduceCtorEq, if_true, if_false, Nat.reduceAdd, Nat.reduceEqDiff, Nat.reduceMod, Nat.reduceLT, Nat.reduceLeDiff, Nat.reduceSub, Nat.reduceMul, Nat.reduceBEq, Int.reduceAdd, Int.reduceSub, Int.reduceMul, Int.reduceNeg, Int.reduceLT, Int.reduceLE, Int.reduceToNat, Int.reduceEq, Int.reduceBEq]
    exact .refl _ _
  · exact (ans_spoilbytes (l := []) (cap := 0) (s := 0) ho (by simp)).mono fun r m' ⟨h1, h2⟩ => ⟨h1, h2 ▸ .set1 _ _ _⟩
  · have : l.length = n := by simpa [bys] using h2
    subst this
    exact (ans_spoilbytes ho hl).mono fun r m' ⟨h1, h2⟩ => ⟨h1, h2 ▸ .set1 _ _ _⟩
end Go.Proofs.Ytodkgembfcddbaa
end
section
/- Names: one call, by both. -/
namespace Go.Proofs.Ytodkgembfcddbaa
open Go Go.Adm
set_option linter.unusedSimpArgs false
set_option linter.unusedVariables false
set_option maxRecDepth 100000
theorem kept_over {X Y : List Nat} {M N N' : Mem} (h1 : Kept Y M N) (h2 : Kept X N N') (hx : ∀ q ∈ X, q ∈ Y ∨ M.length ≤ q) : Kept Y M N' :=
  ⟨Nat.le_trans h1.len h2.len, fun q hq hy => by
    rw [h2.eq q (Nat.lt_of_lt_of_le hq h1.len) (fun h => (hx q h).elim hy (fun h => by omega)), h1.eq q hq hy]⟩
/-- Under way: the Names at x, the document's at y, what was sealed at vg; Z, the blocks that are written; V, blocks that hold no answer. -/
structure NrI (M N : Mem) (x y i : Nat) (vg : AV) (Z V : List Nat) : Prop where
  kept : Kept [] M N
  low : ∀ b ∈ Z, M.length ≤ b ∧ b < N.length
  ex : ∃ W R Q S T got cg, Nm N x W S T ∧ RNm N y R Q S T ∧ GrA 1 M.length N vg cg ∧ TxL N (fun b => b ∉ Z ∧ b ∉ V) cg got ∧ Z = W ++ (Q ++ blkOf vg) ∧ Ap W Q ∧ Ap W (blkOf vg) ∧ Ap Q (blkOf vg) ∧
    (S.length ≤ i ∧ T.length ≤ i ∧ got.length ≤ i) ∧ (∀ t ∈ S, t.2.2.1.length ≤ 1024 ∧ t.2.2.2.length ≤ 4096) ∧ (∀ t ∈ T, t.length ≤ 4096) ∧ ∀ g ∈ got, g.length ≤ 4128
theorem NrI.kept_ {M N N' : Mem} {x y i : Nat} {vg : AV} {Z V X : List Nat} (h : NrI M N x y i vg Z V) (hk : Kept X N N') (hX : ∀ b ∈ X, b ∈ V ∧ b ∉ Z ∧ M.length ≤ b) : NrI M N' x y i vg Z V := by
  obtain ⟨W, R, Q, S, T, got, cg, h1, h2, h3, h4, rfl, h6, h7, h8, h9⟩ := h.ex
  refine ⟨kept_over h.kept hk fun q hq => .inr (hX q hq).2.2, fun b hb => ⟨(h.low b hb).1, Nat.lt_of_lt_of_le (h.low b hb).2 hk.len⟩, W, R, Q, S, T, got, cg, ?_, ?_, ?_, ?_, rfl, h6, h7, h8, h9⟩
  · exact h1.kept hk fun b hb hx => (hX b hx).2.1 (by simp [hb])
  · exact h2.kept hk fun b hb hx => (hX b hx).2.1 (by simp [hb])
  · exact h3.kept hk fun b hb hx => (hX b hx).2.1 (by simp [hb])
  · exact h4.kept hk (fun b hb hx => hb.2 (hX b hx).1) fun b hb _ => hb
theorem NrI.kept0 {M N N' : Mem} {x y i : Nat} {vg : AV} {Z V : List Nat} (h : NrI M N x y i vg Z V) (hk : Kept [] N N') : NrI M N' x y i vg Z V := h.kept_ hk (by simp)
theorem NrI.vol {M N : Mem} {x y i : Nat} {vg : AV} {Z V V' : List Nat} (h : NrI M N x y i vg Z V) (hV : ∀ b ∈ V', b ∈ V ∨ N.length ≤ b) : NrI M N x y i vg Z V' := by
  obtain ⟨W, R, Q, S, T, got, cg, h1, h2, h3, h4, h5⟩ := h.ex
  refine ⟨h.kept, h.low, W, R, Q, S, T, got, cg, h1, h2, h3, ?_, h5⟩
  exact h4.kept (X := []) (.refl _ _) (by simp) fun b hb hl => ⟨hb.1, fun hv => (hV b hv).elim hb.2 fun h => by omega⟩
theorem lent_rd {m : Mem} {p : Nat} {l : List B8} (h : own m p = some (bys (lent l))) : RdB m (.sl p 0 (l.length + 5) (l.length + 5) 0) (lent l) ∧ RdB m (.sl p 0 l.length (l.length + 5) 0) l := by
  have h1 := RdB.row (m := m) (l := lent l) (l.length + 5) 0 (rowOf_own h) (by rw [lent_len]; exact Nat.le_refl _)
  rw [lent_len] at h1
  have h2 := h1.take (k := l.length) (by omega)
  rw [lent_take] at h2
  exact ⟨h1, h2⟩
theorem nrTail {N : Mem} {x3 x4 vg xL x6 hx x8 : AV} {c : List AV} {p7 p9 p10 : Nat} {head b' : List B8} {Q : Exit → AFr → Mem → Prop}
    (hbox : own N p7 = some c) (hc : c[4]? = some hx) (hh : RdB N hx head) (h8 : RdB N x8 b') (hl : head.length ≤ 1024 ∧ b'.length ≤ 5000) (o9 : own N p9 = some (bys (lent head))) (o10 : own N p10 = some (bys (lent b'))) (hne : p9 ≠ p10) (hh9 : p9 ∉ blkOf hx)
    (hQ : ∀ N', Kept [p9, p10] N N' → Q .normal [(0, xL), (3, x3), (4, x4), (5, vg), (6, x6)] N') :
    wpA Try.prog d3_15 [(0, xL), (3, x3), (4, x4), (5, vg), (6, x6), (7, .ptr p7 0), (8, x8), (9, .sl p9 0 (head.length + 5) (head.length + 5) 0), (10, .sl p10 0 (b'.length + 5) (b'.length + 5) 0)] N (seqK Try.prog d3_16 Q) := by
  have r9 := lent_rd o9
  have r10 := lent_rd o10
  simp -implicitDefEqProofs (disch := (first | omega | (simp only [lenB, lowB_len, numB_len, nsumB_len] <;> omega) | fail)) only [admQ, lenB, lowB_len, numB_len, nsumB_len, aFill, AK.cls, implies_true, ↓reduceIte, reduceCtorEq, if_true, if_false, Nat.reduceAdd, Nat.reduceEqDiff, Nat.reduceMod, Nat.reduceLT, Nat.reduceLeDiff, Nat.reduceSub, Nat.reduceMul, Nat.reduceBEq, Int.reduceAdd, Int.reduceSub, Int.reduceMul, Int.reduceNeg, Int.reduceLT, Int.reduceLE, Int.reduceToNat, Int.reduceEq, Int.reduceBEq, d3_15, rowOf_own hbox, hc]
  refine (ans_keptbytes r9.1 hh (by omega)).mono ?_
  rintro _ N1 ⟨rfl, hM⟩
  subst hM
  simp -implicitDefEqProofs (disch := (first | omega | (simp only [lenB, lowB_len, numB_len, nsumB_len] <;> omega) | fail)) only [admQ, lenB, lowB_len, numB_len, nsumB_len, aFill, AK.cls, implies_true, ↓reduceIte, reduceCtorEq, if_true, if_false, Nat.reduceAdd, Nat.reduceEqDiff, Nat.reduceMod, Nat.reduceLT, Nat.reduceLeDiff, Nat.reduceSub, Nat.reduceMul, Nat.reduceBEq, Int.reduceAdd, Int.reduceSub, Int.reduceMul, Int.reduceNeg, Int.reduceLT, Int.reduceLE, Int.reduceToNat, Int.reduceEq, Int.reduceBEq, beq_self_eq_true, Bool.not_true]
  refine (ans_keptbytes r10.1 h8 (by omega)).mono ?_
  rintro _ N1 ⟨rfl, hM⟩
  subst hM
  simp -implicitDefEqProofs (disch := (first | omega | (simp only [lenB, lowB_len, numB_len, nsumB_len] <;> omega) | fail)) only [admQ, lenB, lowB_len, numB_len, nsumB_len, aFill, AK.cls, implies_true, ↓reduceIte, reduceCtorEq, if_true, if_false, Nat.reduceAdd, Nat.reduceEqDiff, Nat.reduceMod, Nat.reduceLT, Nat.reduceLeDiff, Nat.reduceSub, Nat.reduceMul, Nat.reduceBEq, Int.reduceAdd, Int.reduceSub, Int.reduceMul, Int.reduceNeg, Int.reduceLT, Int.reduceLE, Int.reduceToNat, Int.reduceEq, Int.reduceBEq, beq_self_eq_true, Bool.not_true, d3_16]
  have hs9 := ans_spoilbytes (cap := head.length + 5) (s := 0) o9 (by rw [lent_len]; omega)
  rw [lent_len] at hs9
  refine hs9.mono ?_
  rintro _ N1 ⟨rfl, hM⟩
  subst hM
  simp -implicitDefEqProofs (disch := (first | omega | (simp only [lenB, lowB_len, numB_len, nsumB_len] <;> omega) | fail)) only [admQ, lenB, lowB_len, numB_len, nsumB_len, aFill, AK.cls, implies_true, ↓reduceIte, reduceCtorEq, if_true, if_false, Nat.reduceAdd, Nat.reduceEqDiff, Nat.reduceMod, Nat.reduceLT, Nat.reduceLeDiff, Nat.reduceSub, Nat.reduceMul, Nat.reduceBEq, Int.reduceAdd, Int.reduceSub, Int.reduceMul, Int.reduceNeg, Int.reduceLT, Int.reduceLE, Int.reduceToNat, Int.reduceEq, Int.reduceBEq]
  have k9 := Kept.set1 N1 p9 (.row (bys (spoil (lent head))) false)
  have hs10 := ans_spoilbytes (cap := b'.length + 5) (s := 0) (k9.own o10 (by simpa using hne.symm)) (by rw [lent_len]; omega)
  rw [lent_len] at hs10
  refine hs10.mono ?_
  rintro _ N2 ⟨rfl, hM⟩
  subst hM
  simp -implicitDefEqProofs (disch := (first | omega | (simp only [lenB, lowB_len, numB_len, nsumB_len] <;> omega) | fail)) only [admQ, lenB, lowB_len, numB_len, nsumB_len, aFill, AK.cls, implies_true, ↓reduceIte, reduceCtorEq, if_true, if_false, Nat.reduceAdd, Nat.reduceEqDiff, Nat.reduceMod, Nat.reduceLT, Nat.reduceLeDiff, Nat.reduceSub, Nat.reduceMul, Nat.reduceBEq, Int.reduceAdd, Int.reduceSub, Int.reduceMul, Int.reduceNeg, Int.reduceLT, Int.reduceLE, Int.reduceToNat, Int.reduceEq, Int.reduceBEq]
  exact hQ _ ((k9.more fun q hq _ => by simp at hq; simp [hq]).trans ((Kept.set1 _ p10 _).more fun q hq _ => by simp at hq; simp [hq]))
theorem sealS2_all {S : List Sd} {s : Sd} {p : Sd → Prop} (h : ∀ t ∈ S, p t) (hs : p s) : ∀ t ∈ sealS2 S s, p t := by
  unfold sealS2
  split
  · unfold addN
    split
    · exact h
    · intro t ht
      rcases List.mem_append.mp ht with ht | ht
      · exact h t ht
      · rw [List.mem_singleton.mp ht]; exact hs
  · exact h
theorem addN_all {α : Type} [DecidableEq α] {S : List α} {s : α} {p : α → Prop} (h : ∀ t ∈ S, p t) (hs : p s) : ∀ t ∈ addN s S, p t := by
  unfold addN
  split
  · exact h
  · intro t ht
    rcases List.mem_append.mp ht with ht | ht
    · exact h t ht
    · rw [List.mem_singleton.mp ht]; exact hs
open Classical in
noncomputable def nopL (S : List Sd) (e n : Int) (head b : List B8) : List B8 := if nopenP S e n head b then b.take (b.length - 32) else []
open Classical in
noncomputable def nopO (S : List Sd) (e n : Int) (head b : List B8) : Bool := decide (nopenP S e n head b)
theorem nopL_le (S : List Sd) (e n : Int) (head b : List B8) : (nopL S e n head b).length ≤ b.length := by
  unfold nopL; split
  · simp
  · simp
open Classical in
theorem nop_both {S : List Sd} {e n : Int} {head b : List B8} {k : Nat} {r : AV} {m' : Mem} (h1 : nopenP S e n head b → ∃ v, r = .tup [v, .bool true] ∧ GrB k m' v (b.take (b.length - 32)) ∧ ∀ q ∈ blkOf v, k ≤ q) (h2 : ¬ nopenP S e n head b → r = .tup [.nils, .bool false]) :
    ∃ v, r = .tup [v, .bool (nopO S e n head b)] ∧ GrB k m' v (nopL S e n head b) ∧ ∀ q ∈ blkOf v, k ≤ q := by
  unfold nopL nopO
  by_cases hp : nopenP S e n head b
  · obtain ⟨v, rfl, g, hv⟩ := h1 hp
    exact ⟨v, by rw [decide_eq_true hp], by rw [if_pos hp]; exact g, hv⟩
  · exact ⟨.nils, by rw [h2 hp, decide_eq_false hp], by rw [if_neg hp]; exact .nils .., by simp [blkOf]⟩
theorem NrI.next {M N : Mem} {x y i : Nat} {vg : AV} {Z V : List Nat} (h : NrI M N x y i vg Z V) : NrI M N x y (i + 1) vg Z V := by
  obtain ⟨W, R, Q, S, T, got, cg, h1, h2, h3, h4, h5, h6, h7, h8, h9, h10⟩ := h.ex
  exact ⟨h.kept, h.low, W, R, Q, S, T, got, cg, h1, h2, h3, h4, h5, h6, h7, h8, ⟨by omega, by omega, by omega⟩, h10⟩
theorem nrBody {M N : Mem} {x y i p7 : Nat} {vg xL hx bx x8 : AV} {Z : List Nat} {o : NOp} {b' : List B8} {Q : Exit → AFr → Mem → Prop}
    (hI : NrI M N x y i vg Z []) (hi : i < 150) (hbox : own N p7 = some [.int .i64 o.k, .int .i64 o.e, .int .i64 o.n, .int .i64 o.j, hx, bx, b8 o.w]) (h7 : p7 ∉ Z) (hh : RdB N hx o.h) (hhm : ∀ b ∈ blkOf hx, b < M.length)
    (hl : o.h.length ≤ 1024) (h8 : RdB N x8 b') (h8Z : ∀ b ∈ blkOf x8, b ∉ Z) (hl8 : b'.length ≤ 5000 ∧ (o.k ≠ 3 → b'.length ≤ 4096))
    (hQ : ∀ N' vg' Z', NrI M N' x y (i + 1) vg' Z' [] → Q .normal [(0, xL), (3, .ptr x 0), (4, .ptr y 0), (5, vg'), (6, .int .i64 i)] N') :
    wpA Try.prog d3_8 [(0, xL), (3, .ptr x 0), (4, .ptr y 0), (5, vg), (6, .int .i64 i), (7, .ptr p7 0), (8, x8)] N Q := by
  simp -implicitDefEqProofs (disch := (first | omega | (simp only [lenB, lowB_len, numB_len, nsumB_len] <;> omega) | fail)) only [admQ, lenB, lowB_len, numB_len, nsumB_len, aFill, AK.cls, implies_true, ↓reduceIte, reduceCtorEq, if_true, if_false, Nat.reduceAdd, Nat.reduceEqDiff, Nat.reduceMod, Nat.reduceLT, Nat.reduceLeDiff, Nat.reduceSub, Nat.reduceMul, Nat.reduceBEq, Int.reduceAdd, Int.reduceSub, Int.reduceMul, Int.reduceNeg, Int.reduceLT, Int.reduceLE, Int.reduceToNat, Int.reduceEq, Int.reduceBEq, d3_8, rowOf_own hbox]
  refine (ans_lentbytes hh (by omega)).mono ?_
  rintro _ N1 ⟨p9, rfl, k1, hp9, o9⟩
  simp -implicitDefEqProofs (disch := (first | omega | (simp only [lenB, lowB_len, numB_len, nsumB_len] <;> omega) | fail)) only [admQ, lenB, lowB_len, numB_len, nsumB_len, aFill, AK.cls, implies_true, ↓reduceIte, reduceCtorEq, if_true, if_false, Nat.reduceAdd, Nat.reduceEqDiff, Nat.reduceMod, Nat.reduceLT, Nat.reduceLeDiff, Nat.reduceSub, Nat.reduceMul, Nat.reduceBEq, Int.reduceAdd, Int.reduceSub, Int.reduceMul, Int.reduceNeg, Int.reduceLT, Int.reduceLE, Int.reduceToNat, Int.reduceEq, Int.reduceBEq]
  refine (ans_lentbytes (h8.kept0 k1) (by omega)).mono ?_
  rintro _ N2 ⟨p10, rfl, k2, hp10, o10⟩
  have K2 := k1.trans k2
  have b2 := K2.own hbox (by simp)
  have h9lt := own_lt o9
  have h10lt := own_lt o10
  have o92 := k2.own o9 (by simp)
  have I2 : NrI M N2 x y i vg Z [p9, p10] := (hI.vol (V' := [p9, p10]) (by simp; have := k1.len; omega)).kept0 K2
  have hhM : M.length ≤ N.length := hI.kept.len
  have hZN : ∀ b ∈ Z, b < N.length := fun b hb => (hI.low b hb).2
  have hh2 := hh.kept0 K2
  have h82 := h8.kept0 K2
  have h7lt := own_lt hbox
  have hk1 := k1.len
  have hk2 := k2.len
  have r9 := (lent_rd o92).2
  have r10 := (lent_rd o10).2
  have n9 : p9 ∉ Z := fun h => by have := hZN _ h; omega
  have n10 : p10 ∉ Z := fun h => by have := hZN _ h; omega
  have hxZ : ∀ b ∈ blkOf hx, b ∉ Z := fun b hb h => by have := hhm b hb; have := (hI.low b h).1; omega
  have tail : ∀ (N' : Mem) (vg' : AV) (Z' : List Nat), NrI M N' x y (i + 1) vg' Z' [p9, p10] → Kept Z N2 N' → (∀ b ∈ Z', b ∈ Z ∨ N2.length ≤ b) →
      wpA Try.prog d3_15 [(0, xL), (3, .ptr x 0), (4, .ptr y 0), (5, vg'), (6, .int .i64 i), (7, .ptr p7 0), (8, x8), (9, .sl p9 0 (o.h.length + 5) (o.h.length + 5) 0), (10, .sl p10 0 (b'.length + 5) (b'.length + 5) 0)] N' (seqK Try.prog d3_16 Q) := by
    intro N' vg' Z' hI' hk hZ'
    refine nrTail (hk.own b2 h7) rfl (hh2.kept hk fun b o n cap s e => hxZ b (by rw [e]; simp [blkOf])) (h82.kept hk fun b o n cap s e => h8Z b (by rw [e]; simp [blkOf])) ⟨hl, hl8.1⟩ (hk.own o92 n9) (hk.own o10 n10) (by omega) (fun h => by have := hhm _ h; omega) fun N3 hk3 => hQ _ vg' Z' ?_
    refine (hI'.kept_ hk3 fun q hq => ?_).vol (by simp)
    have nz : ∀ q, q ∉ Z → q < N2.length → q ∉ Z' := fun q h1 h2 h => (hZ' q h).elim h1 fun h => by omega
    simp only [List.mem_cons, List.not_mem_nil, or_false] at hq
    rcases hq with rfl | rfl
    · exact ⟨by simp, nz _ n9 (by omega), by omega⟩
    · exact ⟨by simp, nz _ n10 (by omega), by omega⟩
  obtain ⟨W, R, Q', S, T, got, cg, g1, g2, g3, g4, hZ, aWQ, aWv, aQv, gl, gS, gT, gg⟩ := I2.ex
  have hWZ : ∀ b ∈ W, b ∈ Z := fun b hb => by rw [hZ]; simp [hb]
  have hQZ : ∀ b ∈ Q', b ∈ Z := fun b hb => by rw [hZ]; simp [hb]
  have hvZ : ∀ b ∈ blkOf vg, b ∈ Z := fun b hb => by rw [hZ]; simp [hb]
  by_cases k0 : o.k = 0
  · have hb4 := hl8.2 (by omega)
    simp -implicitDefEqProofs (disch := (first | omega | (simp only [lenB, lowB_len, numB_len, nsumB_len] <;> omega) | fail)) only [admQ, lenB, lowB_len, numB_len, nsumB_len, aFill, AK.cls, implies_true, ↓reduceIte, reduceCtorEq, if_true, if_false, Nat.reduceAdd, Nat.reduceEqDiff, Nat.reduceMod, Nat.reduceLT, Nat.reduceLeDiff, Nat.reduceSub, Nat.reduceMul, Nat.reduceBEq, Int.reduceAdd, Int.reduceSub, Int.reduceMul, Int.reduceNeg, Int.reduceLT, Int.reduceLE, Int.reduceToNat, Int.reduceEq, Int.reduceBEq, rowOf_own b2, beq_iff_eq.mpr k0, hh2.len, h82.len]
    refine (ans_nseal2 (s := (o.e, o.n, o.h, b')) g1 r9 r10 (by simp only [Ap, blkOf, List.mem_singleton]; rintro b rfl h; exact n10 (hWZ _ h)) (by omega) ⟨Nat.le_trans hl (by omega), Nat.le_trans hb4 (by omega)⟩).mono ?_
    rintro r1 N3 ⟨W', kS, g1', hW', gr1, ap1, bl1⟩
    have b3 := kS.own b2 (fun h => h7 (hWZ _ h))
    have hk3 := kS.len
    have hQ2 : ∀ b ∈ Q', b < N2.length := g2.lt
    have hR2 : ∀ b ∈ R, b ∈ Q' := g2.sub
    simp -implicitDefEqProofs (disch := (first | omega | (simp only [lenB, lowB_len, numB_len, nsumB_len] <;> omega) | fail)) only [admQ, lenB, lowB_len, numB_len, nsumB_len, aFill, AK.cls, implies_true, ↓reduceIte, reduceCtorEq, if_true, if_false, Nat.reduceAdd, Nat.reduceEqDiff, Nat.reduceMod, Nat.reduceLT, Nat.reduceLeDiff, Nat.reduceSub, Nat.reduceMul, Nat.reduceBEq, Int.reduceAdd, Int.reduceSub, Int.reduceMul, Int.reduceNeg, Int.reduceLT, Int.reduceLE, Int.reduceToNat, Int.reduceEq, Int.reduceBEq, rowOf_own b3]
    refine (ans_nrseal (s := (o.e, o.n, o.h, b')) (g2.kept kS fun b hb h => aWQ b h hb) (hh2.kept kS fun b o n cap s e h => hxZ b (by rw [e]; simp [blkOf]) (hWZ _ h)) (h82.kept kS fun b o n cap s e h => h8Z b (by rw [e]; simp [blkOf]) (hWZ _ h)) (fun b hb h => h8Z b hb (hQZ _ h)) (by omega) ⟨Nat.le_trans hl (by omega), Nat.le_trans hb4 (by omega)⟩ (fun t ht => ⟨Nat.le_trans (gS t ht).1 (by omega), Nat.le_trans (gS t ht).2 (by omega)⟩)).mono ?_
    rintro r2 N4 ⟨R', Q2, kR, g2', hQ2', gr2, bl2⟩
    have hk4 := kR.len
    have gr14 := gr1.kept kR fun b hb h => by have := (bl1 b hb).1; have := hQ2 b (hR2 b h); omega
    have hsl := sealR_len S (o.e, o.n, o.h, b')
    simp only at hsl
    simp -implicitDefEqProofs (disch := (first | omega | (simp only [lenB, lowB_len, numB_len, nsumB_len] <;> omega) | fail)) only [admQ, lenB, lowB_len, numB_len, nsumB_len, aFill, AK.cls, implies_true, ↓reduceIte, reduceCtorEq, if_true, if_false, Nat.reduceAdd, Nat.reduceEqDiff, Nat.reduceMod, Nat.reduceLT, Nat.reduceLeDiff, Nat.reduceSub, Nat.reduceMul, Nat.reduceBEq, Int.reduceAdd, Int.reduceSub, Int.reduceMul, Int.reduceNeg, Int.reduceLT, Int.reduceLE, Int.reduceToNat, Int.reduceEq, Int.reduceBEq, d3_9]
    refine (ans_samebytes gr14.rd gr2.rd (by omega)).mono ?_
    rintro _ MM ⟨rfl, hM⟩
    subst hM
    simp -implicitDefEqProofs (disch := (first | omega | (simp only [lenB, lowB_len, numB_len, nsumB_len] <;> omega) | fail)) only [admQ, lenB, lowB_len, numB_len, nsumB_len, aFill, AK.cls, implies_true, ↓reduceIte, reduceCtorEq, if_true, if_false, Nat.reduceAdd, Nat.reduceEqDiff, Nat.reduceMod, Nat.reduceLT, Nat.reduceLeDiff, Nat.reduceSub, Nat.reduceMul, Nat.reduceBEq, Int.reduceAdd, Int.reduceSub, Int.reduceMul, Int.reduceNeg, Int.reduceLT, Int.reduceLE, Int.reduceToNat, Int.reduceEq, Int.reduceBEq, beq_self_eq_true, Bool.not_true, (gr_one gr2).1, (gr_one gr2).2, d3_10]
    have kC := Kept.app [] MM [Blk.row [r2] false]
    have hvQ : ∀ b ∈ blkOf vg, b ∉ R := fun b hb h => aQv b (hR2 b h) hb
    have g34 := (g3.kept kS fun b hb h => aWv b h hb).kept kR hvQ
    obtain ⟨v2, N5, e2, gv2, kv2, av2, nv2⟩ := GrA.pushs5 (bytes := 24) (k := 1) (y := .sl MM.length 0 1 1 0) (l2 := [r2]) (g34.kept0 kC) (by omega) (elemsS_one MM rfl) rfl rfl (by have := g4.1; omega) (by rw [List.length_append]; omega)
    refine someW_eq e2 ?_
    simp -implicitDefEqProofs (disch := (first | omega | (simp only [lenB, lowB_len, numB_len, nsumB_len] <;> omega) | fail)) only [admQ, lenB, lowB_len, numB_len, nsumB_len, aFill, AK.cls, implies_true, ↓reduceIte, reduceCtorEq, if_true, if_false, Nat.reduceAdd, Nat.reduceEqDiff, Nat.reduceMod, Nat.reduceLT, Nat.reduceLeDiff, Nat.reduceSub, Nat.reduceMul, Nat.reduceBEq, Int.reduceAdd, Int.reduceSub, Int.reduceMul, Int.reduceNeg, Int.reduceLT, Int.reduceLE, Int.reduceToNat, Int.reduceEq, Int.reduceBEq]
    refine (ans_spoilgr ((gr14.kept0 kC).kept kv2 fun b hb h => by have := (bl1 b hb).1; have := g3.lt b h; omega) (by omega)).mono ?_
    rintro _ N6 ⟨rfl, k6⟩
    simp -implicitDefEqProofs (disch := (first | omega | (simp only [lenB, lowB_len, numB_len, nsumB_len] <;> omega) | fail)) only [admQ, lenB, lowB_len, numB_len, nsumB_len, aFill, AK.cls, implies_true, ↓reduceIte, reduceCtorEq, if_true, if_false, Nat.reduceAdd, Nat.reduceEqDiff, Nat.reduceMod, Nat.reduceLT, Nat.reduceLeDiff, Nat.reduceSub, Nat.reduceMul, Nat.reduceBEq, Int.reduceAdd, Int.reduceSub, Int.reduceMul, Int.reduceNeg, Int.reduceLT, Int.reduceLE, Int.reduceToNat, Int.reduceEq, Int.reduceBEq]
    have hvN : ∀ b ∈ blkOf vg, b < N2.length := g3.lt
    have hv2 : ∀ b ∈ blkOf v2, MM.length < b := fun b hb => by have := nv2 (by omega) b hb; rw [List.length_append] at this; simp at this; omega
    have hW3 : ∀ b ∈ W', b < N3.length := g1'.lt
    have hQ4 : ∀ b ∈ Q2, b < MM.length := g2'.lt
    have hr4 := gr2.lt
    have hv5 := gv2.lt
    have k6l := k6.len
    have hCl : (MM ++ [Blk.row [r2] false]).length = MM.length + 1 := by simp
    have k5l := kv2.len
    have kall0 : Kept Z N2 N5 := (((kS.more fun q hq _ => hWZ q hq).trans (kR.more fun q hq _ => hQZ q (hR2 q hq))).trans (kC.more (by simp))).trans (kv2.more fun q hq _ => hvZ q hq)
    have kall : Kept Z N2 N6 := kept_over kall0 k6 fun q hq => .inr (bl1 q hq).1
    have aW'Q2 : Ap W' Q2 := fun b hb1 hb2 => by
      have := hW3 b hb1
      rcases hQ2' b hb2 with h | h
      · rcases hW' b hb1 with h' | h'
        · exact aWQ b h' h
        · have := hQ2 b h; omega
      · omega
    have aW'vg : ∀ b ∈ W', b ∉ blkOf vg := fun b hb h => by
      rcases hW' b hb with h' | h'
      · exact aWv b h' h
      · have := hvN b h; omega
    have aQ2vg : ∀ b ∈ Q2, b ∉ blkOf vg := fun b hb h => by
      rcases hQ2' b hb with h' | h'
      · exact aQv b h' h
      · have := hvN b h; omega
    have aW'R : ∀ b ∈ W', b ∉ R := fun b hb h => by
      rcases hW' b hb with h' | h'
      · exact aWQ b h' (hR2 b h)
      · have := hQ2 b (hR2 b h); omega
    have aQ2r : ∀ b ∈ Q2, b ∉ blkOf r1 := fun b hb h => by
      have := bl1 b h
      rcases hQ2' b hb with h' | h'
      · have := hQ2 b h'; omega
      · omega
    have new : ∀ b, b ∈ W' ++ (Q2 ++ blkOf v2) → b ∈ Z ∨ N2.length ≤ b := fun b hb => by
      simp only [List.mem_append] at hb
      rcases hb with hb | hb | hb
      · exact (hW' b hb).imp (hWZ b) id
      · exact (hQ2' b hb).imp (hQZ b) fun h => by omega
      · have := hv2 b hb; exact .inr (by omega)
    refine tail N6 v2 (W' ++ (Q2 ++ blkOf v2)) ⟨kept_over I2.kept kall fun q hq => .inr (hI.low q hq).1, fun b hb => ⟨?_, ?_⟩, W', R', Q2, sealS2 S (o.e, o.n, o.h, b'), T, got ++ [sealR S (o.e, o.n, o.h, b')], cg ++ [r2], ?_, ?_, ?_, TxL.snoc ?_ ?_ ?_, rfl, aW'Q2, ?_, ?_, ⟨?_, ?_, ?_⟩, ?_, gT, ?_⟩ kall new
    · rcases new b hb with h | h
      · exact (hI.low b h).1
      · omega
    · simp only [List.mem_append] at hb
      rcases hb with hb | hb | hb
      · have := hW3 b hb; omega
      · have := hQ4 b hb; omega
      · have := hv5 b hb; omega
    · exact (((g1'.kept kR aW'R).kept0 kC).kept kv2 aW'vg).kept k6 fun b hb h => ap1 b h hb
    · exact ((g2'.kept0 kC).kept kv2 aQ2vg).kept k6 aQ2r
    · exact gv2.kept k6 fun b hb h => by have := hv2 b hb; have := (bl1 b h).2; omega
    · exact g4.kept kall (fun b hb => hb.1) fun b hb hlt => ⟨fun h => (new b h).elim hb.1 fun h => by omega, hb.2⟩
    · exact ((gr2.kept0 kC).kept kv2 fun b hb h => by have := (bl2 b hb).1; have := hvN b h; omega).kept k6 (fun b hb h => by have := (bl2 b hb).1; have := (bl1 b h).2; omega) |>.rd
    · intro b hb
      have h1 := bl2 b hb
      have h2 := hr4 b hb
      refine ⟨fun h => ?_, fun h => ?_⟩
      · simp only [List.mem_append] at h
        rcases h with h | h | h
        · have := hW3 b h; omega
        · exact h1.2 h
        · have := hv2 b h; omega
      · simp only [List.mem_cons, List.not_mem_nil, or_false] at h
        omega
    · exact fun b hb h => by have := hv2 b h; have := hW3 b hb; omega
    · exact fun b hb h => by have := hv2 b h; have := hQ4 b hb; omega
    · have := sealS2_len S (o.e, o.n, o.h, b'); omega
    · omega
    · rw [List.length_append, List.length_singleton]; omega
    · exact sealS2_all gS ⟨hl, hb4⟩
    · intro g hg
      rcases List.mem_append.mp hg with hg | hg
      · exact gg g hg
      · rw [List.mem_singleton.mp hg]; omega
  · have opn : wpA Try.prog d3_12 [(0, xL), (3, .ptr x 0), (4, .ptr y 0), (5, vg), (6, .int .i64 i), (7, .ptr p7 0), (8, x8), (9, .sl p9 0 (o.h.length + 5) (o.h.length + 5) 0), (10, .sl p10 0 (b'.length + 5) (b'.length + 5) 0), (59, .int .i64 o.k), (96, .bool true)] N2 (blockQ 2 (seqK Try.prog (d3_15.seq d3_16) Q)) := by
      simp -implicitDefEqProofs (disch := (first | omega | (simp only [lenB, lowB_len, numB_len, nsumB_len] <;> omega) | fail)) only [admQ, lenB, lowB_len, numB_len, nsumB_len, aFill, AK.cls, implies_true, ↓reduceIte, reduceCtorEq, if_true, if_false, Nat.reduceAdd, Nat.reduceEqDiff, Nat.reduceMod, Nat.reduceLT, Nat.reduceLeDiff, Nat.reduceSub, Nat.reduceMul, Nat.reduceBEq, Int.reduceAdd, Int.reduceSub, Int.reduceMul, Int.reduceNeg, Int.reduceLT, Int.reduceLE, Int.reduceToNat, Int.reduceEq, Int.reduceBEq, d3_12, rowOf_own b2, hh2.len, h82.len]
      refine (ans_nopen (e := o.e) (n := o.n) g1 r9 r10 (by omega) ⟨by omega, by omega⟩).mono ?_
      rintro r N3 ⟨kO, u1, u2⟩
      obtain ⟨v, rfl, gv, nv⟩ := nop_both u1 u2
      have b3 := kO.own b2 (by simp)
      simp -implicitDefEqProofs (disch := (first | omega | (simp only [lenB, lowB_len, numB_len, nsumB_len] <;> omega) | fail)) only [admQ, lenB, lowB_len, numB_len, nsumB_len, aFill, AK.cls, implies_true, ↓reduceIte, reduceCtorEq, if_true, if_false, Nat.reduceAdd, Nat.reduceEqDiff, Nat.reduceMod, Nat.reduceLT, Nat.reduceLeDiff, Nat.reduceSub, Nat.reduceMul, Nat.reduceBEq, Int.reduceAdd, Int.reduceSub, Int.reduceMul, Int.reduceNeg, Int.reduceLT, Int.reduceLE, Int.reduceToNat, Int.reduceEq, Int.reduceBEq, rowOf_own b3]
      refine (ans_nropen (e := o.e) (n := o.n) (g2.kept0 kO) (hh2.kept0 kO) (h82.kept0 kO) (by omega) ⟨by omega, by omega⟩ (fun t ht => ⟨Nat.le_trans (gS t ht).1 (by omega), Nat.le_trans (gS t ht).2 (by omega)⟩)).mono ?_
      rintro r N4 ⟨kP, u1, u2⟩
      obtain ⟨v', rfl, gv', nv'⟩ := nop_both u1 u2
      have hll := nopL_le S o.e o.n o.h b'
      have gv4 := gv.kept0 kP
      simp -implicitDefEqProofs (disch := (first | omega | (simp only [lenB, lowB_len, numB_len, nsumB_len] <;> omega) | fail)) only [admQ, lenB, lowB_len, numB_len, nsumB_len, aFill, AK.cls, implies_true, ↓reduceIte, reduceCtorEq, if_true, if_false, Nat.reduceAdd, Nat.reduceEqDiff, Nat.reduceMod, Nat.reduceLT, Nat.reduceLeDiff, Nat.reduceSub, Nat.reduceMul, Nat.reduceBEq, Int.reduceAdd, Int.reduceSub, Int.reduceMul, Int.reduceNeg, Int.reduceLT, Int.reduceLE, Int.reduceToNat, Int.reduceEq, Int.reduceBEq, d3_13, beq_self_eq_true, Bool.not_true]
      refine (ans_samebytes gv4.rd gv'.rd (by omega)).mono ?_
      rintro _ MM ⟨rfl, hM⟩
      subst hM
      simp -implicitDefEqProofs (disch := (first | omega | (simp only [lenB, lowB_len, numB_len, nsumB_len] <;> omega) | fail)) only [admQ, lenB, lowB_len, numB_len, nsumB_len, aFill, AK.cls, implies_true, ↓reduceIte, reduceCtorEq, if_true, if_false, Nat.reduceAdd, Nat.reduceEqDiff, Nat.reduceMod, Nat.reduceLT, Nat.reduceLeDiff, Nat.reduceSub, Nat.reduceMul, Nat.reduceBEq, Int.reduceAdd, Int.reduceSub, Int.reduceMul, Int.reduceNeg, Int.reduceLT, Int.reduceLE, Int.reduceToNat, Int.reduceEq, Int.reduceBEq, d3_14, beq_self_eq_true, Bool.not_true]
      refine (ans_spoilgr gv4 (by omega)).mono ?_
      rintro _ N5 ⟨rfl, k5⟩
      simp -implicitDefEqProofs (disch := (first | omega | (simp only [lenB, lowB_len, numB_len, nsumB_len] <;> omega) | fail)) only [admQ, lenB, lowB_len, numB_len, nsumB_len, aFill, AK.cls, implies_true, ↓reduceIte, reduceCtorEq, if_true, if_false, Nat.reduceAdd, Nat.reduceEqDiff, Nat.reduceMod, Nat.reduceLT, Nat.reduceLeDiff, Nat.reduceSub, Nat.reduceMul, Nat.reduceBEq, Int.reduceAdd, Int.reduceSub, Int.reduceMul, Int.reduceNeg, Int.reduceLT, Int.reduceLE, Int.reduceToNat, Int.reduceEq, Int.reduceBEq]
      have KP := kO.trans kP
      have k5' : Kept [] N2 N5 := kept_over KP k5 fun q hq => .inr (nv q hq)
      have hlow := I2.kept.len
      refine tail N5 vg Z ((((I2.vol (V' := p9 :: p10 :: blkOf v) fun q hq => ?_).kept0 KP).kept_ k5 fun q hq => ⟨by simp [hq], fun h => ?_, ?_⟩).vol fun q hq => ?_).next (k5'.more (by simp)) (fun b hb => .inl hb)
      · simp only [List.mem_cons] at hq
        rcases hq with hq | hq | hq
        · exact .inl (by simp [hq])
        · exact .inl (by simp [hq])
        · exact .inr (nv q hq)
      · have := nv q hq; have := hZN q h; omega
      · have := nv q hq; omega
      · simp only [List.mem_cons, List.not_mem_nil, or_false] at hq
        rcases hq with hq | hq <;> exact .inl (by simp [hq])
    by_cases k1 : o.k = 1
    · simp -implicitDefEqProofs (disch := (first | omega | (simp only [lenB, lowB_len, numB_len, nsumB_len] <;> omega) | fail)) only [admQ, lenB, lowB_len, numB_len, nsumB_len, aFill, AK.cls, implies_true, ↓reduceIte, reduceCtorEq, if_true, if_false, Nat.reduceAdd, Nat.reduceEqDiff, Nat.reduceMod, Nat.reduceLT, Nat.reduceLeDiff, Nat.reduceSub, Nat.reduceMul, Nat.reduceBEq, Int.reduceAdd, Int.reduceSub, Int.reduceMul, Int.reduceNeg, Int.reduceLT, Int.reduceLE, Int.reduceToNat, Int.reduceEq, Int.reduceBEq, rowOf_own b2, beq_eq_false_iff_ne.mpr k0, d3_11, beq_iff_eq.mpr k1]
      exact opn
    by_cases k3 : o.k = 3
    · simp -implicitDefEqProofs (disch := (first | omega | (simp only [lenB, lowB_len, numB_len, nsumB_len] <;> omega) | fail)) only [admQ, lenB, lowB_len, numB_len, nsumB_len, aFill, AK.cls, implies_true, ↓reduceIte, reduceCtorEq, if_true, if_false, Nat.reduceAdd, Nat.reduceEqDiff, Nat.reduceMod, Nat.reduceLT, Nat.reduceLeDiff, Nat.reduceSub, Nat.reduceMul, Nat.reduceBEq, Int.reduceAdd, Int.reduceSub, Int.reduceMul, Int.reduceNeg, Int.reduceLT, Int.reduceLE, Int.reduceToNat, Int.reduceEq, Int.reduceBEq, rowOf_own b2, beq_eq_false_iff_ne.mpr k0, d3_11, beq_eq_false_iff_ne.mpr k1, beq_iff_eq.mpr k3]
      exact opn
    have hb4 := hl8.2 k3
    by_cases k2 : o.k = 2
    · simp -implicitDefEqProofs (disch := (first | omega | (simp only [lenB, lowB_len, numB_len, nsumB_len] <;> omega) | fail)) only [admQ, lenB, lowB_len, numB_len, nsumB_len, aFill, AK.cls, implies_true, ↓reduceIte, reduceCtorEq, if_true, if_false, Nat.reduceAdd, Nat.reduceEqDiff, Nat.reduceMod, Nat.reduceLT, Nat.reduceLeDiff, Nat.reduceSub, Nat.reduceMul, Nat.reduceBEq, Int.reduceAdd, Int.reduceSub, Int.reduceMul, Int.reduceNeg, Int.reduceLT, Int.reduceLE, Int.reduceToNat, Int.reduceEq, Int.reduceBEq, rowOf_own b2, beq_eq_false_iff_ne.mpr k0, d3_11, beq_eq_false_iff_ne.mpr k1, beq_eq_false_iff_ne.mpr k3, d3_12, beq_iff_eq.mpr k2, hh2.len, h82.len]
      refine (ans_nsum (b := b') g1 r10 (by simp only [blkOf, List.mem_singleton]; rintro q rfl h; exact n10 (hWZ _ h)) (by omega) (by omega)).mono ?_
      rintro _ N3 ⟨rfl, kS, g1'⟩
      have hk3 := kS.len
      have hQ2 : ∀ b ∈ Q', b < N2.length := g2.lt
      have hR2 : ∀ b ∈ R, b ∈ Q' := g2.sub
      simp -implicitDefEqProofs (disch := (first | omega | (simp only [lenB, lowB_len, numB_len, nsumB_len] <;> omega) | fail)) only [admQ, lenB, lowB_len, numB_len, nsumB_len, aFill, AK.cls, implies_true, ↓reduceIte, reduceCtorEq, if_true, if_false, Nat.reduceAdd, Nat.reduceEqDiff, Nat.reduceMod, Nat.reduceLT, Nat.reduceLeDiff, Nat.reduceSub, Nat.reduceMul, Nat.reduceBEq, Int.reduceAdd, Int.reduceSub, Int.reduceMul, Int.reduceNeg, Int.reduceLT, Int.reduceLE, Int.reduceToNat, Int.reduceEq, Int.reduceBEq]
      refine (ans_nrsum (b := b') (g2.kept kS fun b hb h => aWQ b h hb) (h82.kept kS fun b o n cap s e h => h8Z b (by rw [e]; simp [blkOf]) (hWZ _ h)) (fun b hb h => h8Z b hb (hQZ _ h)) (by omega) (by omega) (fun t ht => Nat.le_trans (gT t ht) (by omega))).mono ?_
      rintro _ N4 ⟨rfl, R', Q2, kR, g2', hQ2'⟩
      have hk4 := kR.len
      have hvN : ∀ b ∈ blkOf vg, b < N2.length := g3.lt
      have kall : Kept Z N2 N4 := ((kS.more fun q hq _ => hWZ q hq).trans (kR.more fun q hq _ => hQZ q (hR2 q hq)))
      have aWQ2 : Ap W Q2 := fun b hb1 hb2 => by
        have := hZN b (hWZ b hb1)
        rcases hQ2' b hb2 with h | h
        · exact aWQ b hb1 h
        · omega
      have aQ2v : Ap Q2 (blkOf vg) := fun b hb h => by
        rcases hQ2' b hb with h' | h'
        · exact aQv b h' h
        · have := hvN b h; omega
      have new : ∀ b, b ∈ W ++ (Q2 ++ blkOf vg) → b ∈ Z ∨ N2.length ≤ b := fun b hb => by
        simp only [List.mem_append] at hb
        rcases hb with hb | hb | hb
        · exact .inl (hWZ b hb)
        · exact (hQ2' b hb).imp (hQZ b) fun h => by omega
        · exact .inl (hvZ b hb)
      simp -implicitDefEqProofs (disch := (first | omega | (simp only [lenB, lowB_len, numB_len, nsumB_len] <;> omega) | fail)) only [admQ, lenB, lowB_len, numB_len, nsumB_len, aFill, AK.cls, implies_true, ↓reduceIte, reduceCtorEq, if_true, if_false, Nat.reduceAdd, Nat.reduceEqDiff, Nat.reduceMod, Nat.reduceLT, Nat.reduceLeDiff, Nat.reduceSub, Nat.reduceMul, Nat.reduceBEq, Int.reduceAdd, Int.reduceSub, Int.reduceMul, Int.reduceNeg, Int.reduceLT, Int.reduceLE, Int.reduceToNat, Int.reduceEq, Int.reduceBEq, aEq_bys _ _ (nsumB_len T b') (nsumB_len T b'), beq_self_eq_true, Bool.not_true]
      refine wp_recut [0, 3, 4, 5, 6, 7, 8, 9, 10] rfl (tail N4 vg (W ++ (Q2 ++ blkOf vg)) ⟨kept_over I2.kept kall fun q hq => .inr (hI.low q hq).1, fun b hb => ⟨?_, ?_⟩, W, R', Q2, S, addN b' T, got, cg, ?_, g2', ?_, ?_, rfl, aWQ2, aWv, aQ2v, ⟨?_, ?_, ?_⟩, gS, addN_all gT hb4, gg⟩ kall new)
      · have := I2.kept.len
        rcases new b hb with h | h
        · exact (hI.low b h).1
        · omega
      · simp only [List.mem_append] at hb
        rcases hb with hb | hb | hb
        · have := hZN b (hWZ b hb); omega
        · exact g2'.lt b hb
        · have := hvN b hb; omega
      · exact g1'.kept kR fun b hb h => aWQ b hb (hR2 b h)
      · exact (g3.kept kS fun b hb h => aWv b h hb).kept kR fun b hb h => aQv b (hR2 b h) hb
      · exact g4.kept kall (fun b hb => hb.1) fun b hb hlt => ⟨fun h => (new b h).elim hb.1 fun h => by omega, hb.2⟩
      · omega
      · have := addN_len b' T; omega
      · omega
    · simp -implicitDefEqProofs (disch := (first | omega | (simp only [lenB, lowB_len, numB_len, nsumB_len] <;> omega) | fail)) only [admQ, lenB, lowB_len, numB_len, nsumB_len, aFill, AK.cls, implies_true, ↓reduceIte, reduceCtorEq, if_true, if_false, Nat.reduceAdd, Nat.reduceEqDiff, Nat.reduceMod, Nat.reduceLT, Nat.reduceLeDiff, Nat.reduceSub, Nat.reduceMul, Nat.reduceBEq, Int.reduceAdd, Int.reduceSub, Int.reduceMul, Int.reduceNeg, Int.reduceLT, Int.reduceLE, Int.reduceToNat, Int.reduceEq, Int.reduceBEq, rowOf_own b2, beq_eq_false_iff_ne.mpr k0, d3_11, beq_eq_false_iff_ne.mpr k1, beq_eq_false_iff_ne.mpr k3, d3_12, beq_eq_false_iff_ne.mpr k2, hh2.len, h82.len]
      exact wp_recut [0, 3, 4, 5, 6, 7, 8, 9, 10] rfl (tail N2 vg Z I2.next (.refl _ _) (fun b hb => .inl hb))
end Go.Proofs.Ytodkgembfcddbaa
end
section
/- Names: whatever is sealed, opened and summed. -/
namespace Go.Proofs.Ytodkgembfcddbaa
open Go Go.Adm
set_option linter.unusedSimpArgs false
set_option linter.unusedVariables false
set_option maxRecDepth 100000
theorem rdcs_split {m : Mem} : ∀ {ks1 ks2 : List Adm.Fk} {ds : List Adm.Fd} {xs : List AV}, RdCs m (ks1 ++ ks2) ds xs → ∃ ds1 ds2 xs1 xs2, ds = ds1 ++ ds2 ∧ xs = xs1 ++ xs2 ∧ RdCs m ks1 ds1 xs1 ∧ RdCs m ks2 ds2 xs2 := by
  intro ks1
  induction ks1 with
  | nil => intro ks2 ds xs h; exact ⟨[], ds, [], xs, rfl, rfl, .nil, h⟩
  | cons k ks ih =>
    intro ks2 ds xs h
    cases h with
    | cons h1 h2 =>
      obtain ⟨d1, d2, x1, x2, rfl, rfl, h3, h4⟩ := ih h2
      exact ⟨_ :: d1, d2, _ :: x1, x2, rfl, rfl, .cons h1 h3, h4⟩
theorem op_of {m : Mem} {ds : List Adm.Fd} {xs : List AV} (h : RdCs m [.i .i64, .i .i64, .i .i64, .i .i64, .b, .b, .i .u8] ds xs) : ∃ o, opAt m o xs := by
  obtain ⟨n1, d1, x1, rfl, rfl, _, h⟩ := h.int
  obtain ⟨n2, d2, x2, rfl, rfl, _, h⟩ := h.int
  obtain ⟨n3, d3, x3, rfl, rfl, _, h⟩ := h.int
  obtain ⟨n4, d4, x4, rfl, rfl, _, h⟩ := h.int
  obtain ⟨l5, d5, y5, x5, rfl, rfl, hb5, h⟩ := h.bytes
  obtain ⟨l6, d6, y6, x6, rfl, rfl, hb6, h⟩ := h.bytes
  obtain ⟨n7, d7, x7, rfl, rfl, hw, h⟩ := h.int
  obtain ⟨rfl, rfl⟩ := h.none
  refine ⟨⟨n1, n2, n3, n4, l5, l6, BitVec.ofInt 8 n7⟩, y5, y6, ?_, hb5, hb6⟩
  have : ((BitVec.ofInt 8 n7).toNat : Int) = n7 := by
    simp only [Lit.wf, IntKind.min, IntKind.max, decide_eq_true_eq, Bool.and_eq_true] at hw
    simp [IntKind.bits, IntKind.signed] at hw
    rw [BitVec.toNat_ofInt]
    omega
  simp only [b8, this]
theorem IsRecs.ops {m : Mem} {x : AV} {dss : List (List Adm.Fd)} (h : IsRecs [.i .i64, .i .i64, .i .i64, .i .i64, .b, .b, .i .u8] dss x m) : ∃ L, dss.length = L.length ∧ RdOs m x L := by
  rcases h with ⟨rfl, rfl⟩ | ⟨b, cap, xs, rfl, h2, h3, -⟩
  · exact ⟨[], rfl, .inl ⟨rfl, rfl⟩⟩
  · have key : ∀ (n : Nat) (D : List Adm.Fd) (xs : List AV), RdCs m (List.replicate n [Fk.i .i64, .i .i64, .i .i64, .i .i64, .b, .b, .i .u8]).flatten D xs →
        ∃ L : List NOp, n = L.length ∧ xs.length = n * 7 ∧ ∀ (i : Nat) (o : NOp), L[i]? = some o → opAt m o ((xs.drop (i * 7)).take 7) := by
      intro n
      induction n with
      | zero => intro D xs h; obtain ⟨_, rfl⟩ := h.none; exact ⟨[], rfl, rfl, fun i o h => by simp at h⟩
      | succ n ih =>
        intro D xs h
        rw [List.replicate_succ, List.flatten_cons] at h
        obtain ⟨d1, d2, x1, x2, rfl, rfl, h1, h2⟩ := rdcs_split h
        obtain ⟨L, l1, l2, l3⟩ := ih _ _ h2
        obtain ⟨o, ho⟩ := op_of h1
        have hx1 := h1.len.1
        simp only [List.length_cons, List.length_nil] at hx1
        refine ⟨o :: L, by simp [l1], by simp [hx1, l2]; omega, fun i o' ho' => ?_⟩
        cases i with
        | zero =>
          simp only [List.getElem?_cons_zero, Option.some.injEq] at ho'
          subst ho'
          rw [Nat.zero_mul, List.drop_zero, List.take_append_of_le_length (by omega), List.take_of_length_le (by omega)]
          exact ho
        | succ i =>
          have e : (i + 1) * 7 = x1.length + i * 7 := by omega
          rw [e, ← List.drop_drop, List.drop_left]
          exact l3 i o' (by simpa using ho')
    obtain ⟨L, k1, k2, k3⟩ := key _ _ xs h3
    exact ⟨L, k1, .inr ⟨b, cap, 0, xs, by rw [k1], h2, by rw [k2, k1], k3⟩⟩
theorem ans_NamesRuns {m : Mem} {z : AV} {L : List NOp} (hL : RdOs m z L) :
    Ans Try.prog 3 [z] m fun r m' => r = .bool true ∧ Kept [] m m' := by
  refine ans_ret mixed ok3 ?_
  simp -implicitDefEqProofs (disch := (first | omega | (simp only [lenB, lowB_len, numB_len, nsumB_len] <;> omega) | fail)) only [admQ, lenB, lowB_len, numB_len, nsumB_len, aFill, AK.cls, implies_true, ↓reduceIte, reduceCtorEq, if_true, if_false, Nat.reduceAdd, Nat.reduceEqDiff, Nat.reduceMod, Nat.reduceLT, Nat.reduceLeDiff, Nat.reduceSub, Nat.reduceMul, Nat.reduceBEq, Int.reduceAdd, Int.reduceSub, Int.reduceMul, Int.reduceNeg, Int.reduceLT, Int.reduceLE, Int.reduceToNat, Int.reduceEq, Int.reduceBEq, q3, d3_1, r3]
  refine (ans_nlong hL).mono ?_
  rintro _ M ⟨c, rfl, hM, hc⟩
  subst hM
  cases c with
  | true =>
    simp -implicitDefEqProofs (disch := (first | omega | (simp only [lenB, lowB_len, numB_len, nsumB_len] <;> omega) | fail)) only [admQ, lenB, lowB_len, numB_len, nsumB_len, aFill, AK.cls, implies_true, ↓reduceIte, reduceCtorEq, if_true, if_false, Nat.reduceAdd, Nat.reduceEqDiff, Nat.reduceMod, Nat.reduceLT, Nat.reduceLeDiff, Nat.reduceSub, Nat.reduceMul, Nat.reduceBEq, Int.reduceAdd, Int.reduceSub, Int.reduceMul, Int.reduceNeg, Int.reduceLT, Int.reduceLE, Int.reduceToNat, Int.reduceEq, Int.reduceBEq]
    refine (ans_nworks _).mono ?_
    rintro _ m1 ⟨rfl, k1⟩
    simp -implicitDefEqProofs (disch := (first | omega | (simp only [lenB, lowB_len, numB_len, nsumB_len] <;> omega) | fail)) only [admQ, lenB, lowB_len, numB_len, nsumB_len, aFill, AK.cls, implies_true, ↓reduceIte, reduceCtorEq, if_true, if_false, Nat.reduceAdd, Nat.reduceEqDiff, Nat.reduceMod, Nat.reduceLT, Nat.reduceLeDiff, Nat.reduceSub, Nat.reduceMul, Nat.reduceBEq, Int.reduceAdd, Int.reduceSub, Int.reduceMul, Int.reduceNeg, Int.reduceLT, Int.reduceLE, Int.reduceToNat, Int.reduceEq, Int.reduceBEq]
    exact k1
  | false =>
    obtain ⟨hlen, hall⟩ := hc rfl
    simp -implicitDefEqProofs (disch := (first | omega | (simp only [lenB, lowB_len, numB_len, nsumB_len] <;> omega) | fail)) only [admQ, lenB, lowB_len, numB_len, nsumB_len, aFill, AK.cls, implies_true, ↓reduceIte, reduceCtorEq, if_true, if_false, Nat.reduceAdd, Nat.reduceEqDiff, Nat.reduceMod, Nat.reduceLT, Nat.reduceLeDiff, Nat.reduceSub, Nat.reduceMul, Nat.reduceBEq, Int.reduceAdd, Int.reduceSub, Int.reduceMul, Int.reduceNeg, Int.reduceLT, Int.reduceLE, Int.reduceToNat, Int.reduceEq, Int.reduceBEq, d3_2]
    refine (ans_nnew _).mono ?_
    rintro _ m1 ⟨x, W, rfl, k1, hN, lW⟩
    simp -implicitDefEqProofs (disch := (first | omega | (simp only [lenB, lowB_len, numB_len, nsumB_len] <;> omega) | fail)) only [admQ, lenB, lowB_len, numB_len, nsumB_len, aFill, AK.cls, implies_true, ↓reduceIte, reduceCtorEq, if_true, if_false, Nat.reduceAdd, Nat.reduceEqDiff, Nat.reduceMod, Nat.reduceLT, Nat.reduceLeDiff, Nat.reduceSub, Nat.reduceMul, Nat.reduceBEq, Int.reduceAdd, Int.reduceSub, Int.reduceMul, Int.reduceNeg, Int.reduceLT, Int.reduceLE, Int.reduceToNat, Int.reduceEq, Int.reduceBEq]
    refine (ans_nrnew _).mono ?_
    rintro _ m2 ⟨y, R, rfl, k2, hR, lR⟩
    have K2 := k1.trans k2
    have hW1 := hN.lt
    have hk1 := k1.len
    simp -implicitDefEqProofs (disch := (first | omega | (simp only [lenB, lowB_len, numB_len, nsumB_len] <;> omega) | fail)) only [admQ, lenB, lowB_len, numB_len, nsumB_len, aFill, AK.cls, implies_true, ↓reduceIte, reduceCtorEq, if_true, if_false, Nat.reduceAdd, Nat.reduceEqDiff, Nat.reduceMod, Nat.reduceLT, Nat.reduceLeDiff, Nat.reduceSub, Nat.reduceMul, Nat.reduceBEq, Int.reduceAdd, Int.reduceSub, Int.reduceMul, Int.reduceNeg, Int.reduceLT, Int.reduceLE, Int.reduceToNat, Int.reduceEq, Int.reduceBEq, d3_3, d3_4]
    have h0 : NrI M m2 x y 0 .nils (W ++ (R ++ [])) [] := by
      refine ⟨K2, fun b hb => ?_, W, R, R, [], [], [], [], hN.kept0 k2, hR, .nils .., ⟨rfl, fun i t h => by simp at h⟩, rfl, fun b h1 h2 => ?_, by simp [Ap, blkOf], by simp [Ap, blkOf], by simp, by simp, by simp, by simp⟩
      · simp only [List.append_nil, List.mem_append] at hb
        rcases hb with hb | hb
        · have := lW b hb; have := hW1 b hb; have := k2.len; omega
        · exact ⟨by have := lR b hb; omega, hR.lt b hb⟩
      · have := hW1 b h1; have := lR b h2; omega
    refine LoopW.on (fun t : Nat × AV => [(0, z), (3, .ptr x 0), (4, .ptr y 0), (5, t.2), (6, .int .i64 t.1)]) (fun t => L.length - t.1) (fun t N => t.1 ≤ L.length ∧ ∃ Z, NrI M N x y t.1 t.2 Z []) ?_ (0, .nils) _ _ rfl
      ⟨by simp, _, h0⟩
    rintro ⟨i, vg⟩ N X ⟨hi, Z, hI⟩ hX
    simp only at hi hI
    by_cases hlt : i < L.length
    · have hlen2 := hL.len
      have hL' := hL
      rcases hL with ⟨_, rfl⟩ | ⟨bl, cap, sl, xs, rfl, hrow, hhl, hel⟩
      · simp at hlt
      obtain ⟨o, ho⟩ : ∃ o, L[i]? = some o := ⟨_, List.getElem?_eq_getElem hlt⟩
      obtain ⟨hx, bx, hc, rh, rb⟩ := hel i o ho
      have hmem := hall o (List.mem_of_getElem? ho)
      simp -implicitDefEqProofs (disch := (first | omega | (simp only [lenB, lowB_len, numB_len, nsumB_len] <;> omega) | fail)) only [admQ, lenB, lowB_len, numB_len, nsumB_len, aFill, AK.cls, implies_true, ↓reduceIte, reduceCtorEq, if_true, if_false, Nat.reduceAdd, Nat.reduceEqDiff, Nat.reduceMod, Nat.reduceLT, Nat.reduceLeDiff, Nat.reduceSub, Nat.reduceMul, Nat.reduceBEq, Int.reduceAdd, Int.reduceSub, Int.reduceMul, Int.reduceNeg, Int.reduceLT, Int.reduceLE, Int.reduceToNat, Int.reduceEq, Int.reduceBEq, d3_5, d3_6, hI.kept.row hrow (by simp), hc, (rd_one rh).1, (rd_one rh).2, (rd_one rb).1, (rd_one rb).2]
      have oA : own (N ++ [Blk.row [.int .i64 o.k, .int .i64 o.e, .int .i64 o.n, .int .i64 o.j, hx, bx, b8 o.w] false]) N.length = some [.int .i64 o.k, .int .i64 o.e, .int .i64 o.n, .int .i64 o.j, hx, bx, b8 o.w] := by rw [own_app_at0]; rfl
      have kA := Kept.app [] N [Blk.row [.int .i64 o.k, .int .i64 o.e, .int .i64 o.n, .int .i64 o.j, hx, bx, b8 o.w] false]
      generalize N ++ [Blk.row [.int .i64 o.k, .int .i64 o.e, .int .i64 o.n, .int .i64 o.j, hx, bx, b8 o.w] false] = A at oA kA
      have IA := hI.kept0 kA
      have kNA := kA.len
      have hZN : ∀ b ∈ Z, M.length ≤ b ∧ b < N.length := hI.low
      have hhm := rh.blk_lt
      have hbm := rb.blk_lt
      obtain ⟨Ws, Rs, Qs, S, T, got, cg, g1, g2, g3, g4, hZ, aWQ, aWv, aQv, gl, gS, gT, gg⟩ := IA.ex
      refine wp_join2 [0, 3, 4, 5, 6, 7, 8] (fun s : AV × List B8 => [(0, .sl bl 0 L.length cap sl), (3, .ptr x 0), (4, .ptr y 0), (5, vg), (6, .int .i64 i), (7, .ptr N.length 0), (8, s.1)])
        (fun s N' => Kept [] A N' ∧ RdB N' s.1 s.2 ∧ s.2.length ≤ 5000 ∧ (o.k ≠ 3 → s.2.length ≤ 4096) ∧ ∀ b ∈ blkOf s.1, b ∉ Z) rfl ?_ ?_
      · by_cases k3 : o.k = 3
        · by_cases hg : got.length = 0
          · simp -implicitDefEqProofs (disch := (first | omega | (simp only [lenB, lowB_len, numB_len, nsumB_len] <;> omega) | fail)) only [admQ, lenB, lowB_len, numB_len, nsumB_len, aFill, AK.cls, implies_true, ↓reduceIte, reduceCtorEq, if_true, if_false, Nat.reduceAdd, Nat.reduceEqDiff, Nat.reduceMod, Nat.reduceLT, Nat.reduceLeDiff, Nat.reduceSub, Nat.reduceMul, Nat.reduceBEq, Int.reduceAdd, Int.reduceSub, Int.reduceMul, Int.reduceNeg, Int.reduceLT, Int.reduceLE, Int.reduceToNat, Int.reduceEq, Int.reduceBEq, d3_7, rowOf_own oA, beq_iff_eq.mpr k3, gr_lenS (n := 0) g3 (by omega) (by have := g4.1; omega), joins]
            exact ⟨(.nils, []), rfl, .refl _ _, .nils _, by simp, by simp, by simp [blkOf]⟩
          · obtain ⟨bv, rfl, hbv⟩ := gr_slS (n := got.length) g3 (by omega) (by have := g4.1; omega) (by omega)
            simp -implicitDefEqProofs (disch := (first | omega | (simp only [lenB, lowB_len, numB_len, nsumB_len] <;> omega) | fail)) only [admQ, lenB, lowB_len, numB_len, nsumB_len, aFill, AK.cls, implies_true, ↓reduceIte, reduceCtorEq, if_true, if_false, Nat.reduceAdd, Nat.reduceEqDiff, Nat.reduceMod, Nat.reduceLT, Nat.reduceLeDiff, Nat.reduceSub, Nat.reduceMul, Nat.reduceBEq, Int.reduceAdd, Int.reduceSub, Int.reduceMul, Int.reduceNeg, Int.reduceLT, Int.reduceLE, Int.reduceToNat, Int.reduceEq, Int.reduceBEq, d3_7, rowOf_own oA, beq_iff_eq.mpr k3]
            refine (ans_npick o.j got.length (by omega) (by omega) _).mono ?_
            rintro _ MM ⟨hM, j, rfl, hj⟩
            subst hM
            obtain ⟨g, hgj⟩ : ∃ g, got[j]? = some g := ⟨_, List.getElem?_eq_getElem hj⟩
            obtain ⟨v, a1, a2, a3⟩ := g4.2 j g hgj
            have hgl := gg g (List.mem_of_getElem? hgj)
            simp -implicitDefEqProofs (disch := (first | omega | (simp only [lenB, lowB_len, numB_len, nsumB_len] <;> omega) | fail)) only [admQ, lenB, lowB_len, numB_len, nsumB_len, aFill, AK.cls, implies_true, ↓reduceIte, reduceCtorEq, if_true, if_false, Nat.reduceAdd, Nat.reduceEqDiff, Nat.reduceMod, Nat.reduceLT, Nat.reduceLeDiff, Nat.reduceSub, Nat.reduceMul, Nat.reduceBEq, Int.reduceAdd, Int.reduceSub, Int.reduceMul, Int.reduceNeg, Int.reduceLT, Int.reduceLE, Int.reduceToNat, Int.reduceEq, Int.reduceBEq, rowOf_own hbv, a1, rowOf_own oA]
            refine (ans_nturned o.w a2 (by omega)).mono ?_
            rintro r N3 ⟨k3', l', hl', rd', hn'⟩
            simp -implicitDefEqProofs (disch := (first | omega | (simp only [lenB, lowB_len, numB_len, nsumB_len] <;> omega) | fail)) only [admQ, lenB, lowB_len, numB_len, nsumB_len, aFill, AK.cls, implies_true, ↓reduceIte, reduceCtorEq, if_true, if_false, Nat.reduceAdd, Nat.reduceEqDiff, Nat.reduceMod, Nat.reduceLT, Nat.reduceLeDiff, Nat.reduceSub, Nat.reduceMul, Nat.reduceBEq, Int.reduceAdd, Int.reduceSub, Int.reduceMul, Int.reduceNeg, Int.reduceLT, Int.reduceLE, Int.reduceToNat, Int.reduceEq, Int.reduceBEq, rowOf_own (k3'.own hbv (by simp)), a1, rowOf_own (k3'.own oA (by simp)), joins]
            exact ⟨(r, l'), rfl, k3', rd', by simp only; omega, fun h => absurd k3 h, fun b hb h => by have := hn' b hb; have := hZN b h; omega⟩
        · simp -implicitDefEqProofs (disch := (first | omega | (simp only [lenB, lowB_len, numB_len, nsumB_len] <;> omega) | fail)) only [admQ, lenB, lowB_len, numB_len, nsumB_len, aFill, AK.cls, implies_true, ↓reduceIte, reduceCtorEq, if_true, if_false, Nat.reduceAdd, Nat.reduceEqDiff, Nat.reduceMod, Nat.reduceLT, Nat.reduceLeDiff, Nat.reduceSub, Nat.reduceMul, Nat.reduceBEq, Int.reduceAdd, Int.reduceSub, Int.reduceMul, Int.reduceNeg, Int.reduceLT, Int.reduceLE, Int.reduceToNat, Int.reduceEq, Int.reduceBEq, d3_7, rowOf_own oA, beq_eq_false_iff_ne.mpr k3, joins]
          exact ⟨(bx, o.b), rfl, .refl _ _, rb.kept0 IA.kept, by simp only; omega, fun _ => hmem.2, fun b hb h => by have := hbm b hb; have := hZN b h; omega⟩
      · rintro ⟨x8, b'⟩ N' ⟨kN', r8, l8, l8', z8⟩
        have I' := IA.kept0 kN'
        refine nrBody (M := M) I' (by omega) (kN'.own oA (by simp)) (fun h => by have := hZN _ h; omega) (rh.kept0 I'.kept) hhm hmem.1 r8 z8 ⟨l8, l8'⟩ fun N3 vg3 Z3 I3 => ?_
        simp -implicitDefEqProofs (disch := (first | omega | (simp only [lenB, lowB_len, numB_len, nsumB_len] <;> omega) | fail)) only [admQ, lenB, lowB_len, numB_len, nsumB_len, aFill, AK.cls, implies_true, ↓reduceIte, reduceCtorEq, if_true, if_false, Nat.reduceAdd, Nat.reduceEqDiff, Nat.reduceMod, Nat.reduceLT, Nat.reduceLeDiff, Nat.reduceSub, Nat.reduceMul, Nat.reduceBEq, Int.reduceAdd, Int.reduceSub, Int.reduceMul, Int.reduceNeg, Int.reduceLT, Int.reduceLE, Int.reduceToNat, Int.reduceEq, Int.reduceBEq]
        exact hX (i + 1, vg3) _ _ rfl (by simp only; omega) ⟨by simp only; omega, Z3, I3⟩
    · obtain rfl : i = L.length := by omega
      simp -implicitDefEqProofs (disch := (first | omega | (simp only [lenB, lowB_len, numB_len, nsumB_len] <;> omega) | fail)) only [admQ, lenB, lowB_len, numB_len, nsumB_len, aFill, AK.cls, implies_true, ↓reduceIte, reduceCtorEq, if_true, if_false, Nat.reduceAdd, Nat.reduceEqDiff, Nat.reduceMod, Nat.reduceLT, Nat.reduceLeDiff, Nat.reduceSub, Nat.reduceMul, Nat.reduceBEq, Int.reduceAdd, Int.reduceSub, Int.reduceMul, Int.reduceNeg, Int.reduceLT, Int.reduceLE, Int.reduceToNat, Int.reduceEq, Int.reduceBEq, d3_5, hL.len]
      refine (ans_nworks _).mono ?_
      rintro _ m1 ⟨rfl, k1⟩
      simp -implicitDefEqProofs (disch := (first | omega | (simp only [lenB, lowB_len, numB_len, nsumB_len] <;> omega) | fail)) only [admQ, lenB, lowB_len, numB_len, nsumB_len, aFill, AK.cls, implies_true, ↓reduceIte, reduceCtorEq, if_true, if_false, Nat.reduceAdd, Nat.reduceEqDiff, Nat.reduceMod, Nat.reduceLT, Nat.reduceLeDiff, Nat.reduceSub, Nat.reduceMul, Nat.reduceBEq, Int.reduceAdd, Int.reduceSub, Int.reduceMul, Int.reduceNeg, Int.reduceLT, Int.reduceLE, Int.reduceToNat, Int.reduceEq, Int.reduceBEq]
      exact hI.kept.trans k1
end Go.Proofs.Ytodkgembfcddbaa
end
section
/- Names: the chapter's examples. -/
namespace Go.Proofs.Ytodkgembfcddbaa
open Go Go.Adm
set_option linter.unusedSimpArgs false
set_option linter.unusedVariables false
set_option maxRecDepth 100000
theorem elems_row {m : Mem} {b k size : Nat} {l : List AV} (h : rowOf m b = some l) (hl : l.length = k * size) (cap s : Nat) : elems size k (.sl b 0 k cap s) m = some l := by
  unfold elems
  by_cases h0 : k = 0
  · subst h0
    simp only [if_true]
    rw [Nat.zero_mul] at hl
    rw [List.length_eq_zero_iff.mp hl]
  · simp only [if_neg h0, Nat.le_refl, if_true, h, Option.bind_some, Nat.zero_add, if_pos (show k * size ≤ l.length by omega), List.drop_zero]
    rw [List.take_of_length_le (by omega)]
/-- A list of calls under way. -/
def OsL (m : Mem) (G : Nat → Prop) (c : List AV) (L : List NOp) : Prop :=
  c.length = L.length * 7 ∧ ∀ (i : Nat) (o : NOp), L[i]? = some o → ∃ h b, (c.drop (i * 7)).take 7 = [.int .i64 o.k, .int .i64 o.e, .int .i64 o.n, .int .i64 o.j, h, b, b8 o.w] ∧ RdB m h o.h ∧ RdB m b o.b ∧ (∀ q ∈ blkOf h, G q) ∧ ∀ q ∈ blkOf b, G q
theorem OsL.kept {m m' : Mem} {G G' : Nat → Prop} {c : List AV} {L : List NOp} {X : List Nat} (h : OsL m G c L) (hk : Kept X m m') (hX : ∀ b, G b → b ∉ X) (hG : ∀ b, G b → b < m.length → G' b) : OsL m' G' c L :=
  ⟨h.1, fun i o ho => by
    obtain ⟨x, y, a1, a2, a3, a4, a5⟩ := h.2 i o ho
    exact ⟨x, y, a1, a2.kept hk (fun b o n cap s e => hX b (a4 b (by rw [e]; simp [blkOf]))), a3.kept hk (fun b o n cap s e => hX b (a5 b (by rw [e]; simp [blkOf]))), fun b hb => hG b (a4 b hb) (a2.blk_lt b hb), fun b hb => hG b (a5 b hb) (a3.blk_lt b hb)⟩⟩
theorem OsL.snoc {m : Mem} {G : Nat → Prop} {c : List AV} {L : List NOp} {o : NOp} {h b : AV} (hc : OsL m G c L) (hh : RdB m h o.h) (hb : RdB m b o.b) (gh : ∀ q ∈ blkOf h, G q) (gb : ∀ q ∈ blkOf b, G q) :
    OsL m G (c ++ [.int .i64 o.k, .int .i64 o.e, .int .i64 o.n, .int .i64 o.j, h, b, b8 o.w]) (L ++ [o]) := by
  have hcl := hc.1
  refine ⟨by simp [hc.1]; omega, fun i t ht => ?_⟩
  by_cases hi : i < L.length
  · rw [List.getElem?_append_left hi] at ht
    obtain ⟨x, y, a1, a2⟩ := hc.2 i t ht
    refine ⟨x, y, ?_, a2⟩
    rw [List.drop_append_of_le_length (by omega), List.take_append_of_le_length (by rw [List.length_drop]; omega)]
    exact a1
  · have hlt := lt_of_get ht
    simp only [List.length_append, List.length_singleton] at hlt
    obtain rfl : i = L.length := by omega
    simp at ht
    subst ht
    refine ⟨h, b, ?_, hh, hb, gh, gb⟩
    rw [← hc.1, List.drop_left, List.take_of_length_le (by simp)]
theorem OsL.rd {m : Mem} {G : Nat → Prop} {c : List AV} {L : List NOp} {x : AV} {k : Nat} (h : OsL m G c L) (g : GrA 7 k m x c) (hL : L ≠ []) : RdOs m x L := by
  obtain ⟨b, rfl, hb⟩ := gr_slS (n := L.length) g (by omega) h.1 (List.length_pos_iff.mpr hL)
  refine .inr ⟨b, _, _, c, rfl, rowOf_own hb, h.1, fun i o ho => ?_⟩
  obtain ⟨x, y, a1, a2, a3, -⟩ := h.2 i o ho
  exact ⟨x, y, a1, a2, a3⟩
def knV : List Int := [-9223372036854775808, -1, 0, 1, 2, 1099511627776, 1099511627777, 9223372036854775807]
/-- The list of calls, n of them, at vg. -/
structure KnI (m N : Mem) (vg : AV) (n : Nat) : Prop where
  kept : Kept [] m N
  row : rowOf N m.length = some (knV.map (AV.int .i64))
  off : ∀ q ∈ blkOf vg, m.length < q
  ex : ∃ c L, GrA 7 (m.length + 1) N vg c ∧ OsL N (fun b => b ∉ blkOf vg) c L ∧ L.length = n
theorem knTail {m N : Mem} {vg : AV} (hI : KnI m N vg 128) : wpA Try.prog d7_5 [(2, vg)] N (seqK Try.prog d7_6 (retQ [.tmp 0] fun r m' => r = .bool true ∧ Kept [] m m')) := by
  obtain ⟨c, L, g, hL, hLn⟩ := hI.ex
  have hK := hI.kept
  have hos := hL.rd g (by rintro rfl; simp at hLn)
  simp -implicitDefEqProofs (disch := (first | omega | (simp only [lenB, lowB_len, numB_len, nsumB_len] <;> omega) | fail)) only [admQ, lenB, lowB_len, numB_len, nsumB_len, aFill, AK.cls, implies_true, ↓reduceIte, reduceCtorEq, if_true, if_false, Nat.reduceAdd, Nat.reduceEqDiff, Nat.reduceMod, Nat.reduceLT, Nat.reduceLeDiff, Nat.reduceSub, Nat.reduceMul, Nat.reduceBEq, Int.reduceAdd, Int.reduceSub, Int.reduceMul, Int.reduceNeg, Int.reduceLT, Int.reduceLE, Int.reduceToNat, Int.reduceEq, Int.reduceBEq, d7_5]
  refine (ans_NamesRuns hos).mono ?_
  rintro _ N1 ⟨rfl, k1⟩
  simp -implicitDefEqProofs (disch := (first | omega | (simp only [lenB, lowB_len, numB_len, nsumB_len] <;> omega) | fail)) only [admQ, lenB, lowB_len, numB_len, nsumB_len, aFill, AK.cls, implies_true, ↓reduceIte, reduceCtorEq, if_true, if_false, Nat.reduceAdd, Nat.reduceEqDiff, Nat.reduceMod, Nat.reduceLT, Nat.reduceLeDiff, Nat.reduceSub, Nat.reduceMul, Nat.reduceBEq, Int.reduceAdd, Int.reduceSub, Int.reduceMul, Int.reduceNeg, Int.reduceLT, Int.reduceLE, Int.reduceToNat, Int.reduceEq, Int.reduceBEq, Bool.not_true, d7_6]
  have hcr : Ans Try.prog 29 [] N1 fun r m' => ∃ x W, r = .iface 25 (.ptr x 0) ∧ Kept [] N1 m' ∧ Nm m' x W [] [] ∧ ∀ b ∈ W, N1.length ≤ b := by
    refine ans_ret mixed ok29 ?_
    simp -implicitDefEqProofs (disch := (first | omega | (simp only [lenB, lowB_len, numB_len, nsumB_len] <;> omega) | fail)) only [admQ, lenB, lowB_len, numB_len, nsumB_len, aFill, AK.cls, implies_true, ↓reduceIte, reduceCtorEq, if_true, if_false, Nat.reduceAdd, Nat.reduceEqDiff, Nat.reduceMod, Nat.reduceLT, Nat.reduceLeDiff, Nat.reduceSub, Nat.reduceMul, Nat.reduceBEq, Int.reduceAdd, Int.reduceSub, Int.reduceMul, Int.reduceNeg, Int.reduceLT, Int.reduceLE, Int.reduceToNat, Int.reduceEq, Int.reduceBEq, c29, r29]
    refine (ans_nnew _).mono ?_
    rintro _ m1 ⟨x, W, rfl, h⟩
    simp -implicitDefEqProofs (disch := (first | omega | (simp only [lenB, lowB_len, numB_len, nsumB_len] <;> omega) | fail)) only [admQ, lenB, lowB_len, numB_len, nsumB_len, aFill, AK.cls, implies_true, ↓reduceIte, reduceCtorEq, if_true, if_false, Nat.reduceAdd, Nat.reduceEqDiff, Nat.reduceMod, Nat.reduceLT, Nat.reduceLeDiff, Nat.reduceSub, Nat.reduceMul, Nat.reduceBEq, Int.reduceAdd, Int.reduceSub, Int.reduceMul, Int.reduceNeg, Int.reduceLT, Int.reduceLE, Int.reduceToNat, Int.reduceEq, Int.reduceBEq]
    exact ⟨x, W, rfl, h⟩
  refine hcr.mono ?_
  rintro _ m1 ⟨x, W, rfl, k2, hN, hW⟩
  simp -implicitDefEqProofs (disch := (first | omega | (simp only [lenB, lowB_len, numB_len, nsumB_len] <;> omega) | fail)) only [admQ, lenB, lowB_len, numB_len, nsumB_len, aFill, AK.cls, implies_true, ↓reduceIte, reduceCtorEq, if_true, if_false, Nat.reduceAdd, Nat.reduceEqDiff, Nat.reduceMod, Nat.reduceLT, Nat.reduceLeDiff, Nat.reduceSub, Nat.reduceMul, Nat.reduceBEq, Int.reduceAdd, Int.reduceSub, Int.reduceMul, Int.reduceNeg, Int.reduceLT, Int.reduceLE, Int.reduceToNat, Int.reduceEq, Int.reduceBEq, opW_invoke _ methn_seal, opDW_invoke _ methn_seal]
  have rH : RdB (m1 ++ [Blk.row [.int .u8 7] false, Blk.row [.int .u8 8, .int .u8 9] false]) (.sl m1.length 0 1 1 0) [7#8] := RdB.row (l := [7#8]) 1 0 (by rw [rowOf_app_at0]; rfl) (by simp)
  have rP : RdB (m1 ++ [Blk.row [.int .u8 7] false, Blk.row [.int .u8 8, .int .u8 9] false]) (.sl (m1.length + 1) 0 2 2 0) [8#8, 9#8] := RdB.row (l := [8#8, 9#8]) 2 0 (by rw [rowOf_app_at]; rfl) (by simp)
  have k3 := Kept.app [] m1 [Blk.row [.int .u8 7] false, Blk.row [.int .u8 8, .int .u8 9] false]
  have hC : (m1 ++ [Blk.row [.int .u8 7] false, Blk.row [.int .u8 8, .int .u8 9] false]).length = m1.length + 2 := by simp
  generalize m1 ++ [Blk.row [.int .u8 7] false, Blk.row [.int .u8 8, .int .u8 9] false] = C at *
  have hWC : ∀ b ∈ W, b < m1.length := hN.lt
  refine (ans_nseal (e := 1) (n := 2) (hN.kept0 k3) rH rP (by simp only [blkOf, List.mem_singleton]; rintro b rfl hb; have := hWC _ hb; omega) (by simp) (by simp)).mono ?_
  rintro s N2 ⟨h3, -⟩
  obtain ⟨W3, k4, -, hW3, g3, -⟩ := h3 ⟨by decide, by decide⟩
  have hSl : (nsealB [] (1, 2, [7#8], [8#8, 9#8])).length = 34 := nsealB_len _ _
  generalize hSB : nsealB [] (1, 2, [7#8], [8#8, 9#8]) = SB at *
  clear hSB
  have hNm : m.length ≤ N1.length := Nat.le_trans hK.len k1.len
  have K2 : Kept [] m N2 := kept_over (((hK.trans k1).trans k2).trans k3) k4 fun q hq => .inr (by have := hW q hq; omega)
  simp -implicitDefEqProofs (disch := (first | omega | (simp only [lenB, lowB_len, numB_len, nsumB_len] <;> omega) | fail)) only [admQ, lenB, lowB_len, numB_len, nsumB_len, aFill, AK.cls, implies_true, ↓reduceIte, reduceCtorEq, if_true, if_false, Nat.reduceAdd, Nat.reduceEqDiff, Nat.reduceMod, Nat.reduceLT, Nat.reduceLeDiff, Nat.reduceSub, Nat.reduceMul, Nat.reduceBEq, Int.reduceAdd, Int.reduceSub, Int.reduceMul, Int.reduceNeg, Int.reduceLT, Int.reduceLE, Int.reduceToNat, Int.reduceEq, Int.reduceBEq, (gr_one g3).1, (gr_one g3).2]
  obtain ⟨bs, n, rfl, hn0, hnl, hbs, hlow⟩ := g3.sl (by intro h; have := congrArg List.length h; rw [bys_len, hSl] at this; simp at this)
  have hnl : SB.length = n := by simpa [bys] using hnl
  subst hnl
  have kD := Kept.app [] N2 [Blk.row [.int .u8 7] false, Blk.row [.int .u8 8, .int .u8 9] false, Blk.row [.int .u8 7] false, Blk.row [.int .u8 8, .int .u8 9] false, Blk.row [AV.int .i64 1, .int .i64 2, .sl N2.length 0 1 1 0, .sl (N2.length + 1) 0 2 2 0, .int .i64 1, .int .i64 3, .sl (N2.length + 2) 0 1 1 0, .sl (N2.length + 3) 0 2 2 0, .int .i64 1, .int .i64 2, .nils, .sl bs 0 SB.length SB.length 1, .int .i64 (-1), .int .i64 0, .nils, .nils] false]
  have b0 := own_app_at0 N2 [Blk.row [.int .u8 7] false, Blk.row [.int .u8 8, .int .u8 9] false, Blk.row [.int .u8 7] false, Blk.row [.int .u8 8, .int .u8 9] false, Blk.row [AV.int .i64 1, .int .i64 2, .sl N2.length 0 1 1 0, .sl (N2.length + 1) 0 2 2 0, .int .i64 1, .int .i64 3, .sl (N2.length + 2) 0 1 1 0, .sl (N2.length + 3) 0 2 2 0, .int .i64 1, .int .i64 2, .nils, .sl bs 0 SB.length SB.length 1, .int .i64 (-1), .int .i64 0, .nils, .nils] false]
  have b1 := own_app_at N2 [Blk.row [.int .u8 7] false, Blk.row [.int .u8 8, .int .u8 9] false, Blk.row [.int .u8 7] false, Blk.row [.int .u8 8, .int .u8 9] false, Blk.row [AV.int .i64 1, .int .i64 2, .sl N2.length 0 1 1 0, .sl (N2.length + 1) 0 2 2 0, .int .i64 1, .int .i64 3, .sl (N2.length + 2) 0 1 1 0, .sl (N2.length + 3) 0 2 2 0, .int .i64 1, .int .i64 2, .nils, .sl bs 0 SB.length SB.length 1, .int .i64 (-1), .int .i64 0, .nils, .nils] false]
  generalize N2 ++ [Blk.row [.int .u8 7] false, Blk.row [.int .u8 8, .int .u8 9] false, Blk.row [.int .u8 7] false, Blk.row [.int .u8 8, .int .u8 9] false, Blk.row [AV.int .i64 1, .int .i64 2, .sl N2.length 0 1 1 0, .sl (N2.length + 1) 0 2 2 0, .int .i64 1, .int .i64 3, .sl (N2.length + 2) 0 1 1 0, .sl (N2.length + 3) 0 2 2 0, .int .i64 1, .int .i64 2, .nils, .sl bs 0 SB.length SB.length 1, .int .i64 (-1), .int .i64 0, .nils, .nils] false] = D at *
  have c1 : own D (N2.length + 1) = some [AV.int .u8 8, .int .u8 9] := b1 1
  have c2 : own D (N2.length + 2) = some [AV.int .u8 7] := b1 2
  have c3 : own D (N2.length + 3) = some [AV.int .u8 8, .int .u8 9] := b1 3
  have c4 : own D (N2.length + 4) = some _ := b1 4
  have c0 : own D N2.length = some [AV.int .u8 7] := b0
  clear b0 b1
  have hbD := kD.own hbs (by simp)
  have rs : RdB D (.sl bs 0 SB.length SB.length 1) SB := RdB.row SB.length 1 (rowOf_own hbD) (Nat.le_refl _)
  have rF : RdFs D (.sl (N2.length + 4) 0 4 4 0) [(1, 2, [7#8], [8#8, 9#8]), (1, 3, [7#8], [8#8, 9#8]), (1, 2, [], SB), (-1, 0, [], [])] := by
    refine .inr ⟨_, _, _, rfl, rowOf_own c4, rfl, fun i t ht => ?_⟩
    rcases i with _ | _ | _ | _ | i
    · simp at ht; subst ht; exact ⟨_, _, rfl, rfl, rfl, rfl, RdB.row (l := [7#8]) 1 0 (rowOf_own c0) (by simp), RdB.row (l := [8#8, 9#8]) 2 0 (rowOf_own c1) (by simp)⟩
    · simp at ht; subst ht; exact ⟨_, _, rfl, rfl, rfl, rfl, RdB.row (l := [7#8]) 1 0 (rowOf_own c2) (by simp), RdB.row (l := [8#8, 9#8]) 2 0 (rowOf_own c3) (by simp)⟩
    · simp at ht; subst ht; exact ⟨_, _, rfl, rfl, rfl, rfl, .nils _, rs⟩
    · simp at ht; subst ht; exact ⟨_, _, rfl, rfl, rfl, rfl, .nils _, .nils _⟩
    · simp at ht
  have KD := K2.trans kD
  have forge : ∀ (N : Mem) (y : AV) (b : List B8) (e n : Int), Kept [] D N → RdB N y b → Ans Try.prog 5 [.sl (N2.length + 4) 0 4 4 0, .int .i64 e, .int .i64 n, .sl N.length 0 1 1 0, y] (N ++ [Blk.row [.int .u8 7] false]) fun r m' => r = .bool true ∧ Kept [] N m' := by
    intro N y b e n hk hy
    refine (ans_NamesForged (rF.kept0 (hk.more_app _)) (RdB.row (l := [7#8]) 1 0 (by rw [rowOf_app_at0]; rfl) (by simp)) (hy.app _)).mono ?_
    rintro r m' ⟨h1, h2⟩
    exact ⟨h1, (Kept.app [] N _).trans h2⟩
  clear hcr c0 c1 c2 c3 c4
  refine LoopW.on (fun i : Nat => [(5, .sl bs 0 SB.length SB.length 1), (6, .sl (N2.length + 4) 0 4 4 0), (7, .int .i64 i)]) (fun i => SB.length - i) (fun i N => i ≤ SB.length ∧ Kept [] D N) ?_ 0 _ _ rfl ⟨by simp, .refl _ _⟩
  rintro i N X ⟨hi, kk⟩ hX
  by_cases hlt : i < SB.length
  · simp -implicitDefEqProofs (disch := (first | omega | (simp only [lenB, lowB_len, numB_len, nsumB_len] <;> omega) | fail)) only [admQ, lenB, lowB_len, numB_len, nsumB_len, aFill, AK.cls, implies_true, ↓reduceIte, reduceCtorEq, if_true, if_false, Nat.reduceAdd, Nat.reduceEqDiff, Nat.reduceMod, Nat.reduceLT, Nat.reduceLeDiff, Nat.reduceSub, Nat.reduceMul, Nat.reduceBEq, Int.reduceAdd, Int.reduceSub, Int.reduceMul, Int.reduceNeg, Int.reduceLT, Int.reduceLE, Int.reduceToNat, Int.reduceEq, Int.reduceBEq, d7_7, d7_8]
    refine (ans_copynew (rs.kept0 kk) (by omega)).mono ?_
    rintro r8 N3 ⟨k8, g8, n8⟩
    obtain ⟨b8', n', rfl, _, hn', hb8, hlow8⟩ := g8.sl (by intro h; have := congrArg List.length h; rw [bys_len, hSl] at this; simp at this)
    have hn' : SB.length = n' := by simpa [bys] using hn'
    subst hn'
    have e2 := bys_get (l := SB) (n := SB.length) (i := i) rfl (by omega)
    have hsp := splice_byte (l := SB) (i := i) (x := gb SB i ^^^ 2#8) (by omega)
    simp -implicitDefEqProofs (disch := (first | omega | (simp only [lenB, lowB_len, numB_len, nsumB_len] <;> omega) | fail)) only [admQ, lenB, lowB_len, numB_len, nsumB_len, aFill, AK.cls, implies_true, ↓reduceIte, reduceCtorEq, if_true, if_false, Nat.reduceAdd, Nat.reduceEqDiff, Nat.reduceMod, Nat.reduceLT, Nat.reduceLeDiff, Nat.reduceSub, Nat.reduceMul, Nat.reduceBEq, Int.reduceAdd, Int.reduceSub, Int.reduceMul, Int.reduceNeg, Int.reduceLT, Int.reduceLE, Int.reduceToNat, Int.reduceEq, Int.reduceBEq, rowOf_own hb8, e2, hb8, xor_vl_u8, hsp]
    have kE : Kept [] D (N3.set b8' (.row (bys (SB.set i (gb SB i ^^^ 2#8))) false)) := (kk.trans k8).write (.inr (by have := kk.len; omega)) _
    have hb9 := own_set (own_lt hb8) (bys (SB.set i (gb SB i ^^^ 2#8)))
    have hrd := RdB.row (l := SB.set i (gb SB i ^^^ 2#8)) SB.length 1 (rowOf_own hb9) (by simp)
    rw [List.length_set] at hrd
    have f1 := forge _ _ _ 1 2 kE hrd
    rw [List.length_set] at f1
    refine f1.mono ?_
    rintro _ N4 ⟨rfl, k9⟩
    have K4 := kE.trans k9
    simp -implicitDefEqProofs (disch := (first | omega | (simp only [lenB, lowB_len, numB_len, nsumB_len] <;> omega) | fail)) only [admQ, lenB, lowB_len, numB_len, nsumB_len, aFill, AK.cls, implies_true, ↓reduceIte, reduceCtorEq, if_true, if_false, Nat.reduceAdd, Nat.reduceEqDiff, Nat.reduceMod, Nat.reduceLT, Nat.reduceLeDiff, Nat.reduceSub, Nat.reduceMul, Nat.reduceBEq, Int.reduceAdd, Int.reduceSub, Int.reduceMul, Int.reduceNeg, Int.reduceLT, Int.reduceLE, Int.reduceToNat, Int.reduceEq, Int.reduceBEq, Bool.not_true]
    refine (forge _ _ _ 1 2 K4 ((rs.kept0 K4).take (k := i) (by omega))).mono ?_
    rintro _ N5 ⟨rfl, k10⟩
    have K5 := K4.trans k10
    simp -implicitDefEqProofs (disch := (first | omega | (simp only [lenB, lowB_len, numB_len, nsumB_len] <;> omega) | fail)) only [admQ, lenB, lowB_len, numB_len, nsumB_len, aFill, AK.cls, implies_true, ↓reduceIte, reduceCtorEq, if_true, if_false, Nat.reduceAdd, Nat.reduceEqDiff, Nat.reduceMod, Nat.reduceLT, Nat.reduceLeDiff, Nat.reduceSub, Nat.reduceMul, Nat.reduceBEq, Int.reduceAdd, Int.reduceSub, Int.reduceMul, Int.reduceNeg, Int.reduceLT, Int.reduceLE, Int.reduceToNat, Int.reduceEq, Int.reduceBEq, Bool.not_true]
    have rdp := (rs.kept0 K5).drop (k := i) (by omega)
    rw [Nat.zero_add] at rdp
    refine (forge _ _ _ 1 2 K5 rdp).mono ?_
    rintro _ N6 ⟨rfl, k11⟩
    simp -implicitDefEqProofs (disch := (first | omega | (simp only [lenB, lowB_len, numB_len, nsumB_len] <;> omega) | fail)) only [admQ, lenB, lowB_len, numB_len, nsumB_len, aFill, AK.cls, implies_true, ↓reduceIte, reduceCtorEq, if_true, if_false, Nat.reduceAdd, Nat.reduceEqDiff, Nat.reduceMod, Nat.reduceLT, Nat.reduceLeDiff, Nat.reduceSub, Nat.reduceMul, Nat.reduceBEq, Int.reduceAdd, Int.reduceSub, Int.reduceMul, Int.reduceNeg, Int.reduceLT, Int.reduceLE, Int.reduceToNat, Int.reduceEq, Int.reduceBEq, Bool.not_true]
    exact hX (i + 1) _ _ rfl (by omega) ⟨by omega, K5.trans k11⟩
  · obtain rfl : i = SB.length := by omega
    simp -implicitDefEqProofs (disch := (first | omega | (simp only [lenB, lowB_len, numB_len, nsumB_len] <;> omega) | fail)) only [admQ, lenB, lowB_len, numB_len, nsumB_len, aFill, AK.cls, implies_true, ↓reduceIte, reduceCtorEq, if_true, if_false, Nat.reduceAdd, Nat.reduceEqDiff, Nat.reduceMod, Nat.reduceLT, Nat.reduceLeDiff, Nat.reduceSub, Nat.reduceMul, Nat.reduceBEq, Int.reduceAdd, Int.reduceSub, Int.reduceMul, Int.reduceNeg, Int.reduceLT, Int.reduceLE, Int.reduceToNat, Int.reduceEq, Int.reduceBEq, d7_7]
    refine (ans_NamesBack (rF.kept0 kk)).mono ?_
    rintro _ N3 ⟨rfl, k3'⟩
    have K3 := kk.trans k3'
    simp -implicitDefEqProofs (disch := (first | omega | (simp only [lenB, lowB_len, numB_len, nsumB_len] <;> omega) | fail)) only [admQ, lenB, lowB_len, numB_len, nsumB_len, aFill, AK.cls, implies_true, ↓reduceIte, reduceCtorEq, if_true, if_false, Nat.reduceAdd, Nat.reduceEqDiff, Nat.reduceMod, Nat.reduceLT, Nat.reduceLeDiff, Nat.reduceSub, Nat.reduceMul, Nat.reduceBEq, Int.reduceAdd, Int.reduceSub, Int.reduceMul, Int.reduceNeg, Int.reduceLT, Int.reduceLE, Int.reduceToNat, Int.reduceEq, Int.reduceBEq]
    refine (forge _ _ _ 1 2 K3 (rs.kept0 K3)).mono ?_
    rintro _ N4 ⟨rfl, k4'⟩
    have K4 := K3.trans k4'
    simp -implicitDefEqProofs (disch := (first | omega | (simp only [lenB, lowB_len, numB_len, nsumB_len] <;> omega) | fail)) only [admQ, lenB, lowB_len, numB_len, nsumB_len, aFill, AK.cls, implies_true, ↓reduceIte, reduceCtorEq, if_true, if_false, Nat.reduceAdd, Nat.reduceEqDiff, Nat.reduceMod, Nat.reduceLT, Nat.reduceLeDiff, Nat.reduceSub, Nat.reduceMul, Nat.reduceBEq, Int.reduceAdd, Int.reduceSub, Int.reduceMul, Int.reduceNeg, Int.reduceLT, Int.reduceLE, Int.reduceToNat, Int.reduceEq, Int.reduceBEq]
    refine (forge _ _ _ 1 3 K4 (rs.kept0 K4)).mono ?_
    rintro _ N5 ⟨rfl, k5'⟩
    have K5 := K4.trans k5'
    simp -implicitDefEqProofs (disch := (first | omega | (simp only [lenB, lowB_len, numB_len, nsumB_len] <;> omega) | fail)) only [admQ, lenB, lowB_len, numB_len, nsumB_len, aFill, AK.cls, implies_true, ↓reduceIte, reduceCtorEq, if_true, if_false, Nat.reduceAdd, Nat.reduceEqDiff, Nat.reduceMod, Nat.reduceLT, Nat.reduceLeDiff, Nat.reduceSub, Nat.reduceMul, Nat.reduceBEq, Int.reduceAdd, Int.reduceSub, Int.reduceMul, Int.reduceNeg, Int.reduceLT, Int.reduceLE, Int.reduceToNat, Int.reduceEq, Int.reduceBEq]
    have b0 := own_app_at0 N5 [Blk.row [.int .u8 5] false, Blk.row [.int .u8 5, .int .u8 5] false, Blk.row [] false, Blk.row [.int .u8 0] false, Blk.row [.int .u8 5] false, Blk.row [AV.nils, .sl N5.length 0 1 1 0, .nils, .sl (N5.length + 1) 0 2 2 0, .sl (N5.length + 2) 0 0 0 0, .sl (N5.length + 3) 0 1 1 0, .sl (N5.length + 4) 0 1 1 0] false]
    have b1 := own_app_at N5 [Blk.row [.int .u8 5] false, Blk.row [.int .u8 5, .int .u8 5] false, Blk.row [] false, Blk.row [.int .u8 0] false, Blk.row [.int .u8 5] false, Blk.row [AV.nils, .sl N5.length 0 1 1 0, .nils, .sl (N5.length + 1) 0 2 2 0, .sl (N5.length + 2) 0 0 0 0, .sl (N5.length + 3) 0 1 1 0, .sl (N5.length + 4) 0 1 1 0] false]
    have kF := Kept.app [] N5 [Blk.row [.int .u8 5] false, Blk.row [.int .u8 5, .int .u8 5] false, Blk.row [] false, Blk.row [.int .u8 0] false, Blk.row [.int .u8 5] false, Blk.row [AV.nils, .sl N5.length 0 1 1 0, .nils, .sl (N5.length + 1) 0 2 2 0, .sl (N5.length + 2) 0 0 0 0, .sl (N5.length + 3) 0 1 1 0, .sl (N5.length + 4) 0 1 1 0] false]
    generalize N5 ++ [Blk.row [.int .u8 5] false, Blk.row [.int .u8 5, .int .u8 5] false, Blk.row [] false, Blk.row [.int .u8 0] false, Blk.row [.int .u8 5] false, Blk.row [AV.nils, .sl N5.length 0 1 1 0, .nils, .sl (N5.length + 1) 0 2 2 0, .sl (N5.length + 2) 0 0 0 0, .sl (N5.length + 3) 0 1 1 0, .sl (N5.length + 4) 0 1 1 0] false] = F at *
    have c0 : own F N5.length = some [AV.int .u8 5] := b0
    have c1 : own F (N5.length + 1) = some [AV.int .u8 5, .int .u8 5] := b1 1
    have c2 : own F (N5.length + 2) = some [] := b1 2
    have c3 : own F (N5.length + 3) = some [AV.int .u8 0] := b1 3
    have c4 : own F (N5.length + 4) = some [AV.int .u8 5] := b1 4
    have c5 : own F (N5.length + 5) = some _ := b1 5
    have rL : RdLs F (.sl (N5.length + 5) 0 7 7 0) [[], [5#8], [], [5#8, 5#8], [], [0#8], [5#8]] := by
      refine .inr ⟨_, _, _, rfl, rowOf_own c5, rfl, fun i h l hh hl => ?_⟩
      rcases i with _ | _ | _ | _ | _ | _ | _ | i
      · simp at hh hl; subst hh hl; exact .nils _
      · simp at hh hl; subst hh hl; exact RdB.row (l := [5#8]) 1 0 (rowOf_own c0) (by simp)
      · simp at hh hl; subst hh hl; exact .nils _
      · simp at hh hl; subst hh hl; exact RdB.row (l := [5#8, 5#8]) 2 0 (rowOf_own c1) (by simp)
      · simp at hh hl; subst hh hl; exact RdB.row (l := []) 0 0 (rowOf_own c2) (by simp)
      · simp at hh hl; subst hh hl; exact RdB.row (l := [0#8]) 1 0 (rowOf_own c3) (by simp)
      · simp at hh hl; subst hh hl; exact RdB.row (l := [5#8]) 1 0 (rowOf_own c4) (by simp)
      · simp at hl
    refine (ans_NamesApart rL).mono ?_
    rintro _ N6 ⟨rfl, k6⟩
    simp -implicitDefEqProofs (disch := (first | omega | (simp only [lenB, lowB_len, numB_len, nsumB_len] <;> omega) | fail)) only [admQ, lenB, lowB_len, numB_len, nsumB_len, aFill, AK.cls, implies_true, ↓reduceIte, reduceCtorEq, if_true, if_false, Nat.reduceAdd, Nat.reduceEqDiff, Nat.reduceMod, Nat.reduceLT, Nat.reduceLeDiff, Nat.reduceSub, Nat.reduceMul, Nat.reduceBEq, Int.reduceAdd, Int.reduceSub, Int.reduceMul, Int.reduceNeg, Int.reduceLT, Int.reduceLE, Int.reduceToNat, Int.reduceEq, Int.reduceBEq]
    refine (ans_nworks _).mono ?_
    rintro _ N7 ⟨rfl, k7⟩
    simp -implicitDefEqProofs (disch := (first | omega | (simp only [lenB, lowB_len, numB_len, nsumB_len] <;> omega) | fail)) only [admQ, lenB, lowB_len, numB_len, nsumB_len, aFill, AK.cls, implies_true, ↓reduceIte, reduceCtorEq, if_true, if_false, Nat.reduceAdd, Nat.reduceEqDiff, Nat.reduceMod, Nat.reduceLT, Nat.reduceLeDiff, Nat.reduceSub, Nat.reduceMul, Nat.reduceBEq, Int.reduceAdd, Int.reduceSub, Int.reduceMul, Int.reduceNeg, Int.reduceLT, Int.reduceLE, Int.reduceToNat, Int.reduceEq, Int.reduceBEq]
    exact (((KD.trans K5).trans kF).trans k6).trans k7
theorem ans_NamesKnown (m : Mem) : Ans Try.prog 7 [] m fun r m' => r = .bool true ∧ Kept [] m m' := by
  refine ans_ret mixed ok7 ?_
  simp -implicitDefEqProofs (disch := (first | omega | (simp only [lenB, lowB_len, numB_len, nsumB_len] <;> omega) | fail)) only [admQ, lenB, lowB_len, numB_len, nsumB_len, aFill, AK.cls, implies_true, ↓reduceIte, reduceCtorEq, if_true, if_false, Nat.reduceAdd, Nat.reduceEqDiff, Nat.reduceMod, Nat.reduceLT, Nat.reduceLeDiff, Nat.reduceSub, Nat.reduceMul, Nat.reduceBEq, Int.reduceAdd, Int.reduceSub, Int.reduceMul, Int.reduceNeg, Int.reduceLT, Int.reduceLE, Int.reduceToNat, Int.reduceEq, Int.reduceBEq, q7, r7]
  have hv : knV.map (AV.int .i64) = [.int .i64 (-9223372036854775808), .int .i64 (-1), .int .i64 0, .int .i64 1, .int .i64 2, .int .i64 1099511627776, .int .i64 1099511627777, .int .i64 9223372036854775807] := rfl
  have k0 := Kept.app [] m [Blk.row (knV.map (AV.int .i64)) false]
  have o0 : rowOf (m ++ [Blk.row (knV.map (AV.int .i64)) false]) m.length = some (knV.map (AV.int .i64)) := by rw [rowOf_app_at0]; rfl
  rw [hv] at k0 o0
  generalize m ++ [Blk.row [AV.int .i64 (-9223372036854775808), .int .i64 (-1), .int .i64 0, .int .i64 1, .int .i64 2, .int .i64 1099511627776, .int .i64 1099511627777, .int .i64 9223372036854775807] false] = A at k0 o0
  rw [← hv] at o0
  refine LoopW.on (fun t : Nat × AV => [(1, .sl m.length 0 8 8 0), (2, t.2), (3, .int .i64 t.1)]) (fun t => 8 - t.1) (fun t N => t.1 ≤ 8 ∧ KnI m N t.2 (t.1 * 16)) ?_ (0, .nils) _ _ rfl ⟨by simp, k0, o0, by simp [blkOf], [], [], .nils .., ⟨rfl, fun i o h => by simp at h⟩, rfl⟩
  rintro ⟨i, vg⟩ N X ⟨hi, hI⟩ hX
  simp only at hi hI
  by_cases hlt : i < 8
  · simp -implicitDefEqProofs (disch := (first | omega | (simp only [lenB, lowB_len, numB_len, nsumB_len] <;> omega) | fail)) only [admQ, lenB, lowB_len, numB_len, nsumB_len, aFill, AK.cls, implies_true, ↓reduceIte, reduceCtorEq, if_true, if_false, Nat.reduceAdd, Nat.reduceEqDiff, Nat.reduceMod, Nat.reduceLT, Nat.reduceLeDiff, Nat.reduceSub, Nat.reduceMul, Nat.reduceBEq, Int.reduceAdd, Int.reduceSub, Int.reduceMul, Int.reduceNeg, Int.reduceLT, Int.reduceLE, Int.reduceToNat, Int.reduceEq, Int.reduceBEq, d7_1, d7_2]
    refine LoopW.on (fun t : Nat × AV => [(1, .sl m.length 0 8 8 0), (2, t.2), (3, .int .i64 i), (4, .int .i64 t.1)]) (fun t => 8 - t.1) (fun t N => t.1 ≤ 8 ∧ KnI m N t.2 (i * 16 + t.1 * 2)) ?_ (0, vg) _ _ rfl ⟨by simp, by simpa using hI⟩
    clear hI
    rintro ⟨j, vg⟩ N Y ⟨hj, hI⟩ hY
    simp only at hj hI
    by_cases hltj : j < 8
    · obtain ⟨a, ha⟩ : ∃ a, (knV.map (AV.int .i64))[i]? = some (.int .i64 a) := ⟨knV[i]'hlt, by rw [List.getElem?_map, List.getElem?_eq_getElem hlt]; rfl⟩
      obtain ⟨b, hb⟩ : ∃ a, (knV.map (AV.int .i64))[j]? = some (.int .i64 a) := ⟨knV[j]'hltj, by rw [List.getElem?_map, List.getElem?_eq_getElem hltj]; rfl⟩
      simp -implicitDefEqProofs (disch := (first | omega | (simp only [lenB, lowB_len, numB_len, nsumB_len] <;> omega) | fail)) only [admQ, lenB, lowB_len, numB_len, nsumB_len, aFill, AK.cls, implies_true, ↓reduceIte, reduceCtorEq, if_true, if_false, Nat.reduceAdd, Nat.reduceEqDiff, Nat.reduceMod, Nat.reduceLT, Nat.reduceLeDiff, Nat.reduceSub, Nat.reduceMul, Nat.reduceBEq, Int.reduceAdd, Int.reduceSub, Int.reduceMul, Int.reduceNeg, Int.reduceLT, Int.reduceLE, Int.reduceToNat, Int.reduceEq, Int.reduceBEq, d7_3, d7_4, hI.row, ha, hb]
      have kB := Kept.app [] N [Blk.row [.int .u8 7] false, Blk.row [.int .u8 8, .int .u8 9] false]
      have rowB := kB.row0 hI.row
      have q1 : own (N ++ [Blk.row [.int .u8 7] false, Blk.row [.int .u8 8, .int .u8 9] false]) N.length = some [.int .u8 7] := by rw [own_app_at0]; rfl
      have q2 : own (N ++ [Blk.row [.int .u8 7] false, Blk.row [.int .u8 8, .int .u8 9] false]) (N.length + 1) = some [.int .u8 8, .int .u8 9] := by rw [own_app_at]; rfl
      have hBl : (N ++ [Blk.row [.int .u8 7] false, Blk.row [.int .u8 8, .int .u8 9] false]).length = N.length + 2 := by simp
      generalize N ++ [Blk.row [.int .u8 7] false, Blk.row [.int .u8 8, .int .u8 9] false] = B at *
      have e1 := own_some q1
      have e2 := own_some q2
      simp -implicitDefEqProofs (disch := (first | omega | (simp only [lenB, lowB_len, numB_len, nsumB_len] <;> omega) | fail)) only [admQ, lenB, lowB_len, numB_len, nsumB_len, aFill, AK.cls, implies_true, ↓reduceIte, reduceCtorEq, if_true, if_false, Nat.reduceAdd, Nat.reduceEqDiff, Nat.reduceMod, Nat.reduceLT, Nat.reduceLeDiff, Nat.reduceSub, Nat.reduceMul, Nat.reduceBEq, Int.reduceAdd, Int.reduceSub, Int.reduceMul, Int.reduceNeg, Int.reduceLT, Int.reduceLE, Int.reduceToNat, Int.reduceEq, Int.reduceBEq, rowB, ha, hb, e1, e2]
      obtain ⟨c, L, g, hL, hLn⟩ := hI.ex
      have hoff : m.length ∉ blkOf vg := fun h => absurd (hI.off _ h) (by omega)
      have hgN := g.lt
      have hmN := hI.kept.len
      have hcL := hL.1
      have kC := Kept.app [] B [Blk.row [.int .u8 7] false, Blk.row [AV.int .i64 0, .int .i64 a, .int .i64 b, .int .i64 0, .sl N.length 0 1 1 0, .sl (N.length + 1) 0 2 2 0, .int .u8 0, .int .i64 3, .int .i64 b, .int .i64 a, .int .i64 j, .sl B.length 0 1 1 0, .nils, .int .u8 0] false]
      have q3 : own (B ++ [Blk.row [.int .u8 7] false, Blk.row [AV.int .i64 0, .int .i64 a, .int .i64 b, .int .i64 0, .sl N.length 0 1 1 0, .sl (N.length + 1) 0 2 2 0, .int .u8 0, .int .i64 3, .int .i64 b, .int .i64 a, .int .i64 j, .sl B.length 0 1 1 0, .nils, .int .u8 0] false]) B.length = some [.int .u8 7] := by rw [own_app_at0]; rfl
      have q4 : own (B ++ [Blk.row [.int .u8 7] false, Blk.row [AV.int .i64 0, .int .i64 a, .int .i64 b, .int .i64 0, .sl N.length 0 1 1 0, .sl (N.length + 1) 0 2 2 0, .int .u8 0, .int .i64 3, .int .i64 b, .int .i64 a, .int .i64 j, .sl B.length 0 1 1 0, .nils, .int .u8 0] false]) (B.length + 1) = some [AV.int .i64 0, .int .i64 a, .int .i64 b, .int .i64 0, .sl N.length 0 1 1 0, .sl (N.length + 1) 0 2 2 0, .int .u8 0, .int .i64 3, .int .i64 b, .int .i64 a, .int .i64 j, .sl B.length 0 1 1 0, .nils, .int .u8 0] := by rw [own_app_at]; rfl
      have hCl : (B ++ [Blk.row [.int .u8 7] false, Blk.row [AV.int .i64 0, .int .i64 a, .int .i64 b, .int .i64 0, .sl N.length 0 1 1 0, .sl (N.length + 1) 0 2 2 0, .int .u8 0, .int .i64 3, .int .i64 b, .int .i64 a, .int .i64 j, .sl B.length 0 1 1 0, .nils, .int .u8 0] false]).length = B.length + 2 := by simp
      have q1C := kC.own q1 (by simp)
      have q2C := kC.own q2 (by simp)
      have rowC := kC.row0 rowB
      obtain ⟨v2, m2, ea, gv2, kv2, av2, nv2⟩ := GrA.pushs5 (bytes := 88) (k := 2) (y := .sl (B.length + 1) 0 2 2 0) ((g.kept0 kB).kept0 kC) (by omega) (elems_row (rowOf_own q4) rfl 2 0) rfl rfl (by omega) (by omega)
      refine someW_eq ea ?_
      generalize B ++ [Blk.row [.int .u8 7] false, Blk.row [AV.int .i64 0, .int .i64 a, .int .i64 b, .int .i64 0, .sl N.length 0 1 1 0, .sl (N.length + 1) 0 2 2 0, .int .u8 0, .int .i64 3, .int .i64 b, .int .i64 a, .int .i64 j, .sl B.length 0 1 1 0, .nils, .int .u8 0] false] = C at *
      have nn : ∀ q, N.length ≤ q → q ∉ blkOf vg := fun q h1 h2 => by have := hgN q h2; omega
      have p1 := kv2.own q1C (nn _ (by omega))
      have p2 := kv2.own q2C (nn _ (by omega))
      have p3 := kv2.own q3 (nn _ (by omega))
      have p4 := kv2.own q4 (nn _ (by omega))
      have prow := kv2.row rowC hoff
      simp -implicitDefEqProofs (disch := (first | omega | (simp only [lenB, lowB_len, numB_len, nsumB_len] <;> omega) | fail)) only [admQ, lenB, lowB_len, numB_len, nsumB_len, aFill, AK.cls, implies_true, ↓reduceIte, reduceCtorEq, if_true, if_false, Nat.reduceAdd, Nat.reduceEqDiff, Nat.reduceMod, Nat.reduceLT, Nat.reduceLeDiff, Nat.reduceSub, Nat.reduceMul, Nat.reduceBEq, Int.reduceAdd, Int.reduceSub, Int.reduceMul, Int.reduceNeg, Int.reduceLT, Int.reduceLE, Int.reduceToNat, Int.reduceEq, Int.reduceBEq, prow, ha, hb, own_some p1, own_some p2, own_some p3, own_some p4]
      have kall : Kept (blkOf vg) N m2 := ((kB.trans kC).more (by simp)).trans kv2
      have hv2 : ∀ q ∈ blkOf v2, C.length ≤ q := nv2 (by omega)
      have r1 := RdB.row (l := [7#8]) 1 0 (rowOf_own p1) (by simp)
      have r2 := RdB.row (l := [8#8, 9#8]) 2 0 (rowOf_own p2) (by simp)
      have r3 := RdB.row (l := [7#8]) 1 0 (rowOf_own p3) (by simp)
      have gb : ∀ q, q < C.length → q ∉ blkOf v2 := fun q h1 h2 => by have := hv2 q h2; omega
      refine hY (j + 1, v2) _ _ rfl (by simp only; omega) ⟨by simp only; omega, kept_over hI.kept kall fun q hq => .inr ?_, prow, fun q hq => by have := hv2 q hq; omega, _, (L ++ [⟨0, a, b, 0, [7#8], [8#8, 9#8], 0#8⟩]) ++ [⟨3, b, a, j, [7#8], [], 0#8⟩], gv2, ?_, by simp [hLn]; omega⟩
      · have := hI.off q hq; omega
      · have hold : OsL m2 (fun q => q ∉ blkOf v2) c L := hL.kept kall (fun q hq => hq) fun q _ hq => gb q (by omega)
        have h1 := hold.snoc (o := ⟨0, a, b, 0, [7#8], [8#8, 9#8], 0#8⟩) r1 r2 (by simp only [blkOf, List.mem_singleton]; rintro q rfl; exact gb _ (by omega)) (by simp only [blkOf, List.mem_singleton]; rintro q rfl; exact gb _ (by omega))
        have h2 := h1.snoc (o := ⟨3, b, a, j, [7#8], [], 0#8⟩) r3 (.nils _) (by simp only [blkOf, List.mem_singleton]; rintro q rfl; exact gb _ (by omega)) (by simp [blkOf])
        rw [List.append_assoc] at h2
        exact h2
    · obtain rfl : j = 8 := by omega
      simp -implicitDefEqProofs (disch := (first | omega | (simp only [lenB, lowB_len, numB_len, nsumB_len] <;> omega) | fail)) only [admQ, lenB, lowB_len, numB_len, nsumB_len, aFill, AK.cls, implies_true, ↓reduceIte, reduceCtorEq, if_true, if_false, Nat.reduceAdd, Nat.reduceEqDiff, Nat.reduceMod, Nat.reduceLT, Nat.reduceLeDiff, Nat.reduceSub, Nat.reduceMul, Nat.reduceBEq, Int.reduceAdd, Int.reduceSub, Int.reduceMul, Int.reduceNeg, Int.reduceLT, Int.reduceLE, Int.reduceToNat, Int.reduceEq, Int.reduceBEq, d7_3]
      refine hX (i + 1, vg) _ _ rfl (by simp only; omega) ⟨by simp only; omega, ?_⟩
      rw [show (i + 1) * 16 = i * 16 + 8 * 2 by omega]; exact hI
  · obtain rfl : i = 8 := by omega
    simp -implicitDefEqProofs (disch := (first | omega | (simp only [lenB, lowB_len, numB_len, nsumB_len] <;> omega) | fail)) only [admQ, lenB, lowB_len, numB_len, nsumB_len, aFill, AK.cls, implies_true, ↓reduceIte, reduceCtorEq, if_true, if_false, Nat.reduceAdd, Nat.reduceEqDiff, Nat.reduceMod, Nat.reduceLT, Nat.reduceLeDiff, Nat.reduceSub, Nat.reduceMul, Nat.reduceBEq, Int.reduceAdd, Int.reduceSub, Int.reduceMul, Int.reduceNeg, Int.reduceLT, Int.reduceLE, Int.reduceToNat, Int.reduceEq, Int.reduceBEq, d7_1]
    exact knTail hI
end Go.Proofs.Ytodkgembfcddbaa
end
