/- AES: the document's rounds. -/
import Derived.Test.YthdkclkiegkabaaAeL
import Derived.Test.YthdkclkiegkabaaAdme
namespace Go.Proofs.Ythdkclkiegkabaa
open Go Go.Adm
set_option linter.unusedSimpArgs false
set_option maxRecDepth 100000
def wd (B : List B8) (i : Nat) : List B8 := tab 4 fun j => gb B (4 * i + j)
theorem wd_len (B : List B8) (i : Nat) : (wd B i).length = 4 := tab_len _ _
/-- A list of words of four bytes, each a slice. -/
def RW (m : Mem) (cells : List AV) (B : List B8) : Prop := cells.length * 4 = B.length ∧ ∀ i, i < cells.length → ∃ x, cells[i]? = some x ∧ RdB m x (wd B i)
theorem RW.kept0 {m m' : Mem} {cells : List AV} {B : List B8} (h : RW m cells B) (hk : Kept [] m m') : RW m' cells B :=
  ⟨h.1, fun i hi => let ⟨x, h1, h2⟩ := h.2 i hi; ⟨x, h1, h2.kept0 hk⟩⟩
structure RCiph (m : Mem) (c n : Nat) (B : List B8) : Prop where
  ex : ∃ wp tp cells, rowOf m c = some [.sl wp 0 (4 * n) (4 * n) 1, .sl tp 0 256 256 1] ∧ rowOf m wp = some cells ∧ rowOf m tp = some (bys sboxL) ∧ RW m cells B
  len : B.length = n * 16
  pos : 2 ≤ n ∧ n ≤ 100
theorem RCiph.kept0 {m m' : Mem} {c n : Nat} {B : List B8} (h : RCiph m c n B) (hk : Kept [] m m') : RCiph m' c n B := by
  obtain ⟨wp, tp, cells, h1, h2, h3, h4⟩ := h.ex
  exact ⟨⟨wp, tp, cells, hk.row0 h1, hk.row0 h2, hk.row0 h3, h4.kept0 hk⟩, h.len, h.pos⟩
theorem gb_key {B : List B8} {r i : Nat} (hi : i < 16) : gb (keyAt B r) i = gb B (r * 16 + i) := by
  simp only [gb, keyAt, List.getD_eq_getElem?_getD, List.getElem?_take_of_lt hi, List.getElem?_drop]

theorem ans_rover {m : Mem} {c n r : Nat} {B s : List B8} {x : AV} (hc : RCiph m c n B) (hx : RdB m x s) (hs : s.length = 16) (hr : r < n) : Ans Try.prog 36 [.ptr c 0, x, .int .i64 r] m fun v m' => Kept [] m m' ∧ GrB m.length m' v (ovr s (keyAt B r)) := by
  refine ans_ret mixed ok36 ?_
  have hn := hc.pos
  obtain ⟨wp, tp, cells, c1, c2, c3, hw, hcw⟩ := hc.ex
  have hB := hc.len
  simp -implicitDefEqProofs (disch := (first | omega | (simp only [lenB, ovr_len, mixB_len, subs_len, runB_len, wd_len] <;> omega) | fail)) only [admQ, lenB, ovr_len, mixB_len, subs_len, runB_len, wd_len, aFill, ↓reduceIte, reduceCtorEq, if_true, if_false, Nat.reduceAdd, Nat.reduceEqDiff, Nat.reduceMod, Nat.reduceLT, Nat.reduceLeDiff, Nat.reduceSub, Nat.reduceMul, Nat.reduceBEq, Int.reduceAdd, Int.reduceSub, Int.reduceMul, Int.reduceNeg, Int.reduceLT, Int.reduceLE, Int.reduceToNat, Int.reduceEq, Int.reduceBEq, c36, r36]
  refine LoopW.on (fun s : Nat × AV => [(0, .ptr c 0), (1, x), (2, .int .i64 r), (7, s.2), (8, .int .i64 s.1)]) (fun s => 16 - s.1)
    (fun z m' => z.1 ≤ 16 ∧ Kept [] m m' ∧ GrB m.length m' z.2 ((ovr s (keyAt B r)).take z.1)) ?_ (0, .nils) _ _ rfl ⟨by omega, .refl _ _, GrA.nils _ _ _⟩
  rintro ⟨i, xo⟩ m' X ⟨hi, hk, hg⟩ hX
  dsimp only at hi hg hX ⊢
  by_cases hlt : i < 16
  · obtain ⟨b1, o1, cap1, s1, d1, rfl, hr1, hg1, hl1, hc1, hs1, ht1⟩ := (hx.kept0 hk).cons (show i < s.length by omega)
    obtain ⟨w, hw1, hw2⟩ := hcw (4 * r + i / 4) (by omega)
    obtain ⟨b2, o2, cap2, s2, d2, rfl, hr2, hg2, hl2, hc2, hs2, ht2⟩ := (hw2.kept0 hk).cons (show i % 4 < (wd B (4 * r + i / 4)).length by rw [wd_len]; omega)
    have e1 := hg1 i (by omega)
    have e2 := hg2 (i % 4) (by rw [wd_len]; omega)
    have e3 : gb s i ^^^ gb (wd B (4 * r + i / 4)) (i % 4) = gb (ovr s (keyAt B r)) i := by
      rw [ovr, gb_tab _ hlt, wd, gb_tab _ (by omega), gb_key hlt, show 4 * (4 * r + i / 4) + i % 4 = r * 16 + i by omega]
    obtain ⟨xo', m2, ha, hg2, hk2, hf2⟩ := hg.push (gb (ovr s (keyAt B r)) i) (by simp [ovr_len]; omega) hk.len
    simp -implicitDefEqProofs (disch := (first | omega | (simp only [lenB, ovr_len, mixB_len, subs_len, runB_len, wd_len] <;> omega) | fail)) only [admQ, lenB, ovr_len, mixB_len, subs_len, runB_len, wd_len, aFill, ↓reduceIte, reduceCtorEq, if_true, if_false, Nat.reduceAdd, Nat.reduceEqDiff, Nat.reduceMod, Nat.reduceLT, Nat.reduceLeDiff, Nat.reduceSub, Nat.reduceMul, Nat.reduceBEq, Int.reduceAdd, Int.reduceSub, Int.reduceMul, Int.reduceNeg, Int.reduceLT, Int.reduceLE, Int.reduceToNat, Int.reduceEq, Int.reduceBEq, hr1, e1, hk.row0 c1, hk.row0 c2, hw1, hr2, e2, e3, ha]
    exact hX (i + 1, xo') _ _ rfl (by simp; omega) ⟨by simp; omega, hf2 _ _ hk (Nat.le_refl _), by rw [take_gb (by rw [ovr_len]; omega)]; exact hg2⟩
  · obtain rfl : i = 16 := by omega
    simp -implicitDefEqProofs (disch := (first | omega | (simp only [lenB, ovr_len, mixB_len, subs_len, runB_len, wd_len] <;> omega) | fail)) only [admQ, lenB, ovr_len, mixB_len, subs_len, runB_len, wd_len, aFill, ↓reduceIte, reduceCtorEq, if_true, if_false, Nat.reduceAdd, Nat.reduceEqDiff, Nat.reduceMod, Nat.reduceLT, Nat.reduceLeDiff, Nat.reduceSub, Nat.reduceMul, Nat.reduceBEq, Int.reduceAdd, Int.reduceSub, Int.reduceMul, Int.reduceNeg, Int.reduceLT, Int.reduceLE, Int.reduceToNat, Int.reduceEq, Int.reduceBEq]
    exact ⟨hk, by rwa [List.take_of_length_le (by rw [ovr_len]; omega)] at hg⟩

theorem times2 (b : B8) : times 2#8 b = tw b := all256 (P := fun b => times 2#8 b = tw b) (by decide +kernel) b
theorem times3 (b : B8) : times 3#8 b = b ^^^ tw b := all256 (P := fun b => times 3#8 b = b ^^^ tw b) (by decide +kernel) b
theorem ans_times2 (b : B8) (m : Mem) : Ans Try.prog 38 [.int .u8 2, b8 b] m fun r m' => r = b8 (tw b) ∧ m' = m := by
  rw [← times2]; exact ans_rtimes 2#8 b m
theorem ans_times3 (b : B8) (m : Mem) : Ans Try.prog 38 [.int .u8 3, b8 b] m fun r m' => r = b8 (b ^^^ tw b) ∧ m' = m := by
  rw [← times3]; exact ans_rtimes 3#8 b m
theorem mix_word (s : List B8) {q : Nat} (hq : q < 4) : (mixB s).take (4 * (q + 1)) = (mixB s).take (4 * q) ++
    [tw (gb s (4 * q)) ^^^ (gb s (4 * q + 1) ^^^ tw (gb s (4 * q + 1))) ^^^ gb s (4 * q + 2) ^^^ gb s (4 * q + 3),
     gb s (4 * q) ^^^ tw (gb s (4 * q + 1)) ^^^ (gb s (4 * q + 2) ^^^ tw (gb s (4 * q + 2))) ^^^ gb s (4 * q + 3),
     gb s (4 * q) ^^^ gb s (4 * q + 1) ^^^ tw (gb s (4 * q + 2)) ^^^ (gb s (4 * q + 3) ^^^ tw (gb s (4 * q + 3))),
     (gb s (4 * q) ^^^ tw (gb s (4 * q))) ^^^ gb s (4 * q + 1) ^^^ gb s (4 * q + 2) ^^^ tw (gb s (4 * q + 3))] := by
  have hc := mix_col (s := s) hq
  simp only [colOf, col, Prod.mk.injEq, tw_xor] at hc
  obtain ⟨h0, h1, h2, h3⟩ := hc
  have e : 4 * (q + 1) = 4 * q + 1 + 1 + 1 + 1 := by omega
  rw [e, take_gb (by rw [mixB_len]; omega), take_gb (by rw [mixB_len]; omega), take_gb (by rw [mixB_len]; omega), take_gb (by rw [mixB_len]; omega)]
  rw [h0, h1, show 4 * q + 1 + 1 = 4 * q + 2 by omega, h2, show 4 * q + 1 + 1 + 1 = 4 * q + 3 by omega, h3]
  simp only [List.append_assoc, List.cons_append, List.nil_append, List.append_cancel_left_eq, List.cons.injEq, and_true]
  refine ⟨?_, ?_, ?_, ?_⟩ <;>
    simp only [BitVec.xor_assoc, BitVec.xor_comm, xor_lc, xor_cancel, BitVec.xor_self, BitVec.xor_zero, BitVec.zero_xor]
theorem ans_rmixed {m : Mem} {s : List B8} {x : AV} (hx : RdB m x s) (hs : s.length = 16) : Ans Try.prog 37 [x] m fun v m' => Kept [] m m' ∧ GrB m.length m' v (mixB s) := by
  refine ans_ret mixed ok37 ?_
  simp -implicitDefEqProofs (disch := (first | omega | (simp only [lenB, ovr_len, mixB_len, subs_len, runB_len, wd_len] <;> omega) | fail)) only [admQ, lenB, ovr_len, mixB_len, subs_len, runB_len, wd_len, aFill, ↓reduceIte, reduceCtorEq, if_true, if_false, Nat.reduceAdd, Nat.reduceEqDiff, Nat.reduceMod, Nat.reduceLT, Nat.reduceLeDiff, Nat.reduceSub, Nat.reduceMul, Nat.reduceBEq, Int.reduceAdd, Int.reduceSub, Int.reduceMul, Int.reduceNeg, Int.reduceLT, Int.reduceLE, Int.reduceToNat, Int.reduceEq, Int.reduceBEq, c37, r37]
  refine LoopW.on (fun s : Nat × AV => [(0, x), (3, s.2), (4, .int .i64 s.1)]) (fun s => 4 - s.1)
    (fun z m' => z.1 ≤ 4 ∧ Kept [] m m' ∧ GrB m.length m' z.2 ((mixB s).take (4 * z.1))) ?_ (0, .nils) _ _ rfl ⟨by omega, .refl _ _, GrA.nils _ _ _⟩
  rintro ⟨q, xo⟩ m' X ⟨hq, hk, hg⟩ hX
  dsimp only at hq hg hX ⊢
  by_cases hlt : q < 4
  · obtain ⟨b1, o1, cap1, s1, d1, rfl, hr1, hg1, hl1, hc1, hs1, ht1⟩ := (hx.kept0 hk).cons (show 0 < s.length by omega)
    have e0 := hg1 (4 * q) (by omega)
    have e1 := hg1 (4 * q + 1) (by omega)
    have e2 := hg1 (4 * q + 2) (by omega)
    have e3 := hg1 (4 * q + 3) (by omega)
    simp -implicitDefEqProofs (disch := (first | omega | (simp only [lenB, ovr_len, mixB_len, subs_len, runB_len, wd_len] <;> omega) | fail)) only [admQ, lenB, ovr_len, mixB_len, subs_len, runB_len, wd_len, aFill, ↓reduceIte, reduceCtorEq, if_true, if_false, Nat.reduceAdd, Nat.reduceEqDiff, Nat.reduceMod, Nat.reduceLT, Nat.reduceLeDiff, Nat.reduceSub, Nat.reduceMul, Nat.reduceBEq, Int.reduceAdd, Int.reduceSub, Int.reduceMul, Int.reduceNeg, Int.reduceLT, Int.reduceLE, Int.reduceToNat, Int.reduceEq, Int.reduceBEq, hr1, e0, e1, e2, e3]
    iterate 8
      first
        | refine (ans_times2 _ _).mono ?_
        | refine (ans_times3 _ _).mono ?_
      rintro _ _ ⟨rfl, rfl⟩
      simp -implicitDefEqProofs (disch := (first | omega | (simp only [lenB, ovr_len, mixB_len, subs_len, runB_len, wd_len] <;> omega) | fail)) only [admQ, lenB, ovr_len, mixB_len, subs_len, runB_len, wd_len, aFill, ↓reduceIte, reduceCtorEq, if_true, if_false, Nat.reduceAdd, Nat.reduceEqDiff, Nat.reduceMod, Nat.reduceLT, Nat.reduceLeDiff, Nat.reduceSub, Nat.reduceMul, Nat.reduceBEq, Int.reduceAdd, Int.reduceSub, Int.reduceMul, Int.reduceNeg, Int.reduceLT, Int.reduceLE, Int.reduceToNat, Int.reduceEq, Int.reduceBEq]
    have hmw := mix_word s hlt
    rename_i M
    generalize tw (gb s (4 * q)) ^^^ (gb s (4 * q + 1) ^^^ tw (gb s (4 * q + 1))) ^^^ gb s (4 * q + 2) ^^^ gb s (4 * q + 3) = v0 at hmw ⊢
    generalize gb s (4 * q) ^^^ tw (gb s (4 * q + 1)) ^^^ (gb s (4 * q + 2) ^^^ tw (gb s (4 * q + 2))) ^^^ gb s (4 * q + 3) = v1 at hmw ⊢
    generalize gb s (4 * q) ^^^ gb s (4 * q + 1) ^^^ tw (gb s (4 * q + 2)) ^^^ (gb s (4 * q + 3) ^^^ tw (gb s (4 * q + 3))) = v2 at hmw ⊢
    generalize gb s (4 * q) ^^^ tw (gb s (4 * q)) ^^^ gb s (4 * q + 1) ^^^ gb s (4 * q + 2) ^^^ tw (gb s (4 * q + 3)) = v3 at hmw ⊢
    obtain ⟨xo', m2, ha, hg2, hk2, hf2⟩ := GrB.pushs (hg.kept0 (.app [] M [.row (bys [v0, v1, v2, v3]) false])) (RdB.row (l := [v0, v1, v2, v3]) (b := M.length) 4 0 (by rw [rowOf_app_at0]; rfl) (by simp)) (by simp [mixB_len]; omega) (by have := hk.len; simp; omega)
    have ha' : aAppend 1 1 xo (.sl M.length 0 4 4 0) (M ++ [.row [b8 v0, b8 v1, b8 v2, b8 v3] false]) = some (xo', m2) := ha
    simp -implicitDefEqProofs (disch := (first | omega | (simp only [lenB, ovr_len, mixB_len, subs_len, runB_len, wd_len] <;> omega) | fail)) only [admQ, lenB, ovr_len, mixB_len, subs_len, runB_len, wd_len, aFill, ↓reduceIte, reduceCtorEq, if_true, if_false, Nat.reduceAdd, Nat.reduceEqDiff, Nat.reduceMod, Nat.reduceLT, Nat.reduceLeDiff, Nat.reduceSub, Nat.reduceMul, Nat.reduceBEq, Int.reduceAdd, Int.reduceSub, Int.reduceMul, Int.reduceNeg, Int.reduceLT, Int.reduceLE, Int.reduceToNat, Int.reduceEq, Int.reduceBEq, ha']
    exact hX (q + 1, xo') _ _ rfl (by simp; omega) ⟨by simp; omega, hf2 _ _ (hk.more_app _) (Nat.le_refl _), by rw [hmw]; exact hg2⟩
  · obtain rfl : q = 4 := by omega
    simp -implicitDefEqProofs (disch := (first | omega | (simp only [lenB, ovr_len, mixB_len, subs_len, runB_len, wd_len] <;> omega) | fail)) only [admQ, lenB, ovr_len, mixB_len, subs_len, runB_len, wd_len, aFill, ↓reduceIte, reduceCtorEq, if_true, if_false, Nat.reduceAdd, Nat.reduceEqDiff, Nat.reduceMod, Nat.reduceLT, Nat.reduceLeDiff, Nat.reduceSub, Nat.reduceMul, Nat.reduceBEq, Int.reduceAdd, Int.reduceSub, Int.reduceMul, Int.reduceNeg, Int.reduceLT, Int.reduceLE, Int.reduceToNat, Int.reduceEq, Int.reduceBEq]
    exact ⟨hk, by rwa [List.take_of_length_le (by rw [mixB_len]; omega)] at hg⟩

theorem subs_alt {S : List B8} {i : Nat} (hi : i < 16) : sb (gb S (4 * ((i / 4 + i % 4) % 4) + i % 4)) = gb (subs S) i := by
  rw [subs, gb_tab _ hi, show 4 * ((i / 4 + i % 4) % 4) + i % 4 = (i + 4 * (i % 4)) % 16 by omega]
theorem ans_rblock {m : Mem} {c n : Nat} {B : List B8} (hc : RCiph m c n B) (b : List B8) (hb : b.length = 16) : Ans Try.prog 34 [.ptr c 0, .agg (bys b)] m fun r m' => r = .agg (bys (blockB B n b)) ∧ Kept [] m m' := by
  refine ans_ret mixed ok34 ?_
  have hn := hc.pos
  have hB := hc.len
  simp -implicitDefEqProofs (disch := (first | omega | (simp only [lenB, ovr_len, mixB_len, subs_len, runB_len, wd_len] <;> omega) | fail)) only [admQ, lenB, ovr_len, mixB_len, subs_len, runB_len, wd_len, aFill, ↓reduceIte, reduceCtorEq, if_true, if_false, Nat.reduceAdd, Nat.reduceEqDiff, Nat.reduceMod, Nat.reduceLT, Nat.reduceLeDiff, Nat.reduceSub, Nat.reduceMul, Nat.reduceBEq, Int.reduceAdd, Int.reduceSub, Int.reduceMul, Int.reduceNeg, Int.reduceLT, Int.reduceLE, Int.reduceToNat, Int.reduceEq, Int.reduceBEq, c34, r34]
  have ha := app_new (m := m ++ [.row (bys b) false, .row (bys (List.replicate 16 0#8)) false, .row [] false]) (x := .sl m.length 0 16 16 0) (b := m.length + 1 + 1) (s := 0) (l := b) (by rw [← hb]; exact RdB.row (l := b) b.length 0 (by simp -implicitDefEqProofs (disch := (first | omega | (simp only [lenB, ovr_len, mixB_len, subs_len, runB_len, wd_len] <;> omega) | fail)) only [admQ, lenB, ovr_len, mixB_len, subs_len, runB_len, wd_len, aFill, ↓reduceIte, reduceCtorEq, if_true, if_false, Nat.reduceAdd, Nat.reduceEqDiff, Nat.reduceMod, Nat.reduceLT, Nat.reduceLeDiff, Nat.reduceSub, Nat.reduceMul, Nat.reduceBEq, Int.reduceAdd, Int.reduceSub, Int.reduceMul, Int.reduceNeg, Int.reduceLT, Int.reduceLE, Int.reduceToNat, Int.reduceEq, Int.reduceBEq]) (Nat.le_refl _)) (by omega) (by omega) rfl
  simp -implicitDefEqProofs (disch := (first | omega | (simp only [lenB, ovr_len, mixB_len, subs_len, runB_len, wd_len] <;> omega) | fail)) only [admQ, lenB, ovr_len, mixB_len, subs_len, runB_len, wd_len, aFill, ↓reduceIte, reduceCtorEq, if_true, if_false, Nat.reduceAdd, Nat.reduceEqDiff, Nat.reduceMod, Nat.reduceLT, Nat.reduceLeDiff, Nat.reduceSub, Nat.reduceMul, Nat.reduceBEq, Int.reduceAdd, Int.reduceSub, Int.reduceMul, Int.reduceNeg, Int.reduceLT, Int.reduceLE, Int.reduceToNat, Int.reduceEq, Int.reduceBEq, ha, hb]
  have hx0 : RdB (m ++ [.row (bys b) false, .row (bys (List.replicate 16 0#8)) false, .row [] false, .row (bys b) false]) (.sl (m.length + 3) 0 16 16 1) b := by
    rw [← hb]; exact RdB.row (l := b) b.length 1 (by simp -implicitDefEqProofs (disch := (first | omega | (simp only [lenB, ovr_len, mixB_len, subs_len, runB_len, wd_len] <;> omega) | fail)) only [admQ, lenB, ovr_len, mixB_len, subs_len, runB_len, wd_len, aFill, ↓reduceIte, reduceCtorEq, if_true, if_false, Nat.reduceAdd, Nat.reduceEqDiff, Nat.reduceMod, Nat.reduceLT, Nat.reduceLeDiff, Nat.reduceSub, Nat.reduceMul, Nat.reduceBEq, Int.reduceAdd, Int.reduceSub, Int.reduceMul, Int.reduceNeg, Int.reduceLT, Int.reduceLE, Int.reduceToNat, Int.reduceEq, Int.reduceBEq]) (Nat.le_refl _)
  have o4 : own (m ++ [.row (bys b) false, .row (bys (List.replicate 16 0#8)) false, .row [] false, .row (bys b) false]) (m.length + 1) = some (bys (List.replicate 16 0#8)) := by simp -implicitDefEqProofs (disch := (first | omega | (simp only [lenB, ovr_len, mixB_len, subs_len, runB_len, wd_len] <;> omega) | fail)) only [admQ, lenB, ovr_len, mixB_len, subs_len, runB_len, wd_len, aFill, ↓reduceIte, reduceCtorEq, if_true, if_false, Nat.reduceAdd, Nat.reduceEqDiff, Nat.reduceMod, Nat.reduceLT, Nat.reduceLeDiff, Nat.reduceSub, Nat.reduceMul, Nat.reduceBEq, Int.reduceAdd, Int.reduceSub, Int.reduceMul, Int.reduceNeg, Int.reduceLT, Int.reduceLE, Int.reduceToNat, Int.reduceEq, Int.reduceBEq]
  have hk0 : Kept [] m (m ++ [.row (bys b) false, .row (bys (List.replicate 16 0#8)) false, .row [] false, .row (bys b) false]) := .app _ _ _
  generalize m ++ [Blk.row (bys b) false, Blk.row (bys (List.replicate 16 0#8)) false, Blk.row [] false, Blk.row (bys b) false] = M at *
  have hcM := hc.kept0 hk0
  refine (ans_rover (r := 0) hcM hx0 hb (by omega)).mono ?_
  rintro x1 M1 ⟨hk1, hg1⟩
  have hc1 := hcM.kept0 hk1
  obtain ⟨wp, tp, cells, c1, _⟩ := hc1.ex
  have h4n : 4 * n / 4 = n := by omega
  simp -implicitDefEqProofs (disch := (first | omega | (simp only [lenB, ovr_len, mixB_len, subs_len, runB_len, wd_len] <;> omega) | fail)) only [admQ, lenB, ovr_len, mixB_len, subs_len, runB_len, wd_len, aFill, ↓reduceIte, reduceCtorEq, if_true, if_false, Nat.reduceAdd, Nat.reduceEqDiff, Nat.reduceMod, Nat.reduceLT, Nat.reduceLeDiff, Nat.reduceSub, Nat.reduceMul, Nat.reduceBEq, Int.reduceAdd, Int.reduceSub, Int.reduceMul, Int.reduceNeg, Int.reduceLT, Int.reduceLE, Int.reduceToNat, Int.reduceEq, Int.reduceBEq, c1, h4n]
  refine LoopW.on (fun z : Nat × AV => [(0, .ptr c 0), (4, .ptr (m.length + 1) 0), (5, z.2), (6, .int .i64 ((n - 1 : Nat) : Int)), (7, .int .i64 ((z.1 + 1 : Nat) : Int))]) (fun z => n - 1 - z.1)
    (fun z m' => z.1 ≤ n - 1 ∧ Kept [] M m' ∧ RdB m' z.2 (runB B n b z.1)) ?_ (0, x1) _ _ rfl ⟨by omega, hk1, hg1.rd⟩
  clear hx0 hg1 hk1 hc1 c1
  rintro ⟨r, x⟩ m' X ⟨hr, hk, hx⟩ hX
  dsimp only at hr hx hX ⊢
  have hc2 := hcM.kept0 hk
  have hnx : runB B n b (r + 1) = roundB B n r (runB B n b r) := rfl
  by_cases hlt : r < n - 1
  · have hS := runB_len B n b r
    generalize runB B n b r = S at *
    simp -implicitDefEqProofs (disch := (first | omega | (simp only [lenB, ovr_len, mixB_len, subs_len, runB_len, wd_len] <;> omega) | fail)) only [admQ, lenB, ovr_len, mixB_len, subs_len, runB_len, wd_len, aFill, ↓reduceIte, reduceCtorEq, if_true, if_false, Nat.reduceAdd, Nat.reduceEqDiff, Nat.reduceMod, Nat.reduceLT, Nat.reduceLeDiff, Nat.reduceSub, Nat.reduceMul, Nat.reduceBEq, Int.reduceAdd, Int.reduceSub, Int.reduceMul, Int.reduceNeg, Int.reduceLT, Int.reduceLE, Int.reduceToNat, Int.reduceEq, Int.reduceBEq]
    refine LoopW.on (fun z : Nat × AV => [(0, .ptr c 0), (4, .ptr (m.length + 1) 0), (5, x), (6, .int .i64 ((n - 1 : Nat) : Int)), (7, .int .i64 ((r + 1 : Nat) : Int)), (8, z.2), (9, .int .i64 z.1)]) (fun z => 16 - z.1)
      (fun z m2 => z.1 ≤ 16 ∧ Kept [] m' m2 ∧ GrB m'.length m2 z.2 ((subs S).take z.1)) ?_ (0, .nils) _ _ rfl ⟨by omega, .refl _ _, GrA.nils _ _ _⟩
    rintro ⟨i, xt⟩ m2 X2 ⟨hi, hk2, hg⟩ hX2
    dsimp only at hi hg hX2 ⊢
    by_cases hl2 : i < 16
    · obtain ⟨b1, o1, cap1, s1, d1, rfl, hr1, hg1, hl1, hc1, hs1, ht1⟩ := (hx.kept0 hk2).cons (show i < S.length by omega)
      obtain ⟨wp, tp, cells, c1, _, c3, _⟩ := (hc2.kept0 hk2).ex
      have e1 := hg1 (4 * ((i / 4 + i % 4) % 4) + i % 4) (by omega)
      have e2 := sbox_cell (gb S (4 * ((i / 4 + i % 4) % 4) + i % 4))
      obtain ⟨xt', m3, ha, hg2, hk3, hf3⟩ := hg.push (gb (subs S) i) (by simp [subs_len]; omega) hk2.len
      simp -implicitDefEqProofs (disch := (first | omega | (simp only [lenB, ovr_len, mixB_len, subs_len, runB_len, wd_len] <;> omega) | fail)) only [admQ, lenB, ovr_len, mixB_len, subs_len, runB_len, wd_len, aFill, ↓reduceIte, reduceCtorEq, if_true, if_false, Nat.reduceAdd, Nat.reduceEqDiff, Nat.reduceMod, Nat.reduceLT, Nat.reduceLeDiff, Nat.reduceSub, Nat.reduceMul, Nat.reduceBEq, Int.reduceAdd, Int.reduceSub, Int.reduceMul, Int.reduceNeg, Int.reduceLT, Int.reduceLE, Int.reduceToNat, Int.reduceEq, Int.reduceBEq, c1, c3, hr1, e1, e2, subs_alt hl2, ha]
      exact hX2 (i + 1, xt') _ _ rfl (by simp; omega) ⟨by simp; omega, hf3 _ _ hk2 (Nat.le_refl _), by rw [take_gb (by rw [subs_len]; omega)]; exact hg2⟩
    · obtain rfl : i = 16 := by omega
      rw [List.take_of_length_le (by rw [subs_len]; omega)] at hg
      have hkk := hk.trans hk2
      have fin : ∀ (v : AV) (m4 : Mem), Kept [] m2 m4 → RdB m4 v (roundB B n r S) → X [(0, .ptr c 0), (4, .ptr (m.length + 1) 0), (5, v), (6, .int .i64 ((n - 1 : Nat) : Int)), (7, .int .i64 ((r + 1 + 1 : Nat) : Int))] m4 := fun v m4 h1 h2 =>
        hX (r + 1, v) _ _ rfl (by simp; omega) ⟨by simp; omega, hkk.trans h1, by rw [hnx]; exact h2⟩
      by_cases hm : r + 2 < n
      · have e1 : roundB B n r S = ovr (mixB (subs S)) (keyAt B (r + 1)) := by rw [roundB, if_pos hm]
        simp -implicitDefEqProofs (disch := (first | omega | (simp only [lenB, ovr_len, mixB_len, subs_len, runB_len, wd_len] <;> omega) | fail)) only [admQ, lenB, ovr_len, mixB_len, subs_len, runB_len, wd_len, aFill, ↓reduceIte, reduceCtorEq, if_true, if_false, Nat.reduceAdd, Nat.reduceEqDiff, Nat.reduceMod, Nat.reduceLT, Nat.reduceLeDiff, Nat.reduceSub, Nat.reduceMul, Nat.reduceBEq, Int.reduceAdd, Int.reduceSub, Int.reduceMul, Int.reduceNeg, Int.reduceLT, Int.reduceLE, Int.reduceToNat, Int.reduceEq, Int.reduceBEq]
        refine (ans_rmixed hg.rd (subs_len S)).mono ?_
        rintro v3 m3 ⟨hk3, hg3⟩
        simp -implicitDefEqProofs (disch := (first | omega | (simp only [lenB, ovr_len, mixB_len, subs_len, runB_len, wd_len] <;> omega) | fail)) only [admQ, lenB, ovr_len, mixB_len, subs_len, runB_len, wd_len, aFill, ↓reduceIte, reduceCtorEq, if_true, if_false, Nat.reduceAdd, Nat.reduceEqDiff, Nat.reduceMod, Nat.reduceLT, Nat.reduceLeDiff, Nat.reduceSub, Nat.reduceMul, Nat.reduceBEq, Int.reduceAdd, Int.reduceSub, Int.reduceMul, Int.reduceNeg, Int.reduceLT, Int.reduceLE, Int.reduceToNat, Int.reduceEq, Int.reduceBEq]
        refine (ans_rover (r := r + 1) ((hc2.kept0 hk2).kept0 hk3) hg3.rd (mixB_len _) (by omega)).mono ?_
        rintro v4 m4 ⟨hk4, hg4⟩
        rw [← e1] at hg4
        simp -implicitDefEqProofs (disch := (first | omega | (simp only [lenB, ovr_len, mixB_len, subs_len, runB_len, wd_len] <;> omega) | fail)) only [admQ, lenB, ovr_len, mixB_len, subs_len, runB_len, wd_len, aFill, ↓reduceIte, reduceCtorEq, if_true, if_false, Nat.reduceAdd, Nat.reduceEqDiff, Nat.reduceMod, Nat.reduceLT, Nat.reduceLeDiff, Nat.reduceSub, Nat.reduceMul, Nat.reduceBEq, Int.reduceAdd, Int.reduceSub, Int.reduceMul, Int.reduceNeg, Int.reduceLT, Int.reduceLE, Int.reduceToNat, Int.reduceEq, Int.reduceBEq]
        exact fin _ _ (hk3.trans hk4) hg4.rd
      · have e1 : roundB B n r S = ovr (subs S) (keyAt B (r + 1)) := by rw [roundB, if_neg hm]
        simp -implicitDefEqProofs (disch := (first | omega | (simp only [lenB, ovr_len, mixB_len, subs_len, runB_len, wd_len] <;> omega) | fail)) only [admQ, lenB, ovr_len, mixB_len, subs_len, runB_len, wd_len, aFill, ↓reduceIte, reduceCtorEq, if_true, if_false, Nat.reduceAdd, Nat.reduceEqDiff, Nat.reduceMod, Nat.reduceLT, Nat.reduceLeDiff, Nat.reduceSub, Nat.reduceMul, Nat.reduceBEq, Int.reduceAdd, Int.reduceSub, Int.reduceMul, Int.reduceNeg, Int.reduceLT, Int.reduceLE, Int.reduceToNat, Int.reduceEq, Int.reduceBEq]
        refine (ans_rover (r := r + 1) (hc2.kept0 hk2) hg.rd (subs_len _) (by omega)).mono ?_
        rintro v4 m4 ⟨hk4, hg4⟩
        rw [← e1] at hg4
        simp -implicitDefEqProofs (disch := (first | omega | (simp only [lenB, ovr_len, mixB_len, subs_len, runB_len, wd_len] <;> omega) | fail)) only [admQ, lenB, ovr_len, mixB_len, subs_len, runB_len, wd_len, aFill, ↓reduceIte, reduceCtorEq, if_true, if_false, Nat.reduceAdd, Nat.reduceEqDiff, Nat.reduceMod, Nat.reduceLT, Nat.reduceLeDiff, Nat.reduceSub, Nat.reduceMul, Nat.reduceBEq, Int.reduceAdd, Int.reduceSub, Int.reduceMul, Int.reduceNeg, Int.reduceLT, Int.reduceLE, Int.reduceToNat, Int.reduceEq, Int.reduceBEq]
        exact fin _ _ hk4 hg4.rd
  · obtain rfl : r = n - 1 := by omega
    simp -implicitDefEqProofs (disch := (first | omega | (simp only [lenB, ovr_len, mixB_len, subs_len, runB_len, wd_len] <;> omega) | fail)) only [admQ, lenB, ovr_len, mixB_len, subs_len, runB_len, wd_len, aFill, ↓reduceIte, reduceCtorEq, if_true, if_false, Nat.reduceAdd, Nat.reduceEqDiff, Nat.reduceMod, Nat.reduceLT, Nat.reduceLeDiff, Nat.reduceSub, Nat.reduceMul, Nat.reduceBEq, Int.reduceAdd, Int.reduceSub, Int.reduceMul, Int.reduceNeg, Int.reduceLT, Int.reduceLE, Int.reduceToNat, Int.reduceEq, Int.reduceBEq]
    have hl := runB_len B n b (n - 1)
    have hbb : runB B n b (n - 1) = blockB B n b := rfl
    rw [hbb] at hx hl
    have o4' := hk.own0 o4
    have hcp := copy_row (m := m' ++ [.row (bys (List.replicate 16 0#8)) false]) (p := m'.length) (o := 0) (ld := 16) (cap := 16) (s := 0) (hx.app _) (own_app_at0 _ _) (by simp) (by omega)
    have hsw := splice_whole (a := List.replicate 16 0#8) (b := blockB B n b) (by rw [hl]; simp)
    have hsl := fun e b => set_app (own_lt o4') e b
    have o4e := fun e => own_app o4' e
    have o4s := fun c e => own_app (own_set (own_lt o4') c) e
    simp -implicitDefEqProofs (disch := (first | omega | (simp only [lenB, ovr_len, mixB_len, subs_len, runB_len, wd_len] <;> omega) | fail)) only [admQ, lenB, ovr_len, mixB_len, subs_len, runB_len, wd_len, aFill, ↓reduceIte, reduceCtorEq, if_true, if_false, Nat.reduceAdd, Nat.reduceEqDiff, Nat.reduceMod, Nat.reduceLT, Nat.reduceLeDiff, Nat.reduceSub, Nat.reduceMul, Nat.reduceBEq, Int.reduceAdd, Int.reduceSub, Int.reduceMul, Int.reduceNeg, Int.reduceLT, Int.reduceLE, Int.reduceToNat, Int.reduceEq, Int.reduceBEq, hcp, hsw, hsl, o4e, rowOf_own (o4s _ _)]
    exact ((hk0.trans hk).write (.inr (by omega)) _).more_app _
end Go.Proofs.Ythdkclkiegkabaa
