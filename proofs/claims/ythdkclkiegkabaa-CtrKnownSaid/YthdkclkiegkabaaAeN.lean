/- AES: the document's cipher is made. -/
import Derived.Test.YthdkclkiegkabaaAeM
namespace Go.Proofs.Ythdkclkiegkabaa
open Go Go.Adm
set_option linter.unusedSimpArgs false
set_option maxRecDepth 100000
/-- Words, none of which lies where the list of them lies. -/
def RWS (lo : Nat) (m : Mem) (W : AV) (cells : List AV) (B : List B8) : Prop := cells.length * 4 = B.length ∧ ∀ i, i < cells.length → ∃ x, cells[i]? = some x ∧ RdB m x (wd B i) ∧ ∀ b ∈ blkOf x, b ∉ blkOf W ∧ lo ≤ b
theorem RWS.kept {lo : Nat} {X : List Nat} {m m' : Mem} {W : AV} {cells : List AV} {B : List B8} (h : RWS lo m W cells B) (hk : Kept X m m') (hx : ∀ b ∈ X, b ∈ blkOf W ∨ b < lo) : RWS lo m' W cells B :=
  ⟨h.1, fun i hi => let ⟨x, h1, h2, h3⟩ := h.2 i hi; ⟨x, h1, h2.kept hk (fun b o n cap s e hb => by
    have h4 := h3 b (by rw [e]; simp [blkOf])
    rcases hx b hb with h | h
    · exact h4.1 h
    · omega), h3⟩⟩
theorem wd_app {B w : List B8} {i : Nat} (h : 4 * i + 4 ≤ B.length) : wd (B ++ w) i = wd B i := tab_ext fun j hj => gb_app_l (by omega)
theorem wd_last {B w : List B8} {i : Nat} (h : 4 * i = B.length) (hw : w.length = 4) : wd (B ++ w) i = w := by
  rw [← tab_gb hw]
  exact tab_ext fun j hj => by rw [gb_app_r (by omega), show 4 * i + j - B.length = j by omega, tab_gb hw]
theorem RWS.push {m0 lo : Nat} {M : Mem} {W v : AV} {cells : List AV} {B w : List B8} (hW : GrA 1 m0 M W cells) (h : RWS lo M W cells B) (hv : RdB M v w) (hw : w.length = 4) (hvb : ∀ b ∈ blkOf v, b ∉ blkOf W ∧ lo ≤ b) (hb : cells.length < 1000) (hm : m0 ≤ M.length) :
    ∃ W' M', aAppend 1 24 W (.sl M.length 0 1 1 0) (M ++ [.row [v] false]) = some (W', M') ∧ GrA 1 m0 M' W' (cells ++ [v]) ∧ RWS lo M' W' (cells ++ [v]) (B ++ w) ∧ Kept (blkOf W) M M' ∧ (∀ (Y : List Nat) (m : Mem), Kept Y m M → m.length ≤ m0 → Kept Y m M') ∧ ∀ b ∈ blkOf W', M.length < b := by
  obtain ⟨W', M', h1, h2, h3, h4, h5⟩ := hW.push5 (bytes := 24) (by omega) (l := [v]) rfl (by omega) hm
  refine ⟨W', M', h1, h2, ⟨by simp [h.1, hw, Nat.add_mul], fun i hi => ?_⟩, h3, h4, h5⟩
  have hcl := h.1
  by_cases hlt : i < cells.length
  · obtain ⟨x, g1, g2, g3⟩ := h.2 i hlt
    refine ⟨x, by rw [List.getElem?_append_left hlt]; exact g1, ?_, fun b hb => ⟨fun hb' => ?_, (g3 b hb).2⟩⟩
    · rw [wd_app (by omega)]
      exact g2.kept h3 fun b o n cap s e => (g3 b (by rw [e]; simp [blkOf])).1
    · have := g2.blk_lt b hb
      have := h5 b hb'
      omega
  · obtain rfl : i = cells.length := by simp at hi; omega
    refine ⟨v, by simp, ?_, fun b hb => ⟨fun hb' => ?_, (hvb b hb).2⟩⟩
    · rw [wd_last (by omega) hw]
      exact hv.kept h3 fun b o n cap s e => (hvb b (by rw [e]; simp [blkOf])).1
    · have := hv.blk_lt b hb
      have := h5 b hb'
      omega
theorem slice_wd {key : List B8} {i : Nat} (h : 4 * i + 4 ≤ key.length) : (key.drop (4 * i)).take 4 = wd key i := by
  apply gb_ext
  · simp [wd_len]; omega
  · intro j hj
    have hj4 : j < 4 := by simp at hj; omega
    rw [wd, gb_tab _ hj4]
    simp only [gb, List.getD_eq_getElem?_getD, List.getElem?_take_of_lt hj4, List.getElem?_drop]
theorem take_wd {key : List B8} {i : Nat} (h : 4 * i + 4 ≤ key.length) : key.take (4 * (i + 1)) = key.take (4 * i) ++ wd key i := by
  rw [show 4 * (i + 1) = 4 * i + 4 by omega, List.take_add, slice_wd h]

theorem ans_rnew_no {m : Mem} {x : AV} {key : List B8} (hx : RdB m x key) (hk : ¬ keyOk key.length) : Ans Try.prog 9 [x] m fun r m' => r = .tup [.nilp, .int .i64 1] ∧ m' = m := by
  refine ans_ret mixed ok9 ?_
  unfold keyOk at hk
  have h1 : ¬ (key.length : Int) = 16 := by omega
  have h2 : ¬ (key.length : Int) = 24 := by omega
  have h3 : ¬ (key.length : Int) = 32 := by omega
  simp -implicitDefEqProofs (disch := (first | omega | (simp only [lenB, ovr_len, mixB_len, subs_len, runB_len, wd_len] <;> omega) | fail)) only [admQ, lenB, ovr_len, mixB_len, subs_len, runB_len, wd_len, aFill, ↓reduceIte, reduceCtorEq, if_true, if_false, Nat.reduceAdd, Nat.reduceEqDiff, Nat.reduceMod, Nat.reduceLT, Nat.reduceLeDiff, Nat.reduceSub, Nat.reduceMul, Nat.reduceBEq, Int.reduceAdd, Int.reduceSub, Int.reduceMul, Int.reduceNeg, Int.reduceLT, Int.reduceLE, Int.reduceToNat, Int.reduceEq, Int.reduceBEq, c9, r9, hx.len, beq_eq_false_iff_ne.mpr h1, beq_eq_false_iff_ne.mpr h2, beq_eq_false_iff_ne.mpr h3]
def rnewQ (m : Mem) (key : List B8) (r : AV) (m' : Mem) : Prop := ∃ c, r = .tup [.ptr c 0, .int .i64 0] ∧ Kept [] m m' ∧ m.length ≤ c ∧ ∀ m2, (∀ q, m.length ≤ q → q < m'.length → m2[q]? = m'[q]?) → RCiph m2 c (key.length / 4 + 7) (expand key)
def rnewTail : ACode := tlC (tlC c9)
theorem rnewCode : c9 = .seq (hdC c9) (.seq (hdC (tlC c9)) rnewTail) := rfl
/-- What is the same in both loops. -/
structure RJ (m : Mem) (pc tp m0 : Nat) (W : AV) (cells : List AV) (B : List B8) (m' : Mem) : Prop where
  kept : Kept [] m m'
  hd : own m' pc = some [W, .sl tp 0 256 256 1]
  tab : rowOf m' tp = some (bys sboxL)
  gr : GrA 1 m0 m' W cells
  ws : RWS m0 m' W cells B
theorem RJ.blk {m m' : Mem} {pc tp m0 : Nat} {W : AV} {cells : List AV} {B : List B8} (h : RJ m pc tp m0 W cells B m') (hz : W = .nils ∨ cells ≠ []) : ∀ b ∈ blkOf W, m0 ≤ b := by
  rcases hz with rfl | hz
  · simp [blkOf]
  · exact h.gr.blk hz
def rnewEnd : ACode := tlC (tlC (bodyC (hdC (tlC (bodyC (bodyC (tlC (hdC (tlC (tlC (tlC (tlC rnewTail))))))))))))
theorem rnew_word {m M : Mem} {pc tp m0 nk i : Nat} {W xt v7 : AV} {cells : List AV} {B T : List B8} {Q : Exit → AFr → Mem → Prop} (J : RJ m pc tp m0 W cells B M) (hc : cells ≠ []) (hi : cells.length = i) (hi2 : nk ≤ i ∧ 1 ≤ nk ∧ i < 900)
    (ht : RdB M xt T) (hT : T.length = 4) {e : AFr} (he : e = [] ∨ e = [(122, .bool false)]) (hpc : pc < m0 ∧ tp < m0 ∧ m.length ≤ pc ∧ pc ≠ tp)
    (hQ : ∀ W' cells' M', cells' ≠ [] → cells'.length = i + 1 → RJ m pc tp m0 W' cells' (B ++ tab 4 fun j => gb B (4 * (i - nk) + j) ^^^ gb T j) M' → Q .normal [(4, .ptr pc 0), (5, .int .i64 nk), (7, v7), (8, .int .i64 i)] M') :
    wpA Try.prog rnewEnd ((4, .ptr pc 0) :: (5, .int .i64 nk) :: (7, v7) :: (8, .int .i64 i) :: (9, xt) :: e) M Q := by
  obtain ⟨bW, nW, rfl, hnp, hnl, hoW, hbW⟩ := J.gr.sl hc
  obtain ⟨x2, q1, q2, q3⟩ := J.ws.2 (i - nk) (by omega)
  obtain ⟨b2, o2, cap2, s2, d2, rfl, hr2, hg2, hl2, hc2, hs2, ht2⟩ := q2.cons (show 0 < (wd B (i - nk)).length by rw [wd_len]; omega)
  obtain ⟨b1, o1, cap1, s1, d1, rfl, hr1, hg1, hl1, hc1, hs1, ht1⟩ := ht.cons (show 0 < T.length by omega)
  have hw4 := wd_len B (i - nk)
  have e0 := hg2 0 (by omega)
  have e1 := hg2 1 (by omega)
  have e2 := hg2 2 (by omega)
  have e3 := hg2 3 (by omega)
  have f0 := hg1 0 (by omega)
  have f1 := hg1 1 (by omega)
  have f2 := hg1 2 (by omega)
  have f3 := hg1 3 (by omega)
  rw [Nat.add_zero] at e0 f0
  have hml := J.kept.len
  let w : List B8 := tab 4 fun j => gb B (4 * (i - nk) + j) ^^^ gb T j
  have hw : w = [gb (wd B (i - nk)) 0 ^^^ gb T 0, gb (wd B (i - nk)) 1 ^^^ gb T 1, gb (wd B (i - nk)) 2 ^^^ gb T 2, gb (wd B (i - nk)) 3 ^^^ gb T 3] := by
    simp only [wd, gb_tab _ (show 0 < 4 by omega), gb_tab _ (show 1 < 4 by omega), gb_tab _ (show 2 < 4 by omega), gb_tab _ (show 3 < 4 by omega)]; rfl
  have hkA : Kept [] M (M ++ [.row (bys w) false]) := .app _ _ _
  have hv : RdB (M ++ [.row (bys w) false]) (.sl M.length 0 4 4 0) w := by
    have := RdB.row (m := M ++ [.row (bys w) false]) (b := M.length) (l := w) 4 0 (by simp -implicitDefEqProofs (disch := (first | omega | (simp only [lenB, ovr_len, mixB_len, subs_len, runB_len, wd_len] <;> omega) | fail)) only [admQ, lenB, ovr_len, mixB_len, subs_len, runB_len, wd_len, aFill, ↓reduceIte, reduceCtorEq, if_true, if_false, Nat.reduceAdd, Nat.reduceEqDiff, Nat.reduceMod, Nat.reduceLT, Nat.reduceLeDiff, Nat.reduceSub, Nat.reduceMul, Nat.reduceBEq, Int.reduceAdd, Int.reduceSub, Int.reduceMul, Int.reduceNeg, Int.reduceLT, Int.reduceLE, Int.reduceToNat, Int.reduceEq, Int.reduceBEq]) (by simp [w, tab_len])
    rwa [show w.length = 4 from tab_len _ _] at this
  have hWl := J.gr.lt
  obtain ⟨W', m3, hp1, hp2, hp3, hp4, hp5, hp6⟩ := RWS.push (J.gr.kept0 hkA) (J.ws.kept hkA (by simp)) hv (tab_len _ _) (fun b hb => by
    simp [blkOf] at hb
    have h1 := own_lt J.hd
    exact ⟨fun hb' => by have := hWl b hb'; omega, by
      have := hWl bW (by simp [blkOf]); omega⟩) (by omega) (by
    have := hWl bW (by simp [blkOf]); simp; omega)
  obtain ⟨bW', nW', rfl, hnp', hnl', hoW', hbW'⟩ := hp2.sl (by simp)
  simp only [List.append_assoc, List.cons_append, List.nil_append, List.length_append, List.length_cons, List.length_nil] at hp1
  have hdA := fun e => own_app J.hd e
  have hnW : pc ∉ blkOf (.sl bW 0 nW nW 1) := by simp [blkOf]; omega
  have hd3 := hp4.own (hdA _) hnW
  simp only [rnewEnd, rnewTail, tlC, hdC, bodyC, c9]
  rw [hw] at hp1
  simp only [List.map_cons, List.map_nil] at hp1
  rcases he with rfl | rfl
  all_goals
    simp -implicitDefEqProofs (disch := (first | omega | (simp only [lenB, ovr_len, mixB_len, subs_len, runB_len, wd_len] <;> omega) | fail)) only [admQ, lenB, ovr_len, mixB_len, subs_len, runB_len, wd_len, aFill, ↓reduceIte, reduceCtorEq, if_true, if_false, Nat.reduceAdd, Nat.reduceEqDiff, Nat.reduceMod, Nat.reduceLT, Nat.reduceLeDiff, Nat.reduceSub, Nat.reduceMul, Nat.reduceBEq, Int.reduceAdd, Int.reduceSub, Int.reduceMul, Int.reduceNeg, Int.reduceLT, Int.reduceLE, Int.reduceToNat, Int.reduceEq, Int.reduceBEq, rowOf_own J.hd, rowOf_own hoW, q1, hr1, hr2, e0, e1, e2, e3, f0, f1, f2, f3, rowOf_own (hdA _), hp1, hd3, rowOf_own hd3]
    refine hQ (.sl bW' 0 nW' nW' 1) (cells ++ [.sl M.length 0 4 4 0]) _ (by simp) (by simp [hi]) ?_
    refine ⟨(hp5 _ _ (J.kept.more_app _) (by omega)).write (.inr (by omega)) _, own_set (own_lt hd3) _, ?_, hp2.kept (Kept.set1 _ _ _) (by simp [blkOf]; omega), ?_⟩
    · rw [rowOf_set_ne hpc.2.2.2]
      exact hp4.row (rowOf_app J.tab _) (by simp [blkOf]; omega)
    · exact hp3.kept (Kept.set1 _ _ _) (by simp; omega)
def rnewBody : ACode := bodyC (bodyC (tlC (hdC (tlC (tlC (tlC (tlC rnewTail)))))))
def rnewB : ACode := bodyC (hdC (tlC rnewBody))
theorem rnewBodyCode : rnewBody = .seq (hdC rnewBody) (.seq (.block 3 (.seq (hdC rnewB) (.seq (hdC (tlC rnewB)) rnewEnd))) (tlC (tlC rnewBody))) := rfl
theorem exW_word {key B : List B8} {k : Nat} {r : B8} (hk : keyOk key.length) (hB : B.length = key.length + 4 * k) : exW key.length B r =
    if (key.length / 4 + k) % (key.length / 4) = 0 then [sb (gb (wd B (key.length / 4 + k - 1)) 1) ^^^ r, sb (gb (wd B (key.length / 4 + k - 1)) 2), sb (gb (wd B (key.length / 4 + k - 1)) 3), sb (gb (wd B (key.length / 4 + k - 1)) 0)]
    else if key.length / 4 = 8 ∧ (key.length / 4 + k) % 8 = 4 then [sb (gb (wd B (key.length / 4 + k - 1)) 0), sb (gb (wd B (key.length / 4 + k - 1)) 1), sb (gb (wd B (key.length / 4 + k - 1)) 2), sb (gb (wd B (key.length / 4 + k - 1)) 3)]
    else wd B (key.length / 4 + k - 1) := by
  have hlen : key.length = 16 ∨ key.length = 24 ∨ key.length = 32 := hk
  have e : (tab 4 fun i => gb B (B.length - 4 + i)) = wd B (key.length / 4 + k - 1) := tab_ext fun j hj => by rw [show B.length - 4 + j = 4 * (key.length / 4 + k - 1) + j by omega]
  have c1 : B.length % key.length = 0 ↔ (key.length / 4 + k) % (key.length / 4) = 0 := by rw [hB]; rcases hlen with h | h | h <;> rw [h] <;> omega
  have c2 : (key.length = 32 ∧ B.length % key.length = 16) ↔ (key.length / 4 = 8 ∧ (key.length / 4 + k) % 8 = 4) := by rw [hB]; rcases hlen with h | h | h <;> rw [h] <;> omega
  unfold exW
  simp only [e, c1, c2]
theorem exK_word {key : List B8} {k : Nat} (hk : keyOk key.length) : exK key (k + 1) = ((exK key k).1 ++ (tab 4 fun j => gb (exK key k).1 (4 * (key.length / 4 + k - key.length / 4) + j) ^^^ gb (exW key.length (exK key k).1 (exK key k).2) j), if (key.length / 4 + k) % (key.length / 4) = 0 then tw (exK key k).2 else (exK key k).2) := by
  have hB := exK_len key k
  have hlen : key.length = 16 ∨ key.length = 24 ∨ key.length = 32 := hk
  have c1 : (exK key k).1.length % key.length = 0 ↔ (key.length / 4 + k) % (key.length / 4) = 0 := by rw [hB]; rcases hlen with h | h | h <;> rw [h] <;> omega
  show exStep key.length (exK key k) = _
  unfold exStep
  simp only [c1]
  congr 2
  exact tab_ext fun j hj => by rw [exG, hB, show key.length + 4 * k - key.length + j = 4 * (key.length / 4 + k - key.length / 4) + j by omega]
set_option maxHeartbeats 2000000 in
theorem ans_rnew_go {m : Mem} {x : AV} {key : List B8} (hx : RdB m x key) (hk : keyOk key.length) :
    wpA Try.prog rnewTail [(0, x), (23, .bool false)] m (retQ r9 (rnewQ m key)) := by
  have hlen : key.length = 16 ∨ key.length = 24 ∨ key.length = 32 := hk
  simp -implicitDefEqProofs (disch := (first | omega | (simp only [lenB, ovr_len, mixB_len, subs_len, runB_len, wd_len] <;> omega) | fail)) only [admQ, lenB, ovr_len, mixB_len, subs_len, runB_len, wd_len, aFill, ↓reduceIte, reduceCtorEq, if_true, if_false, Nat.reduceAdd, Nat.reduceEqDiff, Nat.reduceMod, Nat.reduceLT, Nat.reduceLeDiff, Nat.reduceSub, Nat.reduceMul, Nat.reduceBEq, Int.reduceAdd, Int.reduceSub, Int.reduceMul, Int.reduceNeg, Int.reduceLT, Int.reduceLE, Int.reduceToNat, Int.reduceEq, Int.reduceBEq, rnewTail, tlC, c9]
  refine (ans_rTable _).mono ?_
  rintro _ m1 ⟨tp, rfl, hk1, htp, ht⟩
  have htl := own_lt ht
  have hd4 : key.length / 4 * 4 = key.length := by omega
  simp -implicitDefEqProofs (disch := (first | omega | (simp only [lenB, ovr_len, mixB_len, subs_len, runB_len, wd_len] <;> omega) | fail)) only [admQ, lenB, ovr_len, mixB_len, subs_len, runB_len, wd_len, aFill, ↓reduceIte, reduceCtorEq, if_true, if_false, Nat.reduceAdd, Nat.reduceEqDiff, Nat.reduceMod, Nat.reduceLT, Nat.reduceLeDiff, Nat.reduceSub, Nat.reduceMul, Nat.reduceBEq, Int.reduceAdd, Int.reduceSub, Int.reduceMul, Int.reduceNeg, Int.reduceLT, Int.reduceLE, Int.reduceToNat, Int.reduceEq, Int.reduceBEq, hx.len]
  refine LoopW.on (fun z : Nat × AV × List AV => [(0, x), (4, .ptr m1.length 0), (5, .int .i64 ((key.length / 4 : Nat) : Int)), (6, .int .i64 z.1)]) (fun z => key.length / 4 - z.1)
    (fun z m' => z.1 ≤ key.length / 4 ∧ (z.2.1 = .nils ∨ z.2.2 ≠ []) ∧ RJ m m1.length tp (m1.length + 1) z.2.1 z.2.2 (key.take (4 * z.1)) m') ?_ (0, .nils, []) _ _ rfl
    ⟨by omega, .inl rfl, hk1.more_app _, by simp -implicitDefEqProofs (disch := (first | omega | (simp only [lenB, ovr_len, mixB_len, subs_len, runB_len, wd_len] <;> omega) | fail)) only [admQ, lenB, ovr_len, mixB_len, subs_len, runB_len, wd_len, aFill, ↓reduceIte, reduceCtorEq, if_true, if_false, Nat.reduceAdd, Nat.reduceEqDiff, Nat.reduceMod, Nat.reduceLT, Nat.reduceLeDiff, Nat.reduceSub, Nat.reduceMul, Nat.reduceBEq, Int.reduceAdd, Int.reduceSub, Int.reduceMul, Int.reduceNeg, Int.reduceLT, Int.reduceLE, Int.reduceToNat, Int.reduceEq, Int.reduceBEq], rowOf_app (rowOf_own ht) _, GrA.nils _ _ _, rfl, fun i hi => absurd hi (by simp)⟩
  · rintro ⟨i, W, cells⟩ m' X ⟨hi, hz, J⟩ hX
    dsimp only at hi hz J hX ⊢
    have hcl := J.ws.1
    rw [List.length_take, Nat.min_eq_left (by omega)] at hcl
    have hml := J.kept.len
    have hpc := own_lt J.hd
    by_cases hlt : i < key.length / 4
    · obtain ⟨b1, o1, cap1, s1, d1, rfl, hr1, hg1, hl1, hc1, hs1, ht1⟩ := (hx.kept0 J.kept).cons (show 0 < key.length by omega)
      have hy : RdB m' (.sl b1 (o1 + 4 * i) (4 * i + 4 - 4 * i) (cap1 - 4 * i) s1) (wd key i) := by
        have := ((hx.kept0 J.kept).drop (k := 4 * i) (by omega)).take (k := 4) (by omega)
        rw [show 4 * i + 4 - 4 * i = 4 by omega]
        rwa [slice_wd (by omega)] at this
      have ha := app_new (m := m' ++ [.row [] false]) (b := m'.length) (s := 0) (hy.app _) (by rw [wd_len]; omega) (by rw [wd_len]; omega) rfl
      rw [wd_len] at ha
      have hv : RdB (m' ++ [.row [] false, .row (bys (wd key i)) false]) (.sl (m'.length + 1) 0 4 4 1) (wd key i) := by
        have := RdB.row (m := m' ++ [.row [] false, .row (bys (wd key i)) false]) (b := m'.length + 1) (l := wd key i) 4 1 (by simp -implicitDefEqProofs (disch := (first | omega | (simp only [lenB, ovr_len, mixB_len, subs_len, runB_len, wd_len] <;> omega) | fail)) only [admQ, lenB, ovr_len, mixB_len, subs_len, runB_len, wd_len, aFill, ↓reduceIte, reduceCtorEq, if_true, if_false, Nat.reduceAdd, Nat.reduceEqDiff, Nat.reduceMod, Nat.reduceLT, Nat.reduceLeDiff, Nat.reduceSub, Nat.reduceMul, Nat.reduceBEq, Int.reduceAdd, Int.reduceSub, Int.reduceMul, Int.reduceNeg, Int.reduceLT, Int.reduceLE, Int.reduceToNat, Int.reduceEq, Int.reduceBEq]) (by rw [wd_len]; omega)
        rwa [wd_len] at this
      have hkA : Kept [] m' (m' ++ [.row [] false, .row (bys (wd key i)) false]) := .app _ _ _
      have hbl := J.blk hz
      have hWl := J.gr.lt
      obtain ⟨W', m3, hp1, hp2, hp3, hp4, hp5, hp6⟩ := RWS.push (J.gr.kept0 hkA) (J.ws.kept hkA (by simp)) hv (wd_len _ _) (fun b hb => by
        simp [blkOf] at hb; exact ⟨fun hb' => by have := hWl b hb'; omega, by omega⟩) (by omega) (by simp; omega)
      obtain ⟨bW, nW, rfl, hnp, hnl, hoW, hbW⟩ := hp2.sl (by simp)
      simp only [List.append_assoc, List.cons_append, List.nil_append, List.length_append, List.length_cons, List.length_nil] at hp1
      have hd0 := J.hd
      have hdA := fun e => own_app J.hd e
      have hnW : m1.length ∉ blkOf W := fun h => by have := hbl _ h; omega
      have hd3 := hp4.own (hdA _) hnW
      simp -implicitDefEqProofs (disch := (first | omega | (simp only [lenB, ovr_len, mixB_len, subs_len, runB_len, wd_len] <;> omega) | fail)) only [admQ, lenB, ovr_len, mixB_len, subs_len, runB_len, wd_len, aFill, ↓reduceIte, reduceCtorEq, if_true, if_false, Nat.reduceAdd, Nat.reduceEqDiff, Nat.reduceMod, Nat.reduceLT, Nat.reduceLeDiff, Nat.reduceSub, Nat.reduceMul, Nat.reduceBEq, Int.reduceAdd, Int.reduceSub, Int.reduceMul, Int.reduceNeg, Int.reduceLT, Int.reduceLE, Int.reduceToNat, Int.reduceEq, Int.reduceBEq, rowOf_own J.hd, ha, rowOf_own (hdA _), hp1, hd3, rowOf_own hd3]
      have hv2 : AV.sl bW 0 nW nW 1 = .sl bW 0 nW nW 1 := rfl
      refine hX (i + 1, .sl bW 0 nW nW 1, cells ++ [.sl (m'.length + 1) 0 4 4 1]) _ _ rfl (by simp; omega) ⟨by simp; omega, .inr (by simp), ?_⟩
      refine ⟨(hp5 _ _ (J.kept.more_app _) (by have := hk1.len; omega)).write (.inr hk1.len) _, own_set (own_lt hd3) _, ?_, hp2.kept (Kept.set1 _ _ _) (by simp [blkOf]; omega), ?_⟩
      · rw [rowOf_set_ne (by omega)]
        exact hp4.row (rowOf_app J.tab _) fun h => by have := hbl _ h; omega
      · rw [take_wd (by omega)]
        exact hp3.kept (Kept.set1 _ _ _) (by simp)
    · obtain rfl : i = key.length / 4 := by omega
      rw [List.take_of_length_le (by omega)] at J
      simp -implicitDefEqProofs (disch := (first | omega | (simp only [lenB, ovr_len, mixB_len, subs_len, runB_len, wd_len] <;> omega) | fail)) only [admQ, lenB, ovr_len, mixB_len, subs_len, runB_len, wd_len, aFill, ↓reduceIte, reduceCtorEq, if_true, if_false, Nat.reduceAdd, Nat.reduceEqDiff, Nat.reduceMod, Nat.reduceLT, Nat.reduceLeDiff, Nat.reduceSub, Nat.reduceMul, Nat.reduceBEq, Int.reduceAdd, Int.reduceSub, Int.reduceMul, Int.reduceNeg, Int.reduceLT, Int.reduceLE, Int.reduceToNat, Int.reduceEq, Int.reduceBEq]
      have hN : exN key.length = 4 * (key.length / 4 + 7) - key.length / 4 := rfl
      refine LoopW.on (fun z : Nat × AV × List AV => [(4, .ptr m1.length 0), (5, .int .i64 ((key.length / 4 : Nat) : Int)), (7, b8 (exK key z.1).2), (8, .int .i64 ((key.length / 4 + z.1 : Nat) : Int))]) (fun z => exN key.length - z.1)
        (fun z m' => z.1 ≤ exN key.length ∧ z.2.2 ≠ [] ∧ z.2.2.length = key.length / 4 + z.1 ∧ RJ m m1.length tp (m1.length + 1) z.2.1 z.2.2 (exK key z.1).1 m') ?_ (0, W, cells) _ _ rfl
        ⟨by omega, by rintro rfl; simp at hcl; omega, by simp only; omega, J⟩
      clear J hX hi hz hcl hml hpc
      rintro ⟨k, W, cells⟩ M X ⟨hkn, hce, hcl, J⟩ hX
      dsimp only at hkn hce hcl J hX ⊢
      have hB := exK_len key k
      have hst := exK_word (k := k) hk
      have hex := exW_word (r := (exK key k).2) hk hB
      have hTl := exW_len key.length (exK key k).1 (exK key k).2
      generalize hE : exK key k = st at *
      obtain ⟨B, r⟩ := st
      dsimp only at *
      by_cases hlt : k < exN key.length
      · obtain ⟨bW, nW, rfl, hnp, hnl, hoW, hbW⟩ := J.gr.sl hce
        obtain ⟨xl, q1, q2, q3⟩ := J.ws.2 (key.length / 4 + k - 1) (by omega)
        have hwl := wd_len B (key.length / 4 + k - 1)
        generalize wd B (key.length / 4 + k - 1) = wl at *
        have ha := app_new (m := M ++ [.row [] false]) (b := M.length) (s := 0) (q2.app _) (by omega) (by omega) rfl
        rw [hwl] at ha
        have hkA : Kept [] M (M ++ [.row [] false, .row (bys wl) false]) := .app _ _ _
        have hlr := hnl
        show wpA Try.prog rnewBody _ _ _
        rw [rnewBodyCode]
        simp only [rnewB, rnewBody, rnewTail, tlC, hdC, bodyC, c9]
        have hd := J.hd
        have hdA := fun e => rowOf_own (own_app J.hd e)
        have htA := fun e => rowOf_app J.tab e
        have hoWA := fun e => rowOf_own (own_app hoW e)
        have hsl := own_lt hoW
        have hpcl := own_lt hd
        have h1m := hk1.len
        have fin : ∀ (M2 : Mem) (xt : AV) (v7 : AV) (e : AFr), e = [] ∨ e = [(122, .bool false)] → Kept [] M M2 → RdB M2 xt (exW key.length B r) → v7 = b8 (exK key (k + 1)).2 →
            wpA Try.prog rnewEnd ((4, .ptr m1.length 0) :: (5, .int .i64 ((key.length / 4 : Nat) : Int)) :: (7, v7) :: (8, .int .i64 ((key.length / 4 + k : Nat) : Int)) :: (9, xt) :: e) M2 (blockQ 3 (seqK Try.prog (tlC (tlC rnewBody)) (loopQ X (blockQ 2 (seqK Try.prog (tlC (tlC (tlC (tlC (tlC rnewTail))))) (retQ r9 (rnewQ m key))))))) := by
          rintro M2 xt _ e he hkM ht rfl
          have J2 : RJ m m1.length tp (m1.length + 1) (.sl bW 0 nW nW 1) cells B M2 := ⟨J.kept.trans hkM, hkM.own0 J.hd, hkM.row0 J.tab, J.gr.kept0 hkM, J.ws.kept hkM (by simp)⟩
          refine rnew_word J2 hce hcl (by omega) ht hTl he ⟨by omega, by omega, by omega, by omega⟩ fun W' cells' M' hc1 hc2 J' => ?_
          simp only [rnewBody, rnewTail, tlC, hdC, bodyC, c9]
          simp -implicitDefEqProofs (disch := (first | omega | (simp only [lenB, ovr_len, mixB_len, subs_len, runB_len, wd_len] <;> omega) | fail)) only [admQ, lenB, ovr_len, mixB_len, subs_len, runB_len, wd_len, aFill, ↓reduceIte, reduceCtorEq, if_true, if_false, Nat.reduceAdd, Nat.reduceEqDiff, Nat.reduceMod, Nat.reduceLT, Nat.reduceLeDiff, Nat.reduceSub, Nat.reduceMul, Nat.reduceBEq, Int.reduceAdd, Int.reduceSub, Int.reduceMul, Int.reduceNeg, Int.reduceLT, Int.reduceLE, Int.reduceToNat, Int.reduceEq, Int.reduceBEq]
          refine hX (k + 1, W', cells') _ _ rfl (by simp; omega) ⟨by simp; omega, hc1, by simp; omega, ?_⟩
          rw [hst]; exact J'
        simp only [rnewBody, rnewTail, tlC, hdC, bodyC, c9] at fin
        by_cases g1 : (key.length / 4 + k) % (key.length / 4) = 0
        · rw [if_pos g1] at hex hst
          simp -implicitDefEqProofs (disch := (first | omega | (simp only [lenB, ovr_len, mixB_len, subs_len, runB_len, wd_len] <;> omega) | fail)) only [admQ, lenB, ovr_len, mixB_len, subs_len, runB_len, wd_len, aFill, ↓reduceIte, reduceCtorEq, if_true, if_false, Nat.reduceAdd, Nat.reduceEqDiff, Nat.reduceMod, Nat.reduceLT, Nat.reduceLeDiff, Nat.reduceSub, Nat.reduceMul, Nat.reduceBEq, Int.reduceAdd, Int.reduceSub, Int.reduceMul, Int.reduceNeg, Int.reduceLT, Int.reduceLE, Int.reduceToNat, Int.reduceEq, Int.reduceBEq, rowOf_own hd, rowOf_own hoW, q1, ha, hdA, htA, sbox_cell, hoWA]
          refine (ans_rtwice r _).mono ?_
          rintro _ M3 ⟨rfl, rfl⟩
          simp -implicitDefEqProofs (disch := (first | omega | (simp only [lenB, ovr_len, mixB_len, subs_len, runB_len, wd_len] <;> omega) | fail)) only [admQ, lenB, ovr_len, mixB_len, subs_len, runB_len, wd_len, aFill, ↓reduceIte, reduceCtorEq, if_true, if_false, Nat.reduceAdd, Nat.reduceEqDiff, Nat.reduceMod, Nat.reduceLT, Nat.reduceLeDiff, Nat.reduceSub, Nat.reduceMul, Nat.reduceBEq, Int.reduceAdd, Int.reduceSub, Int.reduceMul, Int.reduceNeg, Int.reduceLT, Int.reduceLE, Int.reduceToNat, Int.reduceEq, Int.reduceBEq]
          refine fin _ _ _ [] (.inl rfl) (.app _ _ _) ?_ (by rw [hst])
          rw [hex]
          exact RdB.row (l := [_, _, _, _]) 4 0 (by simp -implicitDefEqProofs (disch := (first | omega | (simp only [lenB, ovr_len, mixB_len, subs_len, runB_len, wd_len] <;> omega) | fail)) only [admQ, lenB, ovr_len, mixB_len, subs_len, runB_len, wd_len, aFill, ↓reduceIte, reduceCtorEq, if_true, if_false, Nat.reduceAdd, Nat.reduceEqDiff, Nat.reduceMod, Nat.reduceLT, Nat.reduceLeDiff, Nat.reduceSub, Nat.reduceMul, Nat.reduceBEq, Int.reduceAdd, Int.reduceSub, Int.reduceMul, Int.reduceNeg, Int.reduceLT, Int.reduceLE, Int.reduceToNat, Int.reduceEq, Int.reduceBEq]; rfl) (by simp)
        · rw [if_neg g1] at hex hst
          by_cases g2 : key.length / 4 = 8 ∧ (key.length / 4 + k) % 8 = 4
          · rw [if_pos g2] at hex
            have g3 : (((key.length / 4 : Nat) : Int) == 8) = true := by rw [g2.1]; rfl
            have g4 : ((((key.length / 4 + k) % 8 : Nat) : Int) == 4) = true := by rw [g2.2]; rfl
            simp -implicitDefEqProofs (disch := (first | omega | (simp only [lenB, ovr_len, mixB_len, subs_len, runB_len, wd_len] <;> omega) | fail)) only [admQ, lenB, ovr_len, mixB_len, subs_len, runB_len, wd_len, aFill, ↓reduceIte, reduceCtorEq, if_true, if_false, Nat.reduceAdd, Nat.reduceEqDiff, Nat.reduceMod, Nat.reduceLT, Nat.reduceLeDiff, Nat.reduceSub, Nat.reduceMul, Nat.reduceBEq, Int.reduceAdd, Int.reduceSub, Int.reduceMul, Int.reduceNeg, Int.reduceLT, Int.reduceLE, Int.reduceToNat, Int.reduceEq, Int.reduceBEq, rowOf_own hd, rowOf_own hoW, q1, ha, hdA, htA, sbox_cell, hoWA, g3, g4]
            refine fin _ _ _ [] (.inl rfl) (.app _ _ _) ?_ (by rw [hst])
            rw [hex]
            exact RdB.row (l := [_, _, _, _]) 4 0 (by simp -implicitDefEqProofs (disch := (first | omega | (simp only [lenB, ovr_len, mixB_len, subs_len, runB_len, wd_len] <;> omega) | fail)) only [admQ, lenB, ovr_len, mixB_len, subs_len, runB_len, wd_len, aFill, ↓reduceIte, reduceCtorEq, if_true, if_false, Nat.reduceAdd, Nat.reduceEqDiff, Nat.reduceMod, Nat.reduceLT, Nat.reduceLeDiff, Nat.reduceSub, Nat.reduceMul, Nat.reduceBEq, Int.reduceAdd, Int.reduceSub, Int.reduceMul, Int.reduceNeg, Int.reduceLT, Int.reduceLE, Int.reduceToNat, Int.reduceEq, Int.reduceBEq]; rfl) (by simp)
          · rw [if_neg g2] at hex
            have g4 : (((key.length / 4 : Nat) : Int) == 8) = false ∨ (((key.length / 4 : Nat) : Int) == 8) = true ∧ ((((key.length / 4 + k) % 8 : Nat) : Int) == 4) = false := by
              by_cases h : key.length / 4 = 8
              · exact .inr ⟨by rw [h]; rfl, beq_eq_false_iff_ne.mpr fun e => g2 ⟨h, by omega⟩⟩
              · exact .inl (beq_eq_false_iff_ne.mpr (by omega))
            have fin2 := fin (M ++ [.row [] false, .row (bys wl) false]) (.sl (M.length + 1) 0 4 4 1) (b8 r) [(122, .bool false)] (.inr rfl) hkA (by
              rw [hex]
              have := RdB.row (m := M ++ [.row [] false, .row (bys wl) false]) (b := M.length + 1) (l := wl) 4 1 (by simp -implicitDefEqProofs (disch := (first | omega | (simp only [lenB, ovr_len, mixB_len, subs_len, runB_len, wd_len] <;> omega) | fail)) only [admQ, lenB, ovr_len, mixB_len, subs_len, runB_len, wd_len, aFill, ↓reduceIte, reduceCtorEq, if_true, if_false, Nat.reduceAdd, Nat.reduceEqDiff, Nat.reduceMod, Nat.reduceLT, Nat.reduceLeDiff, Nat.reduceSub, Nat.reduceMul, Nat.reduceBEq, Int.reduceAdd, Int.reduceSub, Int.reduceMul, Int.reduceNeg, Int.reduceLT, Int.reduceLE, Int.reduceToNat, Int.reduceEq, Int.reduceBEq]) (by omega)
              rwa [hwl] at this) (by rw [hst])
            rcases g4 with g4 | ⟨g4, g5⟩
            · simp -implicitDefEqProofs (disch := (first | omega | (simp only [lenB, ovr_len, mixB_len, subs_len, runB_len, wd_len] <;> omega) | fail)) only [admQ, lenB, ovr_len, mixB_len, subs_len, runB_len, wd_len, aFill, ↓reduceIte, reduceCtorEq, if_true, if_false, Nat.reduceAdd, Nat.reduceEqDiff, Nat.reduceMod, Nat.reduceLT, Nat.reduceLeDiff, Nat.reduceSub, Nat.reduceMul, Nat.reduceBEq, Int.reduceAdd, Int.reduceSub, Int.reduceMul, Int.reduceNeg, Int.reduceLT, Int.reduceLE, Int.reduceToNat, Int.reduceEq, Int.reduceBEq, rowOf_own hd, rowOf_own hoW, q1, ha, hdA, htA, sbox_cell, hoWA, g4]
              exact fin2
            · simp -implicitDefEqProofs (disch := (first | omega | (simp only [lenB, ovr_len, mixB_len, subs_len, runB_len, wd_len] <;> omega) | fail)) only [admQ, lenB, ovr_len, mixB_len, subs_len, runB_len, wd_len, aFill, ↓reduceIte, reduceCtorEq, if_true, if_false, Nat.reduceAdd, Nat.reduceEqDiff, Nat.reduceMod, Nat.reduceLT, Nat.reduceLeDiff, Nat.reduceSub, Nat.reduceMul, Nat.reduceBEq, Int.reduceAdd, Int.reduceSub, Int.reduceMul, Int.reduceNeg, Int.reduceLT, Int.reduceLE, Int.reduceToNat, Int.reduceEq, Int.reduceBEq, rowOf_own hd, rowOf_own hoW, q1, ha, hdA, htA, sbox_cell, hoWA, g4, g5]
              exact fin2
      · obtain rfl : k = exN key.length := by omega
        obtain ⟨bW, nW, rfl, hnp, hnl, hoW, hbW⟩ := J.gr.sl hce
        have hBe : expand key = B := by rw [expand, hE]
        have hn4 : nW = 4 * (key.length / 4 + 7) := by omega
        subst hn4
        simp -implicitDefEqProofs (disch := (first | omega | (simp only [lenB, ovr_len, mixB_len, subs_len, runB_len, wd_len] <;> omega) | fail)) only [admQ, lenB, ovr_len, mixB_len, subs_len, runB_len, wd_len, aFill, ↓reduceIte, reduceCtorEq, if_true, if_false, Nat.reduceAdd, Nat.reduceEqDiff, Nat.reduceMod, Nat.reduceLT, Nat.reduceLeDiff, Nat.reduceSub, Nat.reduceMul, Nat.reduceBEq, Int.reduceAdd, Int.reduceSub, Int.reduceMul, Int.reduceNeg, Int.reduceLT, Int.reduceLE, Int.reduceToNat, Int.reduceEq, Int.reduceBEq]
        refine ⟨m1.length, rfl, J.kept, hk1.len, fun m2 h2 => ⟨⟨bW, tp, cells, rowOf_at (rowOf_own J.hd) (h2 _ hk1.len (own_lt J.hd)), rowOf_at (rowOf_own hoW) (h2 _ (by have := hk1.len; omega) (own_lt hoW)), rowOf_at J.tab (h2 _ htp (rowOf_lt J.tab)), by rw [hBe]; exact J.ws.1, fun i hi => ?_⟩, by rw [hBe, hB]; omega, by omega⟩⟩
        obtain ⟨x, h1, h3, h4⟩ := J.ws.2 i hi
        exact ⟨x, h1, by rw [hBe]; exact h3.at_ fun b hb => h2 b (by have := (h4 b hb).2; have := hk1.len; omega) (h3.blk_lt b hb)⟩
theorem ans_rnew {m : Mem} {x : AV} {key : List B8} (hx : RdB m x key) (hk : keyOk key.length) : Ans Try.prog 9 [x] m (rnewQ m key) := by
  refine ans_ret mixed ok9 ?_
  have hlen : key.length = 16 ∨ key.length = 24 ∨ key.length = 32 := hk
  have e16 : key.length = 16 → ((key.length : Int) == 16) = true := fun h => by rw [h]; rfl
  have e24 : key.length = 24 → ((key.length : Int) == 16) = false ∧ ((key.length : Int) == 24) = true := fun h => by rw [h]; exact ⟨rfl, rfl⟩
  have e32 : key.length = 32 → ((key.length : Int) == 16) = false ∧ ((key.length : Int) == 24) = false ∧ ((key.length : Int) == 32) = true := fun h => by rw [h]; exact ⟨rfl, rfl, rfl⟩
  rcases hlen with h | h | h
  · rw [rnewCode]
    simp -implicitDefEqProofs (disch := (first | omega | (simp only [lenB, ovr_len, mixB_len, subs_len, runB_len, wd_len] <;> omega) | fail)) only [admQ, lenB, ovr_len, mixB_len, subs_len, runB_len, wd_len, aFill, ↓reduceIte, reduceCtorEq, if_true, if_false, Nat.reduceAdd, Nat.reduceEqDiff, Nat.reduceMod, Nat.reduceLT, Nat.reduceLeDiff, Nat.reduceSub, Nat.reduceMul, Nat.reduceBEq, Int.reduceAdd, Int.reduceSub, Int.reduceMul, Int.reduceNeg, Int.reduceLT, Int.reduceLE, Int.reduceToNat, Int.reduceEq, Int.reduceBEq, hdC, tlC, c9, hx.len, e16 h]
    exact ans_rnew_go hx hk
  · rw [rnewCode]
    simp -implicitDefEqProofs (disch := (first | omega | (simp only [lenB, ovr_len, mixB_len, subs_len, runB_len, wd_len] <;> omega) | fail)) only [admQ, lenB, ovr_len, mixB_len, subs_len, runB_len, wd_len, aFill, ↓reduceIte, reduceCtorEq, if_true, if_false, Nat.reduceAdd, Nat.reduceEqDiff, Nat.reduceMod, Nat.reduceLT, Nat.reduceLeDiff, Nat.reduceSub, Nat.reduceMul, Nat.reduceBEq, Int.reduceAdd, Int.reduceSub, Int.reduceMul, Int.reduceNeg, Int.reduceLT, Int.reduceLE, Int.reduceToNat, Int.reduceEq, Int.reduceBEq, hdC, tlC, c9, hx.len, e24 h]
    exact ans_rnew_go hx hk
  · rw [rnewCode]
    simp -implicitDefEqProofs (disch := (first | omega | (simp only [lenB, ovr_len, mixB_len, subs_len, runB_len, wd_len] <;> omega) | fail)) only [admQ, lenB, ovr_len, mixB_len, subs_len, runB_len, wd_len, aFill, ↓reduceIte, reduceCtorEq, if_true, if_false, Nat.reduceAdd, Nat.reduceEqDiff, Nat.reduceMod, Nat.reduceLT, Nat.reduceLeDiff, Nat.reduceSub, Nat.reduceMul, Nat.reduceBEq, Int.reduceAdd, Int.reduceSub, Int.reduceMul, Int.reduceNeg, Int.reduceLT, Int.reduceLE, Int.reduceToNat, Int.reduceEq, Int.reduceBEq, hdC, tlC, c9, hx.len, e32 h]
    exact ans_rnew_go hx hk
end Go.Proofs.Ythdkclkiegkabaa
