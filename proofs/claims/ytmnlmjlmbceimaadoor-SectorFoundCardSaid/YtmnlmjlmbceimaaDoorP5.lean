/- Texts of this seat, joined (part 5 of 5): an abstract memory for Go programs, this seat's functions as abstract code, and what each of them does. -/
import Derived.Test.YtmnlmjlmbceimaaDoorP4
set_option linter.unusedSimpArgs false
section
/- Sectors: with a Names only what was put is read; walked. -/
namespace Go.Proofs.YtmnlmjlmbceimaaDoor
open Go Go.Adm
set_option linter.unusedSimpArgs false
set_option linter.unusedVariables false
set_option maxRecDepth 100000
/-- What is known while sectors are put. -/
structure FnJ (M : Mem) (L : List Sec) (k a : Int) (b : List B8) (x : Nat) (i : Nat) (W : List Nat) (c : Bool) (v : AV) (N : Mem) : Prop where
  le : i ≤ L.length ∧ i ≤ 30
  kept : Kept [] M N
  cr : Cy N x W W (.nm (runC L i) [])
  low : ∀ q ∈ W, M.length ≤ q
  sd : c = true ↔ foundP L i (runC L i) k a b
  sz : ∀ j s, j < i → L[j]? = some s → s.p.length ≤ 1024
  lst : ∃ l, RdB N v l ∧ l.length ≤ 10000 ∧ ∀ q ∈ blkOf v, q ∉ W
/-- What stays while the sectors are put once more: the Names, the last one's bytes v, the bytes z. -/
structure TlJ (m : Mem) (L : List Sec) (i x : Nat) (v : AV) (lb : List B8) (z : AV) (yl : List B8) (W : List Nat) (M : Mem) : Prop where
  kept : Kept [] m M
  cr : Cy M x W W (.nm (runC L i) [])
  low : ∀ q ∈ W, m.length ≤ q
  rv : RdB M v lb
  vW : ∀ q ∈ blkOf v, q ∉ W
  rz : RdB M z yl
  zW : ∀ q ∈ blkOf z, q ∉ W
theorem TlJ.put {m M M1 : Mem} {L : List Sec} {i x : Nat} {v z : AV} {lb yl : List B8} {W W1 : List Nat} (h : TlJ m L i x v lb z yl W M) (hk : Kept W M M1) (hc : Cy M1 x W1 W1 (.nm (runC L i) [])) (hW : ∀ q ∈ W1, q ∈ W ∨ M.length ≤ q) : TlJ m L i x v lb z yl W1 M1 where
  kept := h.kept.upon hk h.low
  cr := hc
  low q hq := (hW q hq).elim (h.low q) (fun h2 => Nat.le_trans h.kept.len h2)
  rv := rdb_ap h.rv hk h.vW
  vW q hq h1 := (hW q h1).elim (h.vW q hq) (fun h2 => by have := h.rv.blk_lt q hq; omega)
  rz := rdb_ap h.rz hk h.zW
  zW q hq h1 := (hW q h1).elim (h.zW q hq) (fun h2 => by have := h.rz.blk_lt q hq; omega)
theorem TlJ.kept0 {m M M1 : Mem} {L : List Sec} {i x : Nat} {v z : AV} {lb yl : List B8} {W : List Nat} (h : TlJ m L i x v lb z yl W M) (hk : Kept [] M M1) : TlJ m L i x v lb z yl W M1 :=
  ⟨h.kept.trans hk, h.cr.kept0 hk, h.low, h.rv.kept0 hk, h.vW, h.rz.kept0 hk, h.zW⟩
theorem foundTail {m N : Mem} {l y v : AV} {L : List Sec} {b lb : List B8} {x i : Nat} {W : List Nat} (hK : rowOf m 0 = some (wds kT)) (hl : RdSecs m l L) (hy : RdB m y b) (hb : b.length ≤ 4096) (hk : Kept [] m N)
    (hC : Cy N x W W (.nm (runC L i) [])) (lw : ∀ q ∈ W, m.length ≤ q) (hi : i ≤ L.length) (hi2 : i ≤ 30) (hend : i = L.length ∨ i = 30) (hsz : ∀ j s, j < i → L[j]? = some s → s.p.length ≤ 1024)
    (hv : RdB N v lb) (hlb : lb.length ≤ 10000) (hvW : ∀ q ∈ blkOf v, q ∉ W) : wpA Tryd.prog d5_10 [(0, l), (2, y), (7, .ptr x 0), (9, v)] N (retQ [.tmp 6] fun r m' => r = .bool true ∧ Kept [] m m') := by
  have hrl := runC_len L i
  simp -implicitDefEqProofs (disch := (first | omega | (simp only [lenB, lowB_len, numB_len, nsumB_len] <;> omega) | fail)) only [admQ, lenB, lowB_len, numB_len, nsumB_len, aFill, AK.cls, implies_true, ↓reduceIte, reduceCtorEq, if_true, if_false, Nat.reduceAdd, Nat.reduceEqDiff, Nat.reduceMod, Nat.reduceLT, Nat.reduceLeDiff, Nat.reduceSub, Nat.reduceMul, Nat.reduceBEq, Int.reduceAdd, Int.reduceSub, Int.reduceMul, Int.reduceNeg, Int.reduceLT, Int.reduceLE, Int.reduceToNat, Int.reduceEq, Int.reduceBEq, d5_10]
  refine LoopW.on (fun t : Nat × List Nat => [(0, l), (2, y), (7, .ptr x 0), (9, v), (15, .int .i64 t.1)]) (fun t => lb.length - t.1)
    (fun t M => t.1 ≤ lb.length ∧ TlJ m L i x v lb .nils [] t.2 M) ?_ (0, W) _ _ rfl ⟨Nat.zero_le _, hk, hC, lw, hv, hvW, .nils _, by simp [blkOf]⟩
  rintro ⟨j, W⟩ M X ⟨hj, hT⟩ hX
  simp only at hj hT
  by_cases hlt : j < lb.length
  · have e1 : (j : Int) < lb.length := by omega
    simp -implicitDefEqProofs (disch := (first | omega | (simp only [lenB, lowB_len, numB_len, nsumB_len] <;> omega) | fail)) only [admQ, lenB, lowB_len, numB_len, nsumB_len, aFill, AK.cls, implies_true, ↓reduceIte, reduceCtorEq, if_true, if_false, Nat.reduceAdd, Nat.reduceEqDiff, Nat.reduceMod, Nat.reduceLT, Nat.reduceLeDiff, Nat.reduceSub, Nat.reduceMul, Nat.reduceBEq, Int.reduceAdd, Int.reduceSub, Int.reduceMul, Int.reduceNeg, Int.reduceLT, Int.reduceLE, Int.reduceToNat, Int.reduceEq, Int.reduceBEq, d5_11, d5_12, hT.rv.len, dec_t e1]
    refine (ans_copybytes hT.rv (by omega)).mono ?_
    rintro z M1 ⟨k1, g1⟩
    have hT1 := hT.kept0 k1
    obtain ⟨bz, n, rfl, h1, hn, hbz, hlow⟩ := g1.sl (by intro h; have := congrArg List.length h; rw [bys_len, List.length_nil] at this; omega)
    have hn : lb.length = n := by simpa [bys] using hn
    subst hn
    have hw8 : IntKind.u8.wrap ((1 + b.length % 255 : Nat) : Int) = ((kB ((1 + b.length % 255 : Nat) : Int)).toNat : Int) := wr_u8 _
    generalize kB ((1 + b.length % 255 : Nat) : Int) = w8 at hw8
    have e2 := bys_get (l := lb) (n := lb.length) (i := j) rfl hlt
    have hsp := splice_byte (l := lb) (i := j) (x := gb lb j ^^^ w8) hlt
    simp -implicitDefEqProofs (disch := (first | omega | (simp only [lenB, lowB_len, numB_len, nsumB_len] <;> omega) | fail)) only [admQ, lenB, lowB_len, numB_len, nsumB_len, aFill, AK.cls, implies_true, ↓reduceIte, reduceCtorEq, if_true, if_false, Nat.reduceAdd, Nat.reduceEqDiff, Nat.reduceMod, Nat.reduceLT, Nat.reduceLeDiff, Nat.reduceSub, Nat.reduceMul, Nat.reduceBEq, Int.reduceAdd, Int.reduceSub, Int.reduceMul, Int.reduceNeg, Int.reduceLT, Int.reduceLE, Int.reduceToNat, Int.reduceEq, Int.reduceBEq, (hy.kept0 hT1.kept).len, rowOf_own hbz, e2, hw8, xor_vv_u8, hbz, hsp]
    have hb2 := own_set (own_lt hbz) (bys (lb.set j (gb lb j ^^^ w8)))
    have hrd := RdB.row (l := lb.set j (gb lb j ^^^ w8)) lb.length 1 (rowOf_own hb2) (by simp)
    rw [List.length_set] at hrd
    have hyl : (lb.set j (gb lb j ^^^ w8)).length = lb.length := List.length_set
    have kz : Kept [] M (M1.set bz (.row (bys (lb.set j (gb lb j ^^^ w8))) false)) := k1.write (.inr hlow) _
    generalize lb.set j (gb lb j ^^^ w8) = yl at hb2 hrd hyl kz
    generalize M1.set bz (.row (bys yl) false) = M2 at hb2 hrd kz
    have hT2 := hT.kept0 kz
    have hT3 : TlJ m L i x v lb (.sl bz 0 lb.length lb.length 1) yl W M2 := ⟨hT2.kept, hT2.cr, hT2.low, hT2.rv, hT2.vW, hrd, fun q hq h => by
      simp only [blkOf, List.mem_singleton] at hq
      subst hq
      have := hT.cr.lt q h
      omega⟩
    clear hT2 hT1
    refine LoopW.on (fun t : Nat × List Nat × Bool => [(0, l), (2, y), (7, .ptr x 0), (9, v), (15, .int .i64 j), (16, .sl bz 0 lb.length lb.length 1), (17, .bool t.2.2), (18, .int .i64 t.1)]) (fun t => L.length - t.1)
      (fun t M => t.1 ≤ i ∧ TlJ m L i x v lb (.sl bz 0 lb.length lb.length 1) yl t.2.1 M ∧ (t.2.2 = true ↔ anyP L t.1 (runC L i) yl)) ?_ (0, W, false) _ _ rfl ⟨Nat.zero_le _, hT3, by simp [anyP]⟩
    clear hT3 hT kz hrd hb2 hbz hsp e2 hw8 g1 k1 hlow M1 M2
    rintro ⟨u, W, pt⟩ M X2 ⟨hu, hT, hpt⟩ hX2
    simp only at hu hT hpt
    by_cases hgo : u < i ∧ pt = false
    · obtain ⟨hui, rfl⟩ := hgo
      have f1 : (u : Int) < L.length := by omega
      have f2 : (u : Int) < 30 := by omega
      have hlen := hl.len
      rcases hl with ⟨_, rfl⟩ | ⟨bl, cap, xs, rfl, hrow, hhl, hel⟩
      · simp at f1; omega
      obtain ⟨s, hs⟩ : ∃ s, L[u]? = some s := ⟨_, List.getElem?_eq_getElem (by omega)⟩
      obtain ⟨p, a1, a2, a3, a4, a5, a6⟩ := hel u s hs
      have t5 := take5 a1 a2 a3 a4 a5
      have r0 := hT.kept.row hrow (by simp)
      have hpl := a6.blk_lt
      have hsp := hsz u s hui hs
      simp -implicitDefEqProofs (disch := (first | omega | (simp only [lenB, lowB_len, numB_len, nsumB_len] <;> omega) | fail)) only [admQ, lenB, lowB_len, numB_len, nsumB_len, aFill, AK.cls, implies_true, ↓reduceIte, reduceCtorEq, if_true, if_false, Nat.reduceAdd, Nat.reduceEqDiff, Nat.reduceMod, Nat.reduceLT, Nat.reduceLeDiff, Nat.reduceSub, Nat.reduceMul, Nat.reduceBEq, Int.reduceAdd, Int.reduceSub, Int.reduceMul, Int.reduceNeg, Int.reduceLT, Int.reduceLE, Int.reduceToNat, Int.reduceEq, Int.reduceBEq, d5_13, d5_14, dec_t f1, dec_t f2, Bool.not_false, r0, a1, a2, a3, a4, a5, t5]
      refine (ans_scput (s := s) hT.cr (a6.kept0 hT.kept) (fun q h1 h2 => by have := hpl q h1; have := hT.low q h2; omega) (show (runC L i).length ≤ 1000 by omega) (by omega)).mono ?_
      rintro _ M1 ⟨W', R', w, k1, hC1, hR1, rfl, rw1, bw1⟩
      rw [putC_nm, runC_again hui hs] at hC1
      obtain ⟨hN1, rfl⟩ := hC1
      have hT1 := hT.put k1 ⟨hN1, rfl⟩ hR1
      have hany := anyP_succ hs (S := runC L i) (b := yl)
      have hno : ¬ anyP L u (runC L i) yl := fun h => by have := hpt.mpr h; cases this
      by_cases hok : okP s
      · rw [(errP_ok s).mpr hok]
        have hlw := putL_len (c := .nm (runC L i) []) hok
        simp -implicitDefEqProofs (disch := (first | omega | (simp only [lenB, lowB_len, numB_len, nsumB_len] <;> omega) | fail)) only [admQ, lenB, lowB_len, numB_len, nsumB_len, aFill, AK.cls, implies_true, ↓reduceIte, reduceCtorEq, if_true, if_false, Nat.reduceAdd, Nat.reduceEqDiff, Nat.reduceMod, Nat.reduceLT, Nat.reduceLeDiff, Nat.reduceSub, Nat.reduceMul, Nat.reduceBEq, Int.reduceAdd, Int.reduceSub, Int.reduceMul, Int.reduceNeg, Int.reduceLT, Int.reduceLE, Int.reduceToNat, Int.reduceEq, Int.reduceBEq]
        refine (ans_samebytes rw1 hT1.rz (by omega)).mono ?_
        rintro _ M2 ⟨rfl, hM⟩
        subst hM
        simp -implicitDefEqProofs (disch := (first | omega | (simp only [lenB, lowB_len, numB_len, nsumB_len] <;> omega) | fail)) only [admQ, lenB, lowB_len, numB_len, nsumB_len, aFill, AK.cls, implies_true, ↓reduceIte, reduceCtorEq, if_true, if_false, Nat.reduceAdd, Nat.reduceEqDiff, Nat.reduceMod, Nat.reduceLT, Nat.reduceLeDiff, Nat.reduceSub, Nat.reduceMul, Nat.reduceBEq, Int.reduceAdd, Int.reduceSub, Int.reduceMul, Int.reduceNeg, Int.reduceLT, Int.reduceLE, Int.reduceToNat, Int.reduceEq, Int.reduceBEq]
        refine hX2 (u + 1, R', putL (.nm (runC L i) []) s == yl) _ _ rfl (by simp only; omega) ⟨hui, hT1, ?_⟩
        simp only [hany, hno, hok, false_or, true_and, beq_iff_eq]
      · simp -implicitDefEqProofs (disch := (first | omega | (simp only [lenB, lowB_len, numB_len, nsumB_len] <;> omega) | fail)) only [admQ, lenB, lowB_len, numB_len, nsumB_len, aFill, AK.cls, implies_true, ↓reduceIte, reduceCtorEq, if_true, if_false, Nat.reduceAdd, Nat.reduceEqDiff, Nat.reduceMod, Nat.reduceLT, Nat.reduceLeDiff, Nat.reduceSub, Nat.reduceMul, Nat.reduceBEq, Int.reduceAdd, Int.reduceSub, Int.reduceMul, Int.reduceNeg, Int.reduceLT, Int.reduceLE, Int.reduceToNat, Int.reduceEq, Int.reduceBEq, beq_eq_false_iff_ne.mpr (fun h => hok ((errP_ok s).mp h))]
        exact hX2 (u + 1, R', false) _ _ rfl (by simp only; omega) ⟨hui, hT1, by simp only [hany, hno, hok, false_or, false_and]; simp⟩
    · have hall : anyP L i (runC L i) yl → pt = true := fun h => by
        cases hp : pt with
        | true => rfl
        | false =>
          have : u = i := by
            have : ¬ (u < i) := fun h1 => hgo ⟨h1, hp⟩
            omega
          have h9 := hpt.mpr (by rw [this]; exact h)
          rw [hp] at h9; cases h9
      have hex : (¬ (u : Int) < L.length) ∨ ((u : Int) < L.length ∧ ¬ (u : Int) < 30) ∨ ((u : Int) < L.length ∧ (u : Int) < 30 ∧ pt = true) := by
        by_cases h1 : (u : Int) < L.length
        · by_cases h2 : (u : Int) < 30
          · refine .inr (.inr ⟨h1, h2, ?_⟩)
            cases hp : pt with
            | true => rfl
            | false => exact absurd ⟨by omega, hp⟩ hgo
          · exact .inr (.inl ⟨h1, h2⟩)
        · exact .inl h1
      rcases hex with h1 | ⟨h1, h2⟩ | ⟨h1, h2, hp⟩
      case' inl => simp -implicitDefEqProofs (disch := (first | omega | (simp only [lenB, lowB_len, numB_len, nsumB_len] <;> omega) | fail)) only [admQ, lenB, lowB_len, numB_len, nsumB_len, aFill, AK.cls, implies_true, ↓reduceIte, reduceCtorEq, if_true, if_false, Nat.reduceAdd, Nat.reduceEqDiff, Nat.reduceMod, Nat.reduceLT, Nat.reduceLeDiff, Nat.reduceSub, Nat.reduceMul, Nat.reduceBEq, Int.reduceAdd, Int.reduceSub, Int.reduceMul, Int.reduceNeg, Int.reduceLT, Int.reduceLE, Int.reduceToNat, Int.reduceEq, Int.reduceBEq, d5_13, d5_14, hl.len, dec_f h1]
      case' inr.inl => simp -implicitDefEqProofs (disch := (first | omega | (simp only [lenB, lowB_len, numB_len, nsumB_len] <;> omega) | fail)) only [admQ, lenB, lowB_len, numB_len, nsumB_len, aFill, AK.cls, implies_true, ↓reduceIte, reduceCtorEq, if_true, if_false, Nat.reduceAdd, Nat.reduceEqDiff, Nat.reduceMod, Nat.reduceLT, Nat.reduceLeDiff, Nat.reduceSub, Nat.reduceMul, Nat.reduceBEq, Int.reduceAdd, Int.reduceSub, Int.reduceMul, Int.reduceNeg, Int.reduceLT, Int.reduceLE, Int.reduceToNat, Int.reduceEq, Int.reduceBEq, d5_13, d5_14, hl.len, dec_t h1, dec_f h2]
      case' inr.inr =>
        have nt : (!pt) = false := by rw [hp]; rfl
        simp -implicitDefEqProofs (disch := (first | omega | (simp only [lenB, lowB_len, numB_len, nsumB_len] <;> omega) | fail)) only [admQ, lenB, lowB_len, numB_len, nsumB_len, aFill, AK.cls, implies_true, ↓reduceIte, reduceCtorEq, if_true, if_false, Nat.reduceAdd, Nat.reduceEqDiff, Nat.reduceMod, Nat.reduceLT, Nat.reduceLeDiff, Nat.reduceSub, Nat.reduceMul, Nat.reduceBEq, Int.reduceAdd, Int.reduceSub, Int.reduceMul, Int.reduceNeg, Int.reduceLT, Int.reduceLE, Int.reduceToNat, Int.reduceEq, Int.reduceBEq, d5_13, d5_14, hl.len, dec_t h1, dec_t h2, nt]
      all_goals
        clear h1
        refine LoopW.on (fun t : Nat => [(0, l), (2, y), (7, .ptr x 0), (9, v), (15, .int .i64 j), (16, .sl bz 0 lb.length lb.length 1), (17, .bool pt), (21, .int .i64 t)]) (fun t => L.length - t)
          (fun t M => t ≤ i ∧ TlJ m L i x v lb (.sl bz 0 lb.length lb.length 1) yl W M) ?_ 0 _ _ rfl ⟨Nat.zero_le _, hT⟩
        clear hT
        rintro g M X3 ⟨hg, hT⟩ hX3
        by_cases hgo2 : g < i ∧ (((j % 7 : Nat) : Int) == 0) = true
        · obtain ⟨hgi, hm7⟩ := hgo2
          have f1 : (g : Int) < L.length := by omega
          have f2 : (g : Int) < 30 := by omega
          have hlen := hl.len
          rcases hl with ⟨_, rfl⟩ | ⟨bl, cap, xs, rfl, hrow, hhl, hel⟩
          · simp at f1; omega
          obtain ⟨s, hs⟩ : ∃ s, L[g]? = some s := ⟨_, List.getElem?_eq_getElem (by omega)⟩
          obtain ⟨p, a1, a2, a3, a4, a5, a6⟩ := hel g s hs
          have r0 := hT.kept.row hrow (by simp)
          simp -implicitDefEqProofs (disch := (first | omega | (simp only [lenB, lowB_len, numB_len, nsumB_len] <;> omega) | fail)) only [admQ, lenB, lowB_len, numB_len, nsumB_len, aFill, AK.cls, implies_true, ↓reduceIte, reduceCtorEq, if_true, if_false, Nat.reduceAdd, Nat.reduceEqDiff, Nat.reduceMod, Nat.reduceLT, Nat.reduceLeDiff, Nat.reduceSub, Nat.reduceMul, Nat.reduceBEq, Int.reduceAdd, Int.reduceSub, Int.reduceMul, Int.reduceNeg, Int.reduceLT, Int.reduceLE, Int.reduceToNat, Int.reduceEq, Int.reduceBEq, d5_15, d5_16, dec_t f1, dec_t f2, hm7, r0, a1, a2, a3, a4, a5]
          refine (ans_scget (k := s.k) (a := s.a) hT.cr hT.rz (show (runC L i).length ≤ 1000 by omega) (by omega)).mono ?_
          rintro _ M1 ⟨k1, w, rfl, rw1, bw1⟩
          have hT1 := hT.kept0 k1
          have r1 := hT1.kept.row hrow (by simp)
          unfold secV
          have hfg := found_get (L := L) (i := i) (k := s.k) (a := s.a) (b := yl)
          by_cases he : getE (.nm (runC L i) []) s.k s.a yl = 0
          · have hpt1 := hall (foundP_any (hfg.mp he))
            simp -implicitDefEqProofs (disch := (first | omega | (simp only [lenB, lowB_len, numB_len, nsumB_len] <;> omega) | fail)) only [admQ, lenB, lowB_len, numB_len, nsumB_len, aFill, AK.cls, implies_true, ↓reduceIte, reduceCtorEq, if_true, if_false, Nat.reduceAdd, Nat.reduceEqDiff, Nat.reduceMod, Nat.reduceLT, Nat.reduceLeDiff, Nat.reduceSub, Nat.reduceMul, Nat.reduceBEq, Int.reduceAdd, Int.reduceSub, Int.reduceMul, Int.reduceNeg, Int.reduceLT, Int.reduceLE, Int.reduceToNat, Int.reduceEq, Int.reduceBEq, r0, r1, a1, a2, a3, a4, a5, (rd_one rw1).1, (rd_one rw1).2, he, hpt1, Bool.not_true]
            exact hX3 (g + 1) _ _ (by rw [hpt1]; rfl) (by omega) ⟨hgi, hT1.kept0 (.app _ _ _)⟩
          · simp -implicitDefEqProofs (disch := (first | omega | (simp only [lenB, lowB_len, numB_len, nsumB_len] <;> omega) | fail)) only [admQ, lenB, lowB_len, numB_len, nsumB_len, aFill, AK.cls, implies_true, ↓reduceIte, reduceCtorEq, if_true, if_false, Nat.reduceAdd, Nat.reduceEqDiff, Nat.reduceMod, Nat.reduceLT, Nat.reduceLeDiff, Nat.reduceSub, Nat.reduceMul, Nat.reduceBEq, Int.reduceAdd, Int.reduceSub, Int.reduceMul, Int.reduceNeg, Int.reduceLT, Int.reduceLE, Int.reduceToNat, Int.reduceEq, Int.reduceBEq, r0, r1, a1, a2, a3, a4, a5, (rd_one rw1).1, (rd_one rw1).2, beq_eq_false_iff_ne.mpr he]
            exact hX3 (g + 1) _ _ rfl (by omega) ⟨hgi, hT1.kept0 (.app _ _ _)⟩
        · have next : ∀ t, AFr.cut [0, 2, 7, 9, 15] t = [(0, l), (2, y), (7, .ptr x 0), (9, v), (15, .int .i64 ((j : Int) + 1))] → X t M := fun t ht =>
            hX (j + 1, W) _ _ ht (by simp only; omega) ⟨by simp only; omega, hT.kept, hT.cr, hT.low, hT.rv, hT.vW, .nils _, by simp [blkOf]⟩
          by_cases h1 : (g : Int) < L.length
          · by_cases h2 : (g : Int) < 30
            · have hm7 : (((j % 7 : Nat) : Int) == 0) = false := by
                cases hm : (((j % 7 : Nat) : Int) == 0) with
                | false => rfl
                | true => exact absurd ⟨by omega, hm⟩ hgo2
              simp -implicitDefEqProofs (disch := (first | omega | (simp only [lenB, lowB_len, numB_len, nsumB_len] <;> omega) | fail)) only [admQ, lenB, lowB_len, numB_len, nsumB_len, aFill, AK.cls, implies_true, ↓reduceIte, reduceCtorEq, if_true, if_false, Nat.reduceAdd, Nat.reduceEqDiff, Nat.reduceMod, Nat.reduceLT, Nat.reduceLeDiff, Nat.reduceSub, Nat.reduceMul, Nat.reduceBEq, Int.reduceAdd, Int.reduceSub, Int.reduceMul, Int.reduceNeg, Int.reduceLT, Int.reduceLE, Int.reduceToNat, Int.reduceEq, Int.reduceBEq, d5_15, d5_16, hl.len, dec_t h1, dec_t h2, hm7]
              exact next _ rfl
            · simp -implicitDefEqProofs (disch := (first | omega | (simp only [lenB, lowB_len, numB_len, nsumB_len] <;> omega) | fail)) only [admQ, lenB, lowB_len, numB_len, nsumB_len, aFill, AK.cls, implies_true, ↓reduceIte, reduceCtorEq, if_true, if_false, Nat.reduceAdd, Nat.reduceEqDiff, Nat.reduceMod, Nat.reduceLT, Nat.reduceLeDiff, Nat.reduceSub, Nat.reduceMul, Nat.reduceBEq, Int.reduceAdd, Int.reduceSub, Int.reduceMul, Int.reduceNeg, Int.reduceLT, Int.reduceLE, Int.reduceToNat, Int.reduceEq, Int.reduceBEq, d5_15, d5_16, hl.len, dec_t h1, dec_f h2]
              exact next _ rfl
          · simp -implicitDefEqProofs (disch := (first | omega | (simp only [lenB, lowB_len, numB_len, nsumB_len] <;> omega) | fail)) only [admQ, lenB, lowB_len, numB_len, nsumB_len, aFill, AK.cls, implies_true, ↓reduceIte, reduceCtorEq, if_true, if_false, Nat.reduceAdd, Nat.reduceEqDiff, Nat.reduceMod, Nat.reduceLT, Nat.reduceLeDiff, Nat.reduceSub, Nat.reduceMul, Nat.reduceBEq, Int.reduceAdd, Int.reduceSub, Int.reduceMul, Int.reduceNeg, Int.reduceLT, Int.reduceLE, Int.reduceToNat, Int.reduceEq, Int.reduceBEq, d5_15, d5_16, hl.len, dec_f h1]
            exact next _ rfl
  · have e1 : ¬ (j : Int) < lb.length := by omega
    simp -implicitDefEqProofs (disch := (first | omega | (simp only [lenB, lowB_len, numB_len, nsumB_len] <;> omega) | fail)) only [admQ, lenB, lowB_len, numB_len, nsumB_len, aFill, AK.cls, implies_true, ↓reduceIte, reduceCtorEq, if_true, if_false, Nat.reduceAdd, Nat.reduceEqDiff, Nat.reduceMod, Nat.reduceLT, Nat.reduceLeDiff, Nat.reduceSub, Nat.reduceMul, Nat.reduceBEq, Int.reduceAdd, Int.reduceSub, Int.reduceMul, Int.reduceNeg, Int.reduceLT, Int.reduceLE, Int.reduceToNat, Int.reduceEq, Int.reduceBEq, d5_11, d5_12, hT.rv.len, dec_f e1]
    refine (ans_scknown (hT.kept.row hK (by simp))).mono ?_
    rintro _ M1 ⟨rfl, k1⟩
    simp -implicitDefEqProofs (disch := (first | omega | (simp only [lenB, lowB_len, numB_len, nsumB_len] <;> omega) | fail)) only [admQ, lenB, lowB_len, numB_len, nsumB_len, aFill, AK.cls, implies_true, ↓reduceIte, reduceCtorEq, if_true, if_false, Nat.reduceAdd, Nat.reduceEqDiff, Nat.reduceMod, Nat.reduceLT, Nat.reduceLeDiff, Nat.reduceSub, Nat.reduceMul, Nat.reduceBEq, Int.reduceAdd, Int.reduceSub, Int.reduceMul, Int.reduceNeg, Int.reduceLT, Int.reduceLE, Int.reduceToNat, Int.reduceEq, Int.reduceBEq]
    exact hT.kept.trans k1
theorem ans_SectorFound {m : Mem} {l y : AV} {L : List Sec} {k a : Int} {b : List B8} (hK : rowOf m 0 = some (wds kT)) (hl : RdSecs m l L) (hy : RdB m y b) :
    Ans Tryd.prog 5 [l, .agg [.int .i64 k, .int .i64 a], y] m fun r m' => r = .bool true ∧ Kept [] m m' := by
  refine ans_ret mixed ok5 ?_
  have known : ∀ M, Kept [] m M → Ans Tryd.prog 8 [] M fun r m' => r = .bool true ∧ Kept [] m m' := fun M hk =>
    (ans_scknown (hk.row hK (by simp))).mono fun r m' ⟨h1, h2⟩ => ⟨h1, hk.trans h2⟩
  have k0 := Kept.app [] m [Blk.row [.int .i64 k, .int .i64 a] false]
  by_cases h1 : (b.length : Int) > 4096
  · simp -implicitDefEqProofs (disch := (first | omega | (simp only [lenB, lowB_len, numB_len, nsumB_len] <;> omega) | fail)) only [admQ, lenB, lowB_len, numB_len, nsumB_len, aFill, AK.cls, implies_true, ↓reduceIte, reduceCtorEq, if_true, if_false, Nat.reduceAdd, Nat.reduceEqDiff, Nat.reduceMod, Nat.reduceLT, Nat.reduceLeDiff, Nat.reduceSub, Nat.reduceMul, Nat.reduceBEq, Int.reduceAdd, Int.reduceSub, Int.reduceMul, Int.reduceNeg, Int.reduceLT, Int.reduceLE, Int.reduceToNat, Int.reduceEq, Int.reduceBEq, q5, d5_1, d5_2, d5_3, d5_4, d5_5, d5_6, d5_7, d5_8, d5_9, d5_11, d5_12, d5_13, d5_14, d5_15, d5_16, r5, hy.len, dec_t h1]
    refine (known _ k0).mono ?_
    rintro _ m1 ⟨rfl, k1⟩
    simp -implicitDefEqProofs (disch := (first | omega | (simp only [lenB, lowB_len, numB_len, nsumB_len] <;> omega) | fail)) only [admQ, lenB, lowB_len, numB_len, nsumB_len, aFill, AK.cls, implies_true, ↓reduceIte, reduceCtorEq, if_true, if_false, Nat.reduceAdd, Nat.reduceEqDiff, Nat.reduceMod, Nat.reduceLT, Nat.reduceLeDiff, Nat.reduceSub, Nat.reduceMul, Nat.reduceBEq, Int.reduceAdd, Int.reduceSub, Int.reduceMul, Int.reduceNeg, Int.reduceLT, Int.reduceLE, Int.reduceToNat, Int.reduceEq, Int.reduceBEq]
    exact k1
  simp -implicitDefEqProofs (disch := (first | omega | (simp only [lenB, lowB_len, numB_len, nsumB_len] <;> omega) | fail)) only [admQ, lenB, lowB_len, numB_len, nsumB_len, aFill, AK.cls, implies_true, ↓reduceIte, reduceCtorEq, if_true, if_false, Nat.reduceAdd, Nat.reduceEqDiff, Nat.reduceMod, Nat.reduceLT, Nat.reduceLeDiff, Nat.reduceSub, Nat.reduceMul, Nat.reduceBEq, Int.reduceAdd, Int.reduceSub, Int.reduceMul, Int.reduceNeg, Int.reduceLT, Int.reduceLE, Int.reduceToNat, Int.reduceEq, Int.reduceBEq, q5, d5_1, d5_2, d5_3, d5_4, d5_5, d5_6, d5_7, d5_8, d5_9, d5_11, d5_12, d5_13, d5_14, d5_15, d5_16, r5, hy.len, dec_f h1]
  have o0 : own (m ++ [Blk.row [.int .i64 k, .int .i64 a] false]) m.length = some [.int .i64 k, .int .i64 a] := by rw [own_app_at0]; rfl
  generalize m ++ [Blk.row [.int .i64 k, .int .i64 a] false] = A at k0 o0
  have hlA := hl.kept0 k0
  have hyA := hy.kept0 k0
  have hvA := own_lt o0
  refine (ans_nnew A).mono ?_
  rintro _ m1 ⟨x, W, rfl, k1, hN, hW⟩
  have hC : Cy m1 x W W (.nm [] []) := ⟨hN, rfl⟩
  simp -implicitDefEqProofs (disch := (first | omega | (simp only [lenB, lowB_len, numB_len, nsumB_len] <;> omega) | fail)) only [admQ, lenB, lowB_len, numB_len, nsumB_len, aFill, AK.cls, implies_true, ↓reduceIte, reduceCtorEq, if_true, if_false, Nat.reduceAdd, Nat.reduceEqDiff, Nat.reduceMod, Nat.reduceLT, Nat.reduceLeDiff, Nat.reduceSub, Nat.reduceMul, Nat.reduceBEq, Int.reduceAdd, Int.reduceSub, Int.reduceMul, Int.reduceNeg, Int.reduceLT, Int.reduceLE, Int.reduceToNat, Int.reduceEq, Int.reduceBEq]
  refine LoopW.on (fun t : Nat × List Nat × Bool × AV => [(0, l), (2, y), (4, .ptr m.length 0), (7, .ptr x 0), (8, .bool t.2.2.1), (9, t.2.2.2), (10, .int .i64 t.1)]) (fun t => L.length - t.1)
    (fun t N => FnJ A L k a b x t.1 t.2.1 t.2.2.1 t.2.2.2 N) ?_ (0, W, false, .nils) _ _ rfl ⟨⟨Nat.zero_le _, Nat.zero_le _⟩, k1, hC, hW, by simp [foundP], by omega, [], .nils _, by simp, by simp [blkOf]⟩
  clear hW k1 hC hN W m1
  rintro ⟨i, W, c, v⟩ N X ⟨⟨hi, hi2⟩, kk, hC, lw, hsd, hsz, lb, hlb, hlb2, hlb3⟩ hX
  simp only at hi hi2 kk hC lw hsd hsz lb hlb hlb2 hlb3
  have hrl := runC_len L i
  by_cases hlt : i < L.length ∧ i < 30
  · obtain ⟨hlt, hlt2⟩ := hlt
    have hlen := hl.len
    rcases hlA with ⟨_, rfl⟩ | ⟨bl, cap, xs, rfl, hrow, hhl, hel⟩
    · simp at hlt
    obtain ⟨s, hs⟩ : ∃ s, L[i]? = some s := ⟨_, List.getElem?_eq_getElem hlt⟩
    obtain ⟨p, a1, a2, a3, a4, a5, a6⟩ := hel i s hs
    have r0 := kk.row hrow (by simp)
    have hpl : ∀ q ∈ blkOf p, q < A.length := a6.blk_lt
    have e1 : ((i : Int) < L.length) := by omega
    have e2 : ((i : Int) < 30) := by omega
    have a6N := a6.kept0 kk
    by_cases hbig : (s.p.length : Int) > 1024
    · simp -implicitDefEqProofs (disch := (first | omega | (simp only [lenB, lowB_len, numB_len, nsumB_len] <;> omega) | fail)) only [admQ, lenB, lowB_len, numB_len, nsumB_len, aFill, AK.cls, implies_true, ↓reduceIte, reduceCtorEq, if_true, if_false, Nat.reduceAdd, Nat.reduceEqDiff, Nat.reduceMod, Nat.reduceLT, Nat.reduceLeDiff, Nat.reduceSub, Nat.reduceMul, Nat.reduceBEq, Int.reduceAdd, Int.reduceSub, Int.reduceMul, Int.reduceNeg, Int.reduceLT, Int.reduceLE, Int.reduceToNat, Int.reduceEq, Int.reduceBEq, dec_t e1, dec_t e2, r0, a1, a2, a3, a4, a5, a6N.len, dec_t hbig]
      refine (known _ (k0.trans kk)).mono ?_
      rintro _ m3 ⟨rfl, k3⟩
      simp -implicitDefEqProofs (disch := (first | omega | (simp only [lenB, lowB_len, numB_len, nsumB_len] <;> omega) | fail)) only [admQ, lenB, lowB_len, numB_len, nsumB_len, aFill, AK.cls, implies_true, ↓reduceIte, reduceCtorEq, if_true, if_false, Nat.reduceAdd, Nat.reduceEqDiff, Nat.reduceMod, Nat.reduceLT, Nat.reduceLeDiff, Nat.reduceSub, Nat.reduceMul, Nat.reduceBEq, Int.reduceAdd, Int.reduceSub, Int.reduceMul, Int.reduceNeg, Int.reduceLT, Int.reduceLE, Int.reduceToNat, Int.reduceEq, Int.reduceBEq]
      exact k3
    · have t5 := take5 a1 a2 a3 a4 a5
      have hsz' : ∀ j s, j < i + 1 → L[j]? = some s → s.p.length ≤ 1024 := fun j s' h1 h2 => by
        by_cases hj : j = i
        · subst hj; rw [hs] at h2; cases h2; omega
        · exact hsz j s' (by omega) h2
      simp -implicitDefEqProofs (disch := (first | omega | (simp only [lenB, lowB_len, numB_len, nsumB_len] <;> omega) | fail)) only [admQ, lenB, lowB_len, numB_len, nsumB_len, aFill, AK.cls, implies_true, ↓reduceIte, reduceCtorEq, if_true, if_false, Nat.reduceAdd, Nat.reduceEqDiff, Nat.reduceMod, Nat.reduceLT, Nat.reduceLeDiff, Nat.reduceSub, Nat.reduceMul, Nat.reduceBEq, Int.reduceAdd, Int.reduceSub, Int.reduceMul, Int.reduceNeg, Int.reduceLT, Int.reduceLE, Int.reduceToNat, Int.reduceEq, Int.reduceBEq, dec_t e1, dec_t e2, r0, a1, a2, a3, a4, a5, a6N.len, dec_f hbig, t5]
      refine (ans_scput (s := s) hC a6N (fun q h1 h2 => by have := hpl q h1; have := lw q h2; omega) (show (runC L i).length ≤ 1000 by omega) (by omega)).mono ?_
      rintro _ N1 ⟨W', R', w, k1, hC1, hR1, rfl, rw1, bw1⟩
      rw [putC_nm, ← runC_succ hs] at hC1
      obtain ⟨hN1, rfl⟩ := hC1
      replace hC1 : Cy N1 x R' R' (.nm (runC L (i + 1)) []) := ⟨hN1, rfl⟩
      have kk1 : Kept [] A N1 := kk.upon k1 lw
      have lw1 : ∀ q ∈ R', A.length ≤ q := fun q hq => (hR1 q hq).elim (lw q) (fun h => by have := kk.len; omega)
      have r1 := kk1.row hrow (by simp)
      have hst := foundP_succ hs (k := k) (a := a) (b := b)
      by_cases hok : okP s
      · have he := (errP_ok s).mpr hok
        have hlw := putL_len (c := .nm (runC L i) []) hok
        have o1 := kk1.own o0 (by simp)
        have done : ∀ N' c', Kept [] N1 N' → (c' = true ↔ foundP L (i + 1) (runC L (i + 1)) k a b) → FnJ A L k a b x (i + 1) R' c' w N' := fun N' c' h1 h2 =>
          ⟨⟨by omega, by omega⟩, kk1.trans h1, hC1.kept0 h1, lw1, h2, hsz', _, rw1.kept0 h1, by omega, fun q hq => (bw1 q hq).2⟩
        rw [he]
        cases c with
        | true =>
          simp -implicitDefEqProofs (disch := (first | omega | (simp only [lenB, lowB_len, numB_len, nsumB_len] <;> omega) | fail)) only [admQ, lenB, lowB_len, numB_len, nsumB_len, aFill, AK.cls, implies_true, ↓reduceIte, reduceCtorEq, if_true, if_false, Nat.reduceAdd, Nat.reduceEqDiff, Nat.reduceMod, Nat.reduceLT, Nat.reduceLeDiff, Nat.reduceSub, Nat.reduceMul, Nat.reduceBEq, Int.reduceAdd, Int.reduceSub, Int.reduceMul, Int.reduceNeg, Int.reduceLT, Int.reduceLE, Int.reduceToNat, Int.reduceEq, Int.reduceBEq, r1, a1, a2, a3, a4, a5, Bool.not_true]
          exact hX (i + 1, R', true, w) _ _ rfl (by simp only; omega) (done _ _ (.refl _ _) ⟨fun _ => hst.mpr (.inl (hsd.mp rfl)), fun _ => rfl⟩)
        | false =>
          have hns : ¬ foundP L i (runC L i) k a b := fun h => by have := hsd.mpr h; cases this
          have no : ¬ (okP s ∧ s.k = k ∧ s.a = a ∧ putL (.nm (runC L i) []) s = b) → ∀ N', Kept [] N1 N' → FnJ A L k a b x (i + 1) R' false w N' := fun h N' hk => done N' _ hk ⟨(by rintro ⟨⟩), fun h2 => (hst.mp h2).elim (fun h => (hns h).elim) (fun h3 => (h h3).elim)⟩
          by_cases q1 : s.k = k
          · by_cases q2 : s.a = a
            · simp -implicitDefEqProofs (disch := (first | omega | (simp only [lenB, lowB_len, numB_len, nsumB_len] <;> omega) | fail)) only [admQ, lenB, lowB_len, numB_len, nsumB_len, aFill, AK.cls, implies_true, ↓reduceIte, reduceCtorEq, if_true, if_false, Nat.reduceAdd, Nat.reduceEqDiff, Nat.reduceMod, Nat.reduceLT, Nat.reduceLeDiff, Nat.reduceSub, Nat.reduceMul, Nat.reduceBEq, Int.reduceAdd, Int.reduceSub, Int.reduceMul, Int.reduceNeg, Int.reduceLT, Int.reduceLE, Int.reduceToNat, Int.reduceEq, Int.reduceBEq, r1, a1, a2, a3, a4, a5, rowOf_own o1, beq_iff_eq.mpr q1, beq_iff_eq.mpr q2]
              refine (ans_samebytes rw1 (hyA.kept0 kk1) (by omega)).mono ?_
              rintro _ N2 ⟨rfl, hM⟩
              subst hM
              by_cases q3 : putL (.nm (runC L i) []) s = b
              · simp -implicitDefEqProofs (disch := (first | omega | (simp only [lenB, lowB_len, numB_len, nsumB_len] <;> omega) | fail)) only [admQ, lenB, lowB_len, numB_len, nsumB_len, aFill, AK.cls, implies_true, ↓reduceIte, reduceCtorEq, if_true, if_false, Nat.reduceAdd, Nat.reduceEqDiff, Nat.reduceMod, Nat.reduceLT, Nat.reduceLeDiff, Nat.reduceSub, Nat.reduceMul, Nat.reduceBEq, Int.reduceAdd, Int.reduceSub, Int.reduceMul, Int.reduceNeg, Int.reduceLT, Int.reduceLE, Int.reduceToNat, Int.reduceEq, Int.reduceBEq, r1, a1, a2, a3, a4, a5, rowOf_own o1, beq_iff_eq.mpr q1, beq_iff_eq.mpr q2, beq_iff_eq.mpr q3]
                exact hX (i + 1, R', true, w) _ _ rfl (by simp only; omega) (done _ _ (.refl _ _) ⟨fun _ => hst.mpr (.inr ⟨hok, q1, q2, q3⟩), fun _ => rfl⟩)
              · simp -implicitDefEqProofs (disch := (first | omega | (simp only [lenB, lowB_len, numB_len, nsumB_len] <;> omega) | fail)) only [admQ, lenB, lowB_len, numB_len, nsumB_len, aFill, AK.cls, implies_true, ↓reduceIte, reduceCtorEq, if_true, if_false, Nat.reduceAdd, Nat.reduceEqDiff, Nat.reduceMod, Nat.reduceLT, Nat.reduceLeDiff, Nat.reduceSub, Nat.reduceMul, Nat.reduceBEq, Int.reduceAdd, Int.reduceSub, Int.reduceMul, Int.reduceNeg, Int.reduceLT, Int.reduceLE, Int.reduceToNat, Int.reduceEq, Int.reduceBEq, r1, a1, a2, a3, a4, a5, rowOf_own o1, beq_iff_eq.mpr q1, beq_iff_eq.mpr q2, beq_eq_false_iff_ne.mpr q3]
                exact hX (i + 1, R', false, w) _ _ rfl (by simp only; omega) (no (fun h => q3 h.2.2.2) _ (.refl _ _))
            · simp -implicitDefEqProofs (disch := (first | omega | (simp only [lenB, lowB_len, numB_len, nsumB_len] <;> omega) | fail)) only [admQ, lenB, lowB_len, numB_len, nsumB_len, aFill, AK.cls, implies_true, ↓reduceIte, reduceCtorEq, if_true, if_false, Nat.reduceAdd, Nat.reduceEqDiff, Nat.reduceMod, Nat.reduceLT, Nat.reduceLeDiff, Nat.reduceSub, Nat.reduceMul, Nat.reduceBEq, Int.reduceAdd, Int.reduceSub, Int.reduceMul, Int.reduceNeg, Int.reduceLT, Int.reduceLE, Int.reduceToNat, Int.reduceEq, Int.reduceBEq, r1, a1, a2, a3, a4, a5, rowOf_own o1, beq_iff_eq.mpr q1, beq_eq_false_iff_ne.mpr q2]
              exact hX (i + 1, R', false, w) _ _ rfl (by simp only; omega) (no (fun h => q2 h.2.2.1) _ (.refl _ _))
          · simp -implicitDefEqProofs (disch := (first | omega | (simp only [lenB, lowB_len, numB_len, nsumB_len] <;> omega) | fail)) only [admQ, lenB, lowB_len, numB_len, nsumB_len, aFill, AK.cls, implies_true, ↓reduceIte, reduceCtorEq, if_true, if_false, Nat.reduceAdd, Nat.reduceEqDiff, Nat.reduceMod, Nat.reduceLT, Nat.reduceLeDiff, Nat.reduceSub, Nat.reduceMul, Nat.reduceBEq, Int.reduceAdd, Int.reduceSub, Int.reduceMul, Int.reduceNeg, Int.reduceLT, Int.reduceLE, Int.reduceToNat, Int.reduceEq, Int.reduceBEq, r1, a1, a2, a3, a4, a5, rowOf_own o1, beq_eq_false_iff_ne.mpr q1]
            exact hX (i + 1, R', false, w) _ _ rfl (by simp only; omega) (no (fun h => q1 h.2.1) _ (.refl _ _))
      · have he : ¬ errP s = 0 := fun h => hok ((errP_ok s).mp h)
        simp -implicitDefEqProofs (disch := (first | omega | (simp only [lenB, lowB_len, numB_len, nsumB_len] <;> omega) | fail)) only [admQ, lenB, lowB_len, numB_len, nsumB_len, aFill, AK.cls, implies_true, ↓reduceIte, reduceCtorEq, if_true, if_false, Nat.reduceAdd, Nat.reduceEqDiff, Nat.reduceMod, Nat.reduceLT, Nat.reduceLeDiff, Nat.reduceSub, Nat.reduceMul, Nat.reduceBEq, Int.reduceAdd, Int.reduceSub, Int.reduceMul, Int.reduceNeg, Int.reduceLT, Int.reduceLE, Int.reduceToNat, Int.reduceEq, Int.reduceBEq, beq_eq_false_iff_ne.mpr he, Bool.not_false]
        refine hX (i + 1, R', c, v) _ _ rfl (by simp only; omega) ⟨⟨by simp only; omega, by simp only; omega⟩, kk1, hC1, lw1, by simp only [hst, hsd, hok, false_and, or_false], hsz', lb, ?_, hlb2, ?_⟩
        · exact rdb_ap hlb k1 hlb3
        · intro q hq h
          rcases hR1 q h with h | h
          · exact hlb3 q hq h
          · have := hlb.blk_lt q hq; omega
  · have ho := kk.own o0 (by simp)
    have hkk := kk.len
    have fin : ((decide ((i : Int) < L.length)) && decide ((i : Int) < 30)) = false := by
      simp only [Bool.and_eq_false_iff, decide_eq_false_iff_not]; omega
    have fin1 : (i : Int) < L.length → ¬ (i : Int) < 30 := by omega
    have hend : i = L.length ∨ i = 30 := by omega
    by_cases e1 : (i : Int) < L.length
    case' neg => simp -implicitDefEqProofs (disch := (first | omega | (simp only [lenB, lowB_len, numB_len, nsumB_len] <;> omega) | fail)) only [admQ, lenB, lowB_len, numB_len, nsumB_len, aFill, AK.cls, implies_true, ↓reduceIte, reduceCtorEq, if_true, if_false, Nat.reduceAdd, Nat.reduceEqDiff, Nat.reduceMod, Nat.reduceLT, Nat.reduceLeDiff, Nat.reduceSub, Nat.reduceMul, Nat.reduceBEq, Int.reduceAdd, Int.reduceSub, Int.reduceMul, Int.reduceNeg, Int.reduceLT, Int.reduceLE, Int.reduceToNat, Int.reduceEq, Int.reduceBEq, hl.len, dec_f e1, rowOf_own ho]
    case' pos => simp -implicitDefEqProofs (disch := (first | omega | (simp only [lenB, lowB_len, numB_len, nsumB_len] <;> omega) | fail)) only [admQ, lenB, lowB_len, numB_len, nsumB_len, aFill, AK.cls, implies_true, ↓reduceIte, reduceCtorEq, if_true, if_false, Nat.reduceAdd, Nat.reduceEqDiff, Nat.reduceMod, Nat.reduceLT, Nat.reduceLeDiff, Nat.reduceSub, Nat.reduceMul, Nat.reduceBEq, Int.reduceAdd, Int.reduceSub, Int.reduceMul, Int.reduceNeg, Int.reduceLT, Int.reduceLE, Int.reduceToNat, Int.reduceEq, Int.reduceBEq, hl.len, dec_t e1, dec_f (fin1 e1), rowOf_own ho]
    all_goals
      clear fin fin1 e1
      have hyN := hyA.kept0 kk
      refine (ans_scget (k := k) (a := a) hC hyN (show (runC L i).length ≤ 1000 by omega) (by omega)).mono ?_
      rintro _ m2 ⟨k2, w, rfl, rw2, bw2⟩
      have hC2 := hC.kept0 k2
      have K2 := k0.trans (kk.trans k2)
      have hfg := found_get (L := L) (i := i) (k := k) (a := a) (b := b)
      have hcg : (getE (.nm (runC L i) []) k a b == 0) = c := by
        rw [Bool.eq_iff_iff, beq_iff_eq, hfg, hsd]
      have tail : ∀ N', Kept [] m2 N' → wpA Tryd.prog d5_10 [(0, l), (2, y), (7, .ptr x 0), (9, v)] N' (retQ [.tmp 6] fun r m' => r = .bool true ∧ Kept [] m m') := fun N' hk =>
        foundTail hK hl hy (by omega) (K2.trans hk) (hC2.kept0 hk) (fun q hq => Nat.le_trans k0.len (lw q hq)) hi hi2 hend hsz (hlb.kept0 (k2.trans hk)) hlb2 hlb3
      unfold secV
      cases c with
      | true =>
        have he : getE (.nm (runC L i) []) k a b = 0 := by simpa using hcg
        simp -implicitDefEqProofs (disch := (first | omega | (simp only [lenB, lowB_len, numB_len, nsumB_len] <;> omega) | fail)) only [admQ, lenB, lowB_len, numB_len, nsumB_len, aFill, AK.cls, implies_true, ↓reduceIte, reduceCtorEq, if_true, if_false, Nat.reduceAdd, Nat.reduceEqDiff, Nat.reduceMod, Nat.reduceLT, Nat.reduceLeDiff, Nat.reduceSub, Nat.reduceMul, Nat.reduceBEq, Int.reduceAdd, Int.reduceSub, Int.reduceMul, Int.reduceNeg, Int.reduceLT, Int.reduceLE, Int.reduceToNat, Int.reduceEq, Int.reduceBEq, (rd_one rw2).1, (rd_one rw2).2, he, Bool.not_true]
        exact wp_recut [0, 2, 7, 9] rfl (tail _ (.app _ _ _))
      | false =>
        have he : ¬ getE (.nm (runC L i) []) k a b = 0 := by simpa using hcg
        have hs0 := getS_no he
        rw [hs0] at rw2 ⊢
        simp -implicitDefEqProofs (disch := (first | omega | (simp only [lenB, lowB_len, numB_len, nsumB_len] <;> omega) | fail)) only [admQ, lenB, lowB_len, numB_len, nsumB_len, aFill, AK.cls, implies_true, ↓reduceIte, reduceCtorEq, if_true, if_false, Nat.reduceAdd, Nat.reduceEqDiff, Nat.reduceMod, Nat.reduceLT, Nat.reduceLeDiff, Nat.reduceSub, Nat.reduceMul, Nat.reduceBEq, Int.reduceAdd, Int.reduceSub, Int.reduceMul, Int.reduceNeg, Int.reduceLT, Int.reduceLE, Int.reduceToNat, Int.reduceEq, Int.reduceBEq, (rd_one rw2).1, (rd_one rw2).2, beq_eq_false_iff_ne.mpr he, Bool.not_true]
        refine (ans_samesector (s := sec0) (t := sec0) (rw2.app _) (.nils _) (by decide)).mono ?_
        rintro _ m3 ⟨rfl, k3⟩
        simp -implicitDefEqProofs (disch := (first | omega | (simp only [lenB, lowB_len, numB_len, nsumB_len] <;> omega) | fail)) only [admQ, lenB, lowB_len, numB_len, nsumB_len, aFill, AK.cls, implies_true, ↓reduceIte, reduceCtorEq, if_true, if_false, Nat.reduceAdd, Nat.reduceEqDiff, Nat.reduceMod, Nat.reduceLT, Nat.reduceLeDiff, Nat.reduceSub, Nat.reduceMul, Nat.reduceBEq, Int.reduceAdd, Int.reduceSub, Int.reduceMul, Int.reduceNeg, Int.reduceLT, Int.reduceLE, Int.reduceToNat, Int.reduceEq, Int.reduceBEq, decide_true, Bool.not_true]
        exact wp_recut [0, 2, 7, 9] rfl (tail _ ((Kept.app _ _ _).trans k3))
end Go.Proofs.YtmnlmjlmbceimaaDoor
end
section
/- Sectors: the chapter's examples. -/
namespace Go.Proofs.YtmnlmjlmbceimaaDoor
open Go Go.Adm
set_option linter.unusedSimpArgs false
set_option linter.unusedVariables false
set_option maxRecDepth 100000
def noughts (n : Nat) : List B8 := List.replicate n 0#8
def scS : List Sec := [⟨0, 0, 0, 0, []⟩, ⟨6, 0, 0, 0, []⟩, ⟨-1, 0, 0, 0, []⟩, ⟨1, 0, 0, 0, []⟩, ⟨5, -1, 0, 0, []⟩, ⟨5, 1099511627776, 1099511627776, 4095, []⟩, ⟨5, 0, 1099511627777, 0, []⟩, ⟨5, 0, 0, 4096, []⟩, ⟨5, 0, 0, -1, []⟩, ⟨4, 0, 0, 0, noughts 975⟩, ⟨4, 0, 0, 0, noughts 976⟩]
def scW : List AV := [.int .i64 5, .int .i64 5, .int .i64 5, .int .i64 0, .int .i64 7, .int .i64 0, .int .i64 7, .int .i64 7, .int .i64 7, .int .i64 0, .int .i64 3]
theorem rd_noughts {m : Mem} {p : Nat} (n : Nat) (h : rowOf m p = some (rep n [.int .u8 0])) : RdB m (.sl p 0 n n 0) (noughts n) := by
  have hr : rep n [AV.int .u8 0] = bys (noughts n) := by rw [noughts, ← bys_rep]; simp [rep]
  have := RdB.row (l := noughts n) n 0 (by rw [h, hr]) (by simp [noughts])
  rwa [show (noughts n).length = n by simp [noughts]] at this
theorem scS_want {i : Nat} {s : Sec} (h : scS[i]? = some s) : scW[i]? = some (.int .i64 (errP s)) := by
  have hi := lt_of_get h
  simp only [scS, List.length_cons, List.length_nil] at hi
  have e9 : ∀ n, errP ⟨4, 0, 0, 0, noughts n⟩ = if n > 975 then 3 else 0 := fun n => by
    have : rightP 0 0 0 := by decide
    simp [errP, noughts, this]
  match i, hi with
  | 0, _ => cases h; rfl
  | 1, _ => cases h; rfl
  | 2, _ => cases h; rfl
  | 3, _ => cases h; rfl
  | 4, _ => cases h; rfl
  | 5, _ => cases h; rfl
  | 6, _ => cases h; rfl
  | 7, _ => cases h; rfl
  | 8, _ => cases h; rfl
  | 9, _ => cases h; rw [e9]; rfl
  | 10, _ => cases h; rw [e9]; rfl
theorem scS_sz {i : Nat} {s : Sec} (h : scS[i]? = some s) : s.p.length ≤ 976 := by
  have hi := lt_of_get h
  simp only [scS, List.length_cons, List.length_nil] at hi
  match i, hi with
  | 0, _ => cases h; simp
  | 1, _ => cases h; simp
  | 2, _ => cases h; simp
  | 3, _ => cases h; simp
  | 4, _ => cases h; simp
  | 5, _ => cases h; simp
  | 6, _ => cases h; simp
  | 7, _ => cases h; simp
  | 8, _ => cases h; simp
  | 9, _ => cases h; simp [noughts]
  | 10, _ => cases h; simp [noughts]
def knInit : ACode := hdC (tlC (tlC c6))
def knWant : ACode := hdC (tlC (tlC (tlC c6)))
def knRest : ACode := tlC (tlC (tlC (tlC c6)))
theorem knCode : c6 = .seq (.ops [] [ox 0 .mv [.c (.bool false)]]) (.seq (.ops [1] [ox 21 (.call 10) [], ox 1 .mv [.t 21]]) (.seq knInit (.seq knWant knRest))) := rfl
theorem knRestCode : knRest = .seq (.seq (.ops [1, 2, 3, 4] [ox 4 .mv [.c (.int .i64 0)]]) (.block 0 (.loop [1, 2, 3, 4] (.seq d6_1 d6_2)))) (.seq (.ops [1, 9] [ox 87 .mv [.t 1], ox 88 (.iface 28) [.t 87], ox 89 (.build [.int .i64 0, .int .i64 0, .int .i64 0, .int .i64 0, .nils] [(0, 1), (3, 1)]) [.c (.int .i64 4), .c (.int .i64 3)], ox 90 (.call 11) [.t 88, .t 89], ox 86 .mv [.t 90], ox 91 (.extract 0) [.t 86], ox 92 (.extract 1) [.t 86], ox 9 .mv [.t 91], ox 10 .mv [.t 92]]) (.seq d6_5 d6_6)) := rfl
def scC : List AV → List AV → List AV := fun a b => [.int .i64 0, .int .i64 0, .int .i64 0, .int .i64 0, .nils, .int .i64 6, .int .i64 0, .int .i64 0, .int .i64 0, .nils, .int .i64 (-1), .int .i64 0, .int .i64 0, .int .i64 0, .nils, .int .i64 1, .int .i64 0, .int .i64 0, .int .i64 0, .nils, .int .i64 5, .int .i64 (-1), .int .i64 0, .int .i64 0, .nils, .int .i64 5, .int .i64 1099511627776, .int .i64 1099511627776, .int .i64 4095, .nils, .int .i64 5, .int .i64 0, .int .i64 1099511627777, .int .i64 0, .nils, .int .i64 5, .int .i64 0, .int .i64 0, .int .i64 4096, .nils, .int .i64 5, .int .i64 0, .int .i64 0, .int .i64 (-1), .nils, .int .i64 4, .int .i64 0, .int .i64 0, .int .i64 0] ++ a ++ [.int .i64 4, .int .i64 0, .int .i64 0, .int .i64 0] ++ b
theorem knInit_wp {m : Mem} {x : Nat} {Q : Exit → AFr → Mem → Prop} (h : Q .normal [(1, .ptr x 0), (2, .sl (m.length + 2) 0 11 11 0)] (m ++ [.row (rep 975 [.int .u8 0]) false, .row (rep 976 [.int .u8 0]) false, .row (scC [.sl m.length 0 975 975 0] [.sl (m.length + 1) 0 976 976 0]) false])) :
    wpA Tryd.prog knInit [(1, .ptr x 0)] m Q := by
  have f0 : aFill [AV.int .i64 0, .int .i64 0, .int .i64 0, .int .i64 0, .nils] [] [] = some [AV.int .i64 0, .int .i64 0, .int .i64 0, .int .i64 0, .nils] := rfl
  have f1 : aFill [AV.int .i64 0, .int .i64 0, .int .i64 0, .int .i64 0, .nils] [(0, 1)] [AV.int .i64 6] = some [AV.int .i64 6, .int .i64 0, .int .i64 0, .int .i64 0, .nils] := rfl
  have f2 : aFill [AV.int .i64 0, .int .i64 0, .int .i64 0, .int .i64 0, .nils] [(0, 1)] [AV.int .i64 (-1)] = some [AV.int .i64 (-1), .int .i64 0, .int .i64 0, .int .i64 0, .nils] := rfl
  have f3 : aFill [AV.int .i64 0, .int .i64 0, .int .i64 0, .int .i64 0, .nils] [(0, 1)] [AV.int .i64 1] = some [AV.int .i64 1, .int .i64 0, .int .i64 0, .int .i64 0, .nils] := rfl
  have f4 : aFill [AV.int .i64 0, .int .i64 0, .int .i64 0, .int .i64 0, .nils] [(0, 1), (1, 1)] [AV.int .i64 5, AV.int .i64 (-1)] = some [AV.int .i64 5, .int .i64 (-1), .int .i64 0, .int .i64 0, .nils] := rfl
  have f5 : aFill [AV.int .i64 0, .int .i64 0, .int .i64 0, .int .i64 0, .nils] [(0, 1), (1, 1), (2, 1), (3, 1)] [AV.int .i64 5, AV.int .i64 1099511627776, AV.int .i64 1099511627776, AV.int .i64 4095] = some [AV.int .i64 5, .int .i64 1099511627776, .int .i64 1099511627776, .int .i64 4095, .nils] := rfl
  have f6 : aFill [AV.int .i64 0, .int .i64 0, .int .i64 0, .int .i64 0, .nils] [(0, 1), (2, 1)] [AV.int .i64 5, AV.int .i64 1099511627777] = some [AV.int .i64 5, .int .i64 0, .int .i64 1099511627777, .int .i64 0, .nils] := rfl
  have f7 : aFill [AV.int .i64 0, .int .i64 0, .int .i64 0, .int .i64 0, .nils] [(0, 1), (3, 1)] [AV.int .i64 5, AV.int .i64 4096] = some [AV.int .i64 5, .int .i64 0, .int .i64 0, .int .i64 4096, .nils] := rfl
  have f8 : aFill [AV.int .i64 0, .int .i64 0, .int .i64 0, .int .i64 0, .nils] [(0, 1), (3, 1)] [AV.int .i64 5, AV.int .i64 (-1)] = some [AV.int .i64 5, .int .i64 0, .int .i64 0, .int .i64 (-1), .nils] := rfl
  have f9 : ∀ p n : Nat, aFill [AV.int .i64 0, .int .i64 0, .int .i64 0, .int .i64 0, .nils] [(0, 1), (4, 1)] [AV.int .i64 4, .sl p 0 n n 0] = some [AV.int .i64 4, .int .i64 0, .int .i64 0, .int .i64 0, .sl p 0 n n 0] := fun _ _ => rfl
  simp -implicitDefEqProofs (disch := (first | omega | (simp only [lenB, lowB_len, numB_len, nsumB_len] <;> omega) | fail)) only [admQ, lenB, lowB_len, numB_len, nsumB_len, AK.cls, implies_true, ↓reduceIte, reduceCtorEq, if_true, if_false, Nat.reduceAdd, Nat.reduceEqDiff, Nat.reduceMod, Nat.reduceLT, Nat.reduceLeDiff, Nat.reduceSub, Nat.reduceMul, Nat.reduceBEq, Int.reduceAdd, Int.reduceSub, Int.reduceMul, Int.reduceNeg, Int.reduceLT, Int.reduceLE, Int.reduceToNat, Int.reduceEq, Int.reduceBEq, knInit, hdC, tlC, c6, -List.reduceReplicate, f0, f1, f2, f3, f4, f5, f6, f7, f8, f9]
  refine someW_eq (show _ = some (scC [.sl m.length 0 975 975 0] [.sl (m.length + 1) 0 976 976 0]) from rfl) ?_
  simp -implicitDefEqProofs (disch := (first | omega | (simp only [lenB, lowB_len, numB_len, nsumB_len] <;> omega) | fail)) only [admQ, lenB, lowB_len, numB_len, nsumB_len, aFill, AK.cls, implies_true, ↓reduceIte, reduceCtorEq, if_true, if_false, Nat.reduceAdd, Nat.reduceEqDiff, Nat.reduceMod, Nat.reduceLT, Nat.reduceLeDiff, Nat.reduceSub, Nat.reduceMul, Nat.reduceBEq, Int.reduceAdd, Int.reduceSub, Int.reduceMul, Int.reduceNeg, Int.reduceLT, Int.reduceLE, Int.reduceToNat, Int.reduceEq, Int.reduceBEq, -List.reduceReplicate]
  exact h
theorem knWant_wp {m : Mem} {x : Nat} {y : AV} {Q : Exit → AFr → Mem → Prop} (h : Q .normal [(1, .ptr x 0), (2, y), (3, .sl m.length 0 11 11 0)] (m ++ [.row scW false])) :
    wpA Tryd.prog knWant [(1, .ptr x 0), (2, y)] m Q := by
  simp -implicitDefEqProofs (disch := (first | omega | (simp only [lenB, lowB_len, numB_len, nsumB_len] <;> omega) | fail)) only [admQ, lenB, lowB_len, numB_len, nsumB_len, AK.cls, implies_true, ↓reduceIte, reduceCtorEq, if_true, if_false, Nat.reduceAdd, Nat.reduceEqDiff, Nat.reduceMod, Nat.reduceLT, Nat.reduceLeDiff, Nat.reduceSub, Nat.reduceMul, Nat.reduceBEq, Int.reduceAdd, Int.reduceSub, Int.reduceMul, Int.reduceNeg, Int.reduceLT, Int.reduceLE, Int.reduceToNat, Int.reduceEq, Int.reduceBEq, knWant, hdC, tlC, c6, -List.reduceReplicate]
  refine someW_eq (show _ = some scW from rfl) ?_
  simp -implicitDefEqProofs (disch := (first | omega | (simp only [lenB, lowB_len, numB_len, nsumB_len] <;> omega) | fail)) only [admQ, lenB, lowB_len, numB_len, nsumB_len, aFill, AK.cls, implies_true, ↓reduceIte, reduceCtorEq, if_true, if_false, Nat.reduceAdd, Nat.reduceEqDiff, Nat.reduceMod, Nat.reduceLT, Nat.reduceLeDiff, Nat.reduceSub, Nat.reduceMul, Nat.reduceBEq, Int.reduceAdd, Int.reduceSub, Int.reduceMul, Int.reduceNeg, Int.reduceLT, Int.reduceLE, Int.reduceToNat, Int.reduceEq, Int.reduceBEq, -List.reduceReplicate]
  exact h
theorem kept_mix {X Y : List Nat} {m m1 m2 : Mem} (h : Kept Y m m1) (h2 : Kept X m1 m2) (hx : ∀ q ∈ X, q ∈ Y ∨ m.length ≤ q) : Kept Y m m2 :=
  ⟨Nat.le_trans h.len h2.len, fun q h3 h4 => by rw [h2.eq q (h.lt h3) (fun h5 => (hx q h5).elim h4 (fun h6 => by omega)), h.eq q h3 h4]⟩
theorem putL_small {c : CyS} {s : Sec} : (putL c s).length ≤ 1024 := by
  by_cases h : okP s
  · rw [putL_len h]; have := h.2.2; omega
  · rw [putL, if_neg h]; simp
theorem getE_put {c : CyS} (s : Sec) : (getE (putC c s) s.k s.a (putL c s) == 0) = (errP s == 0) := by
  by_cases h : okP s
  · rw [(get_put h (putC_ok h)).1, (errP_ok s).mpr h]
  · rw [putL, if_neg h, getE, if_pos (by simp), beq_eq_false_iff_ne.mpr (fun h1 => h ((errP_ok s).mp h1))]; rfl
def sec9 : Sec := ⟨4, 0, 0, 3, []⟩
theorem sec9_ok : okP sec9 := by decide
theorem ex_short {c : CyS} {b : List B8} (h : b.length < 17) : getE c 4 3 b = 2 := by rw [getE, if_pos h]
theorem ex_long {c : CyS} : getE c 4 3 (noughts 1025) = 3 := by rw [getE, if_neg (by simp [noughts]), if_pos (by simp [noughts])]
theorem ex_kind {c d : CyS} : getE c 5 3 (putL d sec9) = 5 := by
  have hl := putL_len (c := d) sec9_ok
  have hl2 : sec9.p.length = 0 := rfl
  rw [getE, if_neg (by omega), if_neg (by omega), if_pos (.inr (by rw [(putL_parts sec9_ok).1]; decide))]
theorem ex_none {c : CyS} : getE c 0 3 (noughts 20) = 5 := by rw [getE, if_neg (by simp [noughts]), if_neg (by simp [noughts]), if_pos (.inl rfl)]
theorem ex_far {c d : CyS} : getE c 4 4096 (putL d sec9) = 7 := by
  have hl := putL_len (c := d) sec9_ok
  have hl2 : sec9.p.length = 0 := rfl
  rw [getE, if_neg (by omega), if_neg (by omega), if_neg (by rw [(putL_parts sec9_ok).1]; decide), if_pos (fun h => by have := h.2.2; omega)]
theorem kind_short {b : List B8} (h : b.length < 17) : kindB b = 0 := by rw [kindB, if_pos (.inl h)]
theorem kind_noughts : kindB (noughts 99) = 0 := by
  rw [kindB, if_pos (.inr (.inl (by decide)))]
theorem ans_SectorKnown {m : Mem} (hK : rowOf m 0 = some (wds kT)) : Ans Tryd.prog 6 [] m fun r m' => r = .bool true ∧ Kept [] m m' := by
  refine ans_ret mixed ok6 ?_
  rw [knCode]
  simp -implicitDefEqProofs (disch := (first | omega | (simp only [lenB, lowB_len, numB_len, nsumB_len] <;> omega) | fail)) only [admQ, lenB, lowB_len, numB_len, nsumB_len, aFill, AK.cls, implies_true, ↓reduceIte, reduceCtorEq, if_true, if_false, Nat.reduceAdd, Nat.reduceEqDiff, Nat.reduceMod, Nat.reduceLT, Nat.reduceLeDiff, Nat.reduceSub, Nat.reduceMul, Nat.reduceBEq, Int.reduceAdd, Int.reduceSub, Int.reduceMul, Int.reduceNeg, Int.reduceLT, Int.reduceLE, Int.reduceToNat, Int.reduceEq, Int.reduceBEq, r6]
  refine (ans_nnew m).mono ?_
  rintro _ m1 ⟨x, W, rfl, k1, hN, hW⟩
  have hC : Cy m1 x W W (.nm [] []) := ⟨hN, rfl⟩
  simp -implicitDefEqProofs (disch := (first | omega | (simp only [lenB, lowB_len, numB_len, nsumB_len] <;> omega) | fail)) only [admQ, lenB, lowB_len, numB_len, nsumB_len, aFill, AK.cls, implies_true, ↓reduceIte, reduceCtorEq, if_true, if_false, Nat.reduceAdd, Nat.reduceEqDiff, Nat.reduceMod, Nat.reduceLT, Nat.reduceLeDiff, Nat.reduceSub, Nat.reduceMul, Nat.reduceBEq, Int.reduceAdd, Int.reduceSub, Int.reduceMul, Int.reduceNeg, Int.reduceLT, Int.reduceLE, Int.reduceToNat, Int.reduceEq, Int.reduceBEq]
  refine knInit_wp ?_
  have r0 : ∀ (i : Nat) (s : Sec), scS[i]? = some s → ∃ p, (scC [.sl m1.length 0 975 975 0] [.sl (m1.length + 1) 0 976 976 0])[i * 5]? = some (.int .i64 s.k) ∧ (scC [.sl m1.length 0 975 975 0] [.sl (m1.length + 1) 0 976 976 0])[i * 5 + 1]? = some (.int .i64 s.e) ∧ (scC [.sl m1.length 0 975 975 0] [.sl (m1.length + 1) 0 976 976 0])[i * 5 + 2]? = some (.int .i64 s.n) ∧ (scC [.sl m1.length 0 975 975 0] [.sl (m1.length + 1) 0 976 976 0])[i * 5 + 3]? = some (.int .i64 s.a) ∧ (scC [.sl m1.length 0 975 975 0] [.sl (m1.length + 1) 0 976 976 0])[i * 5 + 4]? = some p ∧
      RdB (m1 ++ [.row (rep 975 [.int .u8 0]) false, .row (rep 976 [.int .u8 0]) false, .row (scC [.sl m1.length 0 975 975 0] [.sl (m1.length + 1) 0 976 976 0]) false]) p s.p ∧ ∀ q ∈ blkOf p, m1.length ≤ q := by
    have h1 := rd_noughts (m := m1 ++ [.row (rep 975 [.int .u8 0]) false, .row (rep 976 [.int .u8 0]) false, .row (scC [.sl m1.length 0 975 975 0] [.sl (m1.length + 1) 0 976 976 0]) false]) 975 (by rw [rowOf_app_at0]; rfl)
    have h2 := rd_noughts (m := m1 ++ [.row (rep 975 [.int .u8 0]) false, .row (rep 976 [.int .u8 0]) false, .row (scC [.sl m1.length 0 975 975 0] [.sl (m1.length + 1) 0 976 976 0]) false]) (p := m1.length + 1) 976 (by rw [rowOf_app_at]; rfl)
    intro i s hs
    have hi := lt_of_get hs
    simp only [scS, List.length_cons, List.length_nil] at hi
    match i, hi with
    | 0, _ => cases hs; exact ⟨_, rfl, rfl, rfl, rfl, rfl, .nils _, by simp [blkOf]⟩
    | 1, _ => cases hs; exact ⟨_, rfl, rfl, rfl, rfl, rfl, .nils _, by simp [blkOf]⟩
    | 2, _ => cases hs; exact ⟨_, rfl, rfl, rfl, rfl, rfl, .nils _, by simp [blkOf]⟩
    | 3, _ => cases hs; exact ⟨_, rfl, rfl, rfl, rfl, rfl, .nils _, by simp [blkOf]⟩
    | 4, _ => cases hs; exact ⟨_, rfl, rfl, rfl, rfl, rfl, .nils _, by simp [blkOf]⟩
    | 5, _ => cases hs; exact ⟨_, rfl, rfl, rfl, rfl, rfl, .nils _, by simp [blkOf]⟩
    | 6, _ => cases hs; exact ⟨_, rfl, rfl, rfl, rfl, rfl, .nils _, by simp [blkOf]⟩
    | 7, _ => cases hs; exact ⟨_, rfl, rfl, rfl, rfl, rfl, .nils _, by simp [blkOf]⟩
    | 8, _ => cases hs; exact ⟨_, rfl, rfl, rfl, rfl, rfl, .nils _, by simp [blkOf]⟩
    | 9, _ => cases hs; exact ⟨_, rfl, rfl, rfl, rfl, rfl, h1, by simp [blkOf]⟩
    | 10, _ => cases hs; exact ⟨_, rfl, rfl, rfl, rfl, rfl, h2, by simp [blkOf]⟩
  have k2 := Kept.app [] m1 [.row (rep 975 [.int .u8 0]) false, .row (rep 976 [.int .u8 0]) false, .row (scC [.sl m1.length 0 975 975 0] [.sl (m1.length + 1) 0 976 976 0]) false]
  have w0 : own (m1 ++ [.row (rep 975 [.int .u8 0]) false, .row (rep 976 [.int .u8 0]) false, .row (scC [.sl m1.length 0 975 975 0] [.sl (m1.length + 1) 0 976 976 0]) false]) (m1.length + 2) = some (scC [.sl m1.length 0 975 975 0] [.sl (m1.length + 1) 0 976 976 0]) := by rw [own_app_at]; rfl
  generalize m1 ++ [.row (rep 975 [.int .u8 0]) false, .row (rep 976 [.int .u8 0]) false, .row (scC [.sl m1.length 0 975 975 0] [.sl (m1.length + 1) 0 976 976 0]) false] = B at r0 k2 w0
  generalize scC [.sl m1.length 0 975 975 0] [.sl (m1.length + 1) 0 976 976 0] = C at r0 w0
  simp -implicitDefEqProofs (disch := (first | omega | (simp only [lenB, lowB_len, numB_len, nsumB_len] <;> omega) | fail)) only [admQ, lenB, lowB_len, numB_len, nsumB_len, aFill, AK.cls, implies_true, ↓reduceIte, reduceCtorEq, if_true, if_false, Nat.reduceAdd, Nat.reduceEqDiff, Nat.reduceMod, Nat.reduceLT, Nat.reduceLeDiff, Nat.reduceSub, Nat.reduceMul, Nat.reduceBEq, Int.reduceAdd, Int.reduceSub, Int.reduceMul, Int.reduceNeg, Int.reduceLT, Int.reduceLE, Int.reduceToNat, Int.reduceEq, Int.reduceBEq]
  refine knWant_wp ?_
  have k3 := Kept.app [] B [.row scW false]
  have o0 : own (B ++ [.row scW false]) B.length = some scW := by rw [own_app_at0]; rfl
  replace r0 := fun i s hs => (r0 i s hs).imp fun p h => show _ ∧ _ ∧ _ ∧ _ ∧ _ ∧ RdB (B ++ [.row scW false]) p s.p ∧ _ from ⟨h.1, h.2.1, h.2.2.1, h.2.2.2.1, h.2.2.2.2.1, h.2.2.2.2.2.1.kept0 k3, h.2.2.2.2.2.2⟩
  replace w0 := k3.own w0 (by simp)
  have hBl := k2.len
  generalize B ++ [.row scW false] = D at r0 k3 o0 w0
  have kD := (k1.trans k2).trans k3
  have hWm := hN.lt
  have hCD := hC.kept0 (k2.trans k3)
  simp -implicitDefEqProofs (disch := (first | omega | (simp only [lenB, lowB_len, numB_len, nsumB_len] <;> omega) | fail)) only [admQ, lenB, lowB_len, numB_len, nsumB_len, aFill, AK.cls, implies_true, ↓reduceIte, reduceCtorEq, if_true, if_false, Nat.reduceAdd, Nat.reduceEqDiff, Nat.reduceMod, Nat.reduceLT, Nat.reduceLeDiff, Nat.reduceSub, Nat.reduceMul, Nat.reduceBEq, Int.reduceAdd, Int.reduceSub, Int.reduceMul, Int.reduceNeg, Int.reduceLT, Int.reduceLE, Int.reduceToNat, Int.reduceEq, Int.reduceBEq, knRestCode]
  refine LoopW.on (fun t : Nat × List Nat => [(1, .ptr x 0), (2, .sl (m1.length + 2) 0 11 11 0), (3, .sl B.length 0 11 11 0), (4, .int .i64 t.1)]) (fun t => 11 - t.1)
    (fun t M => t.1 ≤ 11 ∧ Kept W D M ∧ Cy M x t.2 t.2 (.nm (runC scS t.1) []) ∧ ∀ q ∈ t.2, q ∈ W ∨ D.length ≤ q) ?_ (0, W) _ _ rfl ⟨Nat.zero_le _, .refl _ _, hCD, fun q h => .inl h⟩
  clear hCD hC hN
  rintro ⟨i, W'⟩ M X ⟨hi, kk, hC, hW'⟩ hX
  simp only at hi kk hC hW'
  have hrl := runC_len scS i
  have ap : ∀ q, m1.length ≤ q → q ∉ W := fun q h1 h2 => by have := hWm q h2; omega
  have hkm : Kept [] m M := kD.upon kk hW
  by_cases hlt : i < 11
  · obtain ⟨s, hs⟩ : ∃ s, scS[i]? = some s := ⟨_, List.getElem?_eq_getElem (by simp [scS]; omega)⟩
    obtain ⟨p, a1, a2, a3, a4, a5, a6, a7⟩ := r0 i s hs
    have hsz := scS_sz hs
    have hwt := scS_want hs
    have t5 := take5 a1 a2 a3 a4 a5
    have wM := rowOf_own (kk.own w0 (ap _ (by omega)))
    have oM := rowOf_own (kk.own o0 (ap _ (by omega)))
    have pM := rdb_ap a6 kk fun q hq => ap q (a7 q hq)
    have hpl := a6.blk_lt
    have hc5 := lt_of_get a5
    simp -implicitDefEqProofs (disch := (first | omega | (simp only [lenB, lowB_len, numB_len, nsumB_len] <;> omega) | fail)) only [admQ, lenB, lowB_len, numB_len, nsumB_len, aFill, AK.cls, implies_true, ↓reduceIte, reduceCtorEq, if_true, if_false, Nat.reduceAdd, Nat.reduceEqDiff, Nat.reduceMod, Nat.reduceLT, Nat.reduceLeDiff, Nat.reduceSub, Nat.reduceMul, Nat.reduceBEq, Int.reduceAdd, Int.reduceSub, Int.reduceMul, Int.reduceNeg, Int.reduceLT, Int.reduceLE, Int.reduceToNat, Int.reduceEq, Int.reduceBEq, d6_1, d6_2, dec_t (show (i : Int) < 11 by omega), wM, a1, a2, a3, a4, a5, t5]
    refine (ans_scput (s := s) hC pM (fun q h1 h2 => (hW' q h2).elim (ap q (a7 q h1)) (fun h3 => by have := hpl q h1; omega)) (show (runC scS i).length ≤ 1000 by omega) (by omega)).mono ?_
    rintro _ M1 ⟨W1, R1, w, k4, hC1, hR1, rfl, rw1, bw1⟩
    have hgp := getE_put (c := .nm (runC scS i) []) s
    rw [putC_nm, ← runC_succ hs] at hC1
    obtain ⟨hN1, rfl⟩ := hC1
    replace hC1 : Cy M1 x R1 R1 (.nm (runC scS (i + 1)) []) := ⟨hN1, rfl⟩
    rw [putC_nm, ← runC_succ hs] at hgp
    have hrl1 := runC_len scS (i + 1)
    have kk1 := kept_mix kk k4 hW'
    have hW1 : ∀ q ∈ R1, q ∈ W ∨ D.length ≤ q := fun q h => (hR1 q h).elim (hW' q) (fun h2 => .inr (Nat.le_trans kk.len h2))
    have wM1 := rowOf_own (kk1.own w0 (ap _ (by omega)))
    have oM1 := rowOf_own (kk1.own o0 (ap _ (by omega)))
    have hsm : ¬ ((putL (.nm (runC scS i) []) s).length : Int) > 1024 := by have := putL_small (c := .nm (runC scS i) []) (s := s); omega
    simp -implicitDefEqProofs (disch := (first | omega | (simp only [lenB, lowB_len, numB_len, nsumB_len] <;> omega) | fail)) only [admQ, lenB, lowB_len, numB_len, nsumB_len, aFill, AK.cls, implies_true, ↓reduceIte, reduceCtorEq, if_true, if_false, Nat.reduceAdd, Nat.reduceEqDiff, Nat.reduceMod, Nat.reduceLT, Nat.reduceLeDiff, Nat.reduceSub, Nat.reduceMul, Nat.reduceBEq, Int.reduceAdd, Int.reduceSub, Int.reduceMul, Int.reduceNeg, Int.reduceLT, Int.reduceLE, Int.reduceToNat, Int.reduceEq, Int.reduceBEq, d6_3, d6_4, wM1, oM1, hwt, beq_self_eq_true, Bool.not_true, rw1.len, dec_f hsm, a1, a2, a3, a4, a5]
    refine (ans_scget (k := s.k) (a := s.a) hC1 rw1 (show (runC scS (i + 1)).length ≤ 1000 by omega) (by omega)).mono ?_
    rintro _ M2 ⟨k5, w5, rfl, rw5, bw5⟩
    have wM2 := k5.row wM1 (by simp)
    unfold secV
    simp -implicitDefEqProofs (disch := (first | omega | (simp only [lenB, lowB_len, numB_len, nsumB_len] <;> omega) | fail)) only [admQ, lenB, lowB_len, numB_len, nsumB_len, aFill, AK.cls, implies_true, ↓reduceIte, reduceCtorEq, if_true, if_false, Nat.reduceAdd, Nat.reduceEqDiff, Nat.reduceMod, Nat.reduceLT, Nat.reduceLeDiff, Nat.reduceSub, Nat.reduceMul, Nat.reduceBEq, Int.reduceAdd, Int.reduceSub, Int.reduceMul, Int.reduceNeg, Int.reduceLT, Int.reduceLE, Int.reduceToNat, Int.reduceEq, Int.reduceBEq, wM1, wM2, a1, a2, a3, a4, a5, (rd_one rw5).1, (rd_one rw5).2, hgp, aEq, beq_self_eq_true, Bool.not_true]
    exact hX (i + 1, R1) _ _ rfl (by simp only; omega) ⟨hlt, kept_mix kk1 (k5.trans (.app [] M2 _)) (by simp), (hC1.kept0 k5).kept0 (.app _ _ _), hW1⟩
  · obtain rfl : i = 11 := by omega
    simp -implicitDefEqProofs (disch := (first | omega | (simp only [lenB, lowB_len, numB_len, nsumB_len] <;> omega) | fail)) only [admQ, lenB, lowB_len, numB_len, nsumB_len, aFill, AK.cls, implies_true, ↓reduceIte, reduceCtorEq, if_true, if_false, Nat.reduceAdd, Nat.reduceEqDiff, Nat.reduceMod, Nat.reduceLT, Nat.reduceLeDiff, Nat.reduceSub, Nat.reduceMul, Nat.reduceBEq, Int.reduceAdd, Int.reduceSub, Int.reduceMul, Int.reduceNeg, Int.reduceLT, Int.reduceLE, Int.reduceToNat, Int.reduceEq, Int.reduceBEq, d6_1, d6_2, dec_f (show ¬ (11 : Int) < 11 by omega)]
    have h49 : (putL (.nm (runC scS 11) []) sec9).length = 49 := putL_len sec9_ok
    refine (ans_scput (s := sec9) hC (.nils _) (by simp [blkOf]) (show (runC scS 11).length ≤ 1000 by omega) (by decide)).mono ?_
    rintro _ M1 ⟨W1, R1, w, k4, hC1, hR1, rfl, rw1, bw1⟩
    rw [putC_nm] at hC1
    have hle : (putS (runC scS 11) sec9).length ≤ 1000 := by have := putS_len (runC scS 11) sec9; omega
    generalize putS (runC scS 11) sec9 = S9 at hC1 hle
    obtain ⟨q, o, cap, sl, cc, rfl, -, -, -, hcap, hsl, -⟩ := rw1.cons (i := 0) (by omega)
    rw [h49] at rw1 hcap ⊢
    have hs16 := rw1.take (k := 16) (by omega)
    have kM1 : Kept [] m M1 := hkm.upon k4 fun q h => (hW' q h).elim (hW q) (fun h2 => Nat.le_trans kD.len h2)
    have hl16 : ((putL (.nm (runC scS 11) []) sec9).take 16).length = 16 := by rw [List.length_take]; omega
    simp -implicitDefEqProofs (disch := (first | omega | (simp only [lenB, lowB_len, numB_len, nsumB_len] <;> omega) | fail)) only [admQ, lenB, lowB_len, numB_len, nsumB_len, aFill, AK.cls, implies_true, ↓reduceIte, reduceCtorEq, if_true, if_false, Nat.reduceAdd, Nat.reduceEqDiff, Nat.reduceMod, Nat.reduceLT, Nat.reduceLeDiff, Nat.reduceSub, Nat.reduceMul, Nat.reduceBEq, Int.reduceAdd, Int.reduceSub, Int.reduceMul, Int.reduceNeg, Int.reduceLT, Int.reduceLE, Int.reduceToNat, Int.reduceEq, Int.reduceBEq, d6_5, d6_6, hsl]
    refine (ans_scget (k := 4) (a := 3) hC1 hs16 hle (by omega)).mono ?_
    rintro _ M2 ⟨k5, w2, rfl, rw2, bw2⟩
    rw [ex_short (by omega)]
    unfold secV
    simp -implicitDefEqProofs (disch := (first | omega | (simp only [lenB, lowB_len, numB_len, nsumB_len] <;> omega) | fail)) only [admQ, lenB, lowB_len, numB_len, nsumB_len, aFill, AK.cls, implies_true, ↓reduceIte, reduceCtorEq, if_true, if_false, Nat.reduceAdd, Nat.reduceEqDiff, Nat.reduceMod, Nat.reduceLT, Nat.reduceLeDiff, Nat.reduceSub, Nat.reduceMul, Nat.reduceBEq, Int.reduceAdd, Int.reduceSub, Int.reduceMul, Int.reduceNeg, Int.reduceLT, Int.reduceLE, Int.reduceToNat, Int.reduceEq, Int.reduceBEq, (rd_one rw2).1, (rd_one rw2).2, -List.reduceReplicate]
    generalize hE : M2 ++ _ = E3
    have kE3 : Kept [] M1 E3 := by rw [← hE]; exact k5.more_app _
    have nE3 : RdB E3 (.sl (M2.length + 1) 0 1025 1025 0) (noughts 1025) := by rw [← hE]; exact rd_noughts 1025 (by rw [rowOf_app_at]; rfl)
    clear hE
    refine (ans_scget (k := 4) (a := 3) (hC1.kept0 kE3) nE3 hle (by simp [noughts])).mono ?_
    rintro _ M3 ⟨k6, w3, rfl, rw3, -⟩
    rw [ex_long]
    unfold secV
    simp -implicitDefEqProofs (disch := (first | omega | (simp only [lenB, lowB_len, numB_len, nsumB_len] <;> omega) | fail)) only [admQ, lenB, lowB_len, numB_len, nsumB_len, aFill, AK.cls, implies_true, ↓reduceIte, reduceCtorEq, if_true, if_false, Nat.reduceAdd, Nat.reduceEqDiff, Nat.reduceMod, Nat.reduceLT, Nat.reduceLeDiff, Nat.reduceSub, Nat.reduceMul, Nat.reduceBEq, Int.reduceAdd, Int.reduceSub, Int.reduceMul, Int.reduceNeg, Int.reduceLT, Int.reduceLE, Int.reduceToNat, Int.reduceEq, Int.reduceBEq, (rd_one rw3).1, (rd_one rw3).2, -List.reduceReplicate]
    generalize hE : M3 ++ _ = E4
    have kE4 : Kept [] M1 E4 := by rw [← hE]; exact (kE3.trans k6).more_app _
    clear hE
    refine (ans_scget (k := 5) (a := 3) (hC1.kept0 kE4) (rw1.kept0 kE4) hle (by omega)).mono ?_
    rintro _ M4 ⟨k7, w4, rfl, rw4, -⟩
    rw [ex_kind]
    unfold secV
    simp -implicitDefEqProofs (disch := (first | omega | (simp only [lenB, lowB_len, numB_len, nsumB_len] <;> omega) | fail)) only [admQ, lenB, lowB_len, numB_len, nsumB_len, aFill, AK.cls, implies_true, ↓reduceIte, reduceCtorEq, if_true, if_false, Nat.reduceAdd, Nat.reduceEqDiff, Nat.reduceMod, Nat.reduceLT, Nat.reduceLeDiff, Nat.reduceSub, Nat.reduceMul, Nat.reduceBEq, Int.reduceAdd, Int.reduceSub, Int.reduceMul, Int.reduceNeg, Int.reduceLT, Int.reduceLE, Int.reduceToNat, Int.reduceEq, Int.reduceBEq, (rd_one rw4).1, (rd_one rw4).2, -List.reduceReplicate]
    generalize hE : M4 ++ _ = E5
    have kE5 : Kept [] M1 E5 := by rw [← hE]; exact (kE4.trans k7).more_app _
    have nE5 : RdB E5 (.sl (M4.length + 1) 0 20 20 0) (noughts 20) := by rw [← hE]; exact rd_noughts 20 (by rw [rowOf_app_at]; rfl)
    clear hE
    refine (ans_scget (k := 0) (a := 3) (hC1.kept0 kE5) nE5 hle (by simp [noughts])).mono ?_
    rintro _ M5 ⟨k8, w5, rfl, rw5, -⟩
    rw [ex_none]
    unfold secV
    simp -implicitDefEqProofs (disch := (first | omega | (simp only [lenB, lowB_len, numB_len, nsumB_len] <;> omega) | fail)) only [admQ, lenB, lowB_len, numB_len, nsumB_len, aFill, AK.cls, implies_true, ↓reduceIte, reduceCtorEq, if_true, if_false, Nat.reduceAdd, Nat.reduceEqDiff, Nat.reduceMod, Nat.reduceLT, Nat.reduceLeDiff, Nat.reduceSub, Nat.reduceMul, Nat.reduceBEq, Int.reduceAdd, Int.reduceSub, Int.reduceMul, Int.reduceNeg, Int.reduceLT, Int.reduceLE, Int.reduceToNat, Int.reduceEq, Int.reduceBEq, (rd_one rw5).1, (rd_one rw5).2, -List.reduceReplicate]
    generalize hE : M5 ++ _ = E6
    have kE6 : Kept [] M1 E6 := by rw [← hE]; exact (kE5.trans k8).more_app _
    clear hE
    refine (ans_scget (k := 4) (a := 4096) (hC1.kept0 kE6) (rw1.kept0 kE6) hle (by omega)).mono ?_
    rintro _ M6 ⟨k9, w6, rfl, rw6, -⟩
    rw [ex_far]
    unfold secV
    simp -implicitDefEqProofs (disch := (first | omega | (simp only [lenB, lowB_len, numB_len, nsumB_len] <;> omega) | fail)) only [admQ, lenB, lowB_len, numB_len, nsumB_len, aFill, AK.cls, implies_true, ↓reduceIte, reduceCtorEq, if_true, if_false, Nat.reduceAdd, Nat.reduceEqDiff, Nat.reduceMod, Nat.reduceLT, Nat.reduceLeDiff, Nat.reduceSub, Nat.reduceMul, Nat.reduceBEq, Int.reduceAdd, Int.reduceSub, Int.reduceMul, Int.reduceNeg, Int.reduceLT, Int.reduceLE, Int.reduceToNat, Int.reduceEq, Int.reduceBEq, (rd_one rw6).1, (rd_one rw6).2, -List.reduceReplicate]
    generalize hE : M6 ++ _ = E7
    have kE7 : Kept [] M1 E7 := by rw [← hE]; exact (kE6.trans k9).more_app _
    clear hE
    refine (ans_sckind (rw1.kept0 kE7)).mono ?_
    rintro _ M7 ⟨rfl, hM⟩
    subst hM
    rw [(putL_parts sec9_ok).1]
    simp -implicitDefEqProofs (disch := (first | omega | (simp only [lenB, lowB_len, numB_len, nsumB_len] <;> omega) | fail)) only [admQ, lenB, lowB_len, numB_len, nsumB_len, aFill, AK.cls, implies_true, ↓reduceIte, reduceCtorEq, if_true, if_false, Nat.reduceAdd, Nat.reduceEqDiff, Nat.reduceMod, Nat.reduceLT, Nat.reduceLeDiff, Nat.reduceSub, Nat.reduceMul, Nat.reduceBEq, Int.reduceAdd, Int.reduceSub, Int.reduceMul, Int.reduceNeg, Int.reduceLT, Int.reduceLE, Int.reduceToNat, Int.reduceEq, Int.reduceBEq, hsl, show ((sec9.k : Int) == 4) = true from rfl, -List.reduceReplicate]
    refine (ans_sckind (hs16.kept0 kE7)).mono ?_
    rintro _ M8 ⟨rfl, hM⟩
    subst hM
    rw [kind_short (by omega)]
    simp -implicitDefEqProofs (disch := (first | omega | (simp only [lenB, lowB_len, numB_len, nsumB_len] <;> omega) | fail)) only [admQ, lenB, lowB_len, numB_len, nsumB_len, aFill, AK.cls, implies_true, ↓reduceIte, reduceCtorEq, if_true, if_false, Nat.reduceAdd, Nat.reduceEqDiff, Nat.reduceMod, Nat.reduceLT, Nat.reduceLeDiff, Nat.reduceSub, Nat.reduceMul, Nat.reduceBEq, Int.reduceAdd, Int.reduceSub, Int.reduceMul, Int.reduceNeg, Int.reduceLT, Int.reduceLE, Int.reduceToNat, Int.reduceEq, Int.reduceBEq, -List.reduceReplicate]
    have kE9 : Kept [] M1 (M8 ++ [.row (rep 99 [.int .u8 0]) false]) := kE7.more_app _
    refine (ans_sckind (rd_noughts 99 (by rw [rowOf_app_at0]; rfl))).mono ?_
    rintro _ M9 ⟨rfl, hM⟩
    rw [← hM] at kE9
    rw [kind_noughts]
    clear hM
    simp -implicitDefEqProofs (disch := (first | omega | (simp only [lenB, lowB_len, numB_len, nsumB_len] <;> omega) | fail)) only [admQ, lenB, lowB_len, numB_len, nsumB_len, aFill, AK.cls, implies_true, ↓reduceIte, reduceCtorEq, if_true, if_false, Nat.reduceAdd, Nat.reduceEqDiff, Nat.reduceMod, Nat.reduceLT, Nat.reduceLeDiff, Nat.reduceSub, Nat.reduceMul, Nat.reduceBEq, Int.reduceAdd, Int.reduceSub, Int.reduceMul, Int.reduceNeg, Int.reduceLT, Int.reduceLE, Int.reduceToNat, Int.reduceEq, Int.reduceBEq, -List.reduceReplicate]
    refine (ans_scknown ((kM1.trans kE9).row hK (by simp))).mono ?_
    rintro _ M10 ⟨rfl, k10⟩
    simp -implicitDefEqProofs (disch := (first | omega | (simp only [lenB, lowB_len, numB_len, nsumB_len] <;> omega) | fail)) only [admQ, lenB, lowB_len, numB_len, nsumB_len, aFill, AK.cls, implies_true, ↓reduceIte, reduceCtorEq, if_true, if_false, Nat.reduceAdd, Nat.reduceEqDiff, Nat.reduceMod, Nat.reduceLT, Nat.reduceLeDiff, Nat.reduceSub, Nat.reduceMul, Nat.reduceBEq, Int.reduceAdd, Int.reduceSub, Int.reduceMul, Int.reduceNeg, Int.reduceLT, Int.reduceLE, Int.reduceToNat, Int.reduceEq, Int.reduceBEq]
    exact (kM1.trans kE9).trans k10
end Go.Proofs.YtmnlmjlmbceimaaDoor
end
