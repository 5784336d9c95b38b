/- AES: the program's cipher is made. -/
import Derived.Test.YthdkclkiegkabaaAeC
import Derived.Test.YthdkclkiegkabaaAdma
namespace Go.Proofs.Ythdkclkiegkabaa
open Go Go.Adm
set_option linter.unusedSimpArgs false
set_option maxRecDepth 100000

/-- The word that goes into the next one. -/
def exW (n : Nat) (B : List B8) (r : B8) : List B8 :=
  let w := tab 4 fun i => gb B (B.length - 4 + i)
  if B.length % n = 0 then [sb (gb w 1) ^^^ r, sb (gb w 2), sb (gb w 3), sb (gb w 0)]
  else if n = 32 ∧ B.length % n = 16 then [sb (gb w 0), sb (gb w 1), sb (gb w 2), sb (gb w 3)]
  else w
theorem exW_len (n : Nat) (B : List B8) (r : B8) : (exW n B r).length = 4 := by
  unfold exW; dsimp only; split
  · rfl
  · split
    · rfl
    · rfl
def exG (n : Nat) (B : List B8) (r : B8) (i : Nat) : B8 := gb B (B.length - n + i) ^^^ gb (exW n B r) i
def exStep (n : Nat) (s : List B8 × B8) : List B8 × B8 := (s.1 ++ tab 4 (exG n s.1 s.2), if s.1.length % n = 0 then tw s.2 else s.2)
def exK (key : List B8) : Nat → List B8 × B8
  | 0 => (key, 1#8)
  | k + 1 => exStep key.length (exK key k)
theorem exK_len (key : List B8) (k : Nat) : (exK key k).1.length = key.length + 4 * k := by
  induction k with
  | zero => rfl
  | succ k ih => simp only [exK, exStep, List.length_append, ih, tab_len]; omega
def keyOk (n : Nat) : Prop := n = 16 ∨ n = 24 ∨ n = 32
instance (n : Nat) : Decidable (keyOk n) := inferInstanceAs (Decidable (_ ∨ _ ∨ _))
/-- How many words are made, how many round keys there are. -/
def exN (n : Nat) : Nat := 4 * (n / 4 + 7) - n / 4
def expand (key : List B8) : List B8 := (exK key (exN key.length)).1
theorem expand_len {key : List B8} (h : keyOk key.length) : (expand key).length = (key.length / 4 + 7) * 16 := by
  rw [expand, exK_len, exN]; unfold keyOk at h; omega

theorem ans_new_no {m : Mem} {x : AV} {key : List B8} (hx : RdB m x key) (hk : ¬ keyOk key.length) : Ans Try.prog 8 [x] m fun r m' => r = .tup [.nilp, .int .i64 1] ∧ m' = m := by
  refine ans_ret mixed ok8 ?_
  unfold keyOk at hk
  have h1 : ¬ (key.length : Int) = 16 := by omega
  have h2 : ¬ (key.length : Int) = 24 := by omega
  have h3 : ¬ (key.length : Int) = 32 := by omega
  simp -implicitDefEqProofs (disch := (first | omega | (simp only [lenB, sboxL_len, exW_len] <;> omega) | fail)) only [admQ, lenB, sboxL_len, exW_len, aFill, ↓reduceIte, reduceCtorEq, if_true, if_false, Nat.reduceAdd, Nat.reduceEqDiff, Nat.reduceMod, Nat.reduceLT, Nat.reduceLeDiff, Nat.reduceSub, Nat.reduceMul, Nat.reduceBEq, Int.reduceAdd, Int.reduceSub, Int.reduceMul, Int.reduceNeg, Int.reduceLT, Int.reduceLE, Int.reduceToNat, Int.reduceEq, Int.reduceBEq, c8, r8, hx.len, beq_eq_false_iff_ne.mpr h1, beq_eq_false_iff_ne.mpr h2, beq_eq_false_iff_ne.mpr h3]

def newQ (m : Mem) (key : List B8) (r : AV) (m' : Mem) : Prop := ∃ c kb, r = .tup [.ptr c 0, .int .i64 0] ∧ Kept [] m m' ∧ m.length ≤ c ∧ m.length ≤ kb ∧ Ciph m' c kb (key.length / 4 + 7) (expand key)
def newTail : ACode := tlC (tlC (tlC c8))
theorem newCode : c8 = .seq (hdC c8) (.seq (hdC (tlC c8)) (.seq (hdC (tlC (tlC c8))) newTail)) := rfl
def newInner : ACode := bodyC (tlC (tlC (tlC (bodyC (hdC (tlC (bodyC (bodyC (tlC (hdC (tlC (tlC (tlC newTail))))))))))))) 
theorem new_inner {m' : Mem} {n L pb p9 : Nat} {B T : List B8} {v5 v7 : AV} {Q : Exit → AFr → Mem → Prop} (hB : B.length = L) (hT : T.length = 4) (hn : 4 ≤ n ∧ n ≤ L ∧ L < 100000) (ob : own m' pb = some (bys B)) (o9 : own m' p9 = some (bys T)) (hne : pb ≠ p9)
    (hQ : ∀ m2 pb2, Kept [pb] m' m2 → m'.length ≤ pb2 → own m2 pb2 = some (bys (B ++ tab 4 fun i => gb B (L - n + i) ^^^ gb T i)) →
      Q (.exit 3) [(4, .int .i64 n), (5, v5), (6, .sl pb2 0 (L + 4) (L + 4) 1), (7, v7), (8, .int .i64 L), (9, .ptr p9 0), (121, .int .i64 4), (122, .bool false)] m2) :
    wpA Try.prog newInner [(4, .int .i64 n), (5, v5), (6, .sl pb 0 L L 1), (7, v7), (8, .int .i64 L), (9, .ptr p9 0), (121, .int .i64 0)] m' Q := by
  simp only [newInner, newTail, tlC, hdC, bodyC, c8]
  let g : Nat → B8 := fun i => gb B (L - n + i) ^^^ gb T i
  refine LoopW.on (fun s : Nat × Nat => [(4, .int .i64 n), (5, v5), (6, .sl s.2 0 (L + s.1) (L + s.1) 1), (7, v7), (8, .int .i64 L), (9, .ptr p9 0), (121, .int .i64 s.1)]) (fun s => 4 - s.1)
    (fun s m2 => s.1 ≤ 4 ∧ Kept [pb] m' m2 ∧ (s.1 = 0 ∧ s.2 = pb ∨ m'.length ≤ s.2) ∧ own m2 s.2 = some (bys (B ++ tab s.1 g))) ?_ (0, pb) _ _ rfl ⟨by omega, .refl _ _, .inl ⟨rfl, rfl⟩, by simpa [tab] using ob⟩
  rintro ⟨i, pb2⟩ m2 X ⟨hi, hk, hp, ob2⟩ hX
  dsimp only at hi hp ob2 hX ⊢
  have o92 := hk.own o9 (by simpa using fun h => hne h.symm)
  have hl9 := own_lt o9
  have hpb := own_lt ob
  by_cases hlt : i < 4
  · have o9A := fun e => rowOf_own (own_app o92 e)
    have obA := fun e => rowOf_own (own_app ob2 e)
    have hp92 : pb2 ≠ p9 := by rcases hp with ⟨_, rfl⟩ | h <;> omega
    have hg := app_grow1 (n := L + i) (v := g i) ob2 (by simp [tab_len, hB]) (by omega)
    simp only [List.append_assoc, ← tab_succ] at hg
    have hg1 : gb B (L - n + i) ^^^ gb T i = g i := rfl
    have hg2 : gb (B ++ tab i g) (L - n + i) = gb B (L - n + i) := gb_app_l (by omega)
    simp -implicitDefEqProofs (disch := (first | omega | (simp only [lenB, sboxL_len, exW_len] <;> omega) | fail)) only [admQ, lenB, sboxL_len, exW_len, aFill, ↓reduceIte, reduceCtorEq, if_true, if_false, Nat.reduceAdd, Nat.reduceEqDiff, Nat.reduceMod, Nat.reduceLT, Nat.reduceLeDiff, Nat.reduceSub, Nat.reduceMul, Nat.reduceBEq, Int.reduceAdd, Int.reduceSub, Int.reduceMul, Int.reduceNeg, Int.reduceLT, Int.reduceLE, Int.reduceToNat, Int.reduceEq, Int.reduceBEq, rowOf_own ob2, rowOf_own o92, hg2, hg1, hg]
    refine hX (i + 1, m2.length + 1) _ _ rfl (by simp; omega) ⟨by simp; omega, ?_, .inr (by have := hk.len; simp; omega), ?_⟩
    · exact (hk.write (by rcases hp with ⟨_, rfl⟩ | h; exact .inl (by simp); exact .inr h) _).more_app _
    · simp -implicitDefEqProofs (disch := (first | omega | (simp only [lenB, sboxL_len, exW_len] <;> omega) | fail)) only [admQ, lenB, sboxL_len, exW_len, aFill, ↓reduceIte, reduceCtorEq, if_true, if_false, Nat.reduceAdd, Nat.reduceEqDiff, Nat.reduceMod, Nat.reduceLT, Nat.reduceLeDiff, Nat.reduceSub, Nat.reduceMul, Nat.reduceBEq, Int.reduceAdd, Int.reduceSub, Int.reduceMul, Int.reduceNeg, Int.reduceLT, Int.reduceLE, Int.reduceToNat, Int.reduceEq, Int.reduceBEq]
  · obtain rfl : i = 4 := by omega
    simp -implicitDefEqProofs (disch := (first | omega | (simp only [lenB, sboxL_len, exW_len] <;> omega) | fail)) only [admQ, lenB, sboxL_len, exW_len, aFill, ↓reduceIte, reduceCtorEq, if_true, if_false, Nat.reduceAdd, Nat.reduceEqDiff, Nat.reduceMod, Nat.reduceLT, Nat.reduceLeDiff, Nat.reduceSub, Nat.reduceMul, Nat.reduceBEq, Int.reduceAdd, Int.reduceSub, Int.reduceMul, Int.reduceNeg, Int.reduceLT, Int.reduceLE, Int.reduceToNat, Int.reduceEq, Int.reduceBEq]
    rcases hp with ⟨h, _⟩ | hp
    · omega
    · exact hQ m2 pb2 hk hp ob2
theorem ans_new_go {m : Mem} {x : AV} {key : List B8} (hx : RdB m x key) (hk : keyOk key.length) :
    wpA Try.prog newTail [(0, x), (4, .int .i64 key.length), (22, .bool false)] m (retQ r8 (newQ m key)) := by
  have hlen : key.length = 16 ∨ key.length = 24 ∨ key.length = 32 := hk
  simp -implicitDefEqProofs (disch := (first | omega | (simp only [lenB, sboxL_len, exW_len] <;> omega) | fail)) only [admQ, lenB, sboxL_len, exW_len, aFill, ↓reduceIte, reduceCtorEq, if_true, if_false, Nat.reduceAdd, Nat.reduceEqDiff, Nat.reduceMod, Nat.reduceLT, Nat.reduceLeDiff, Nat.reduceSub, Nat.reduceMul, Nat.reduceBEq, Int.reduceAdd, Int.reduceSub, Int.reduceMul, Int.reduceNeg, Int.reduceLT, Int.reduceLE, Int.reduceToNat, Int.reduceEq, Int.reduceBEq, newTail, tlC, c8]
  refine (ans_table _).mono ?_
  rintro _ m1 ⟨rfl, hk1⟩
  have g1 : splice (.nils :: bys (List.replicate 256 0#8)) 1 (bys sboxL) = .nils :: bys sboxL := by
    rw [show (1 : Nat) = 0 + 1 from rfl, splice_succ, splice_whole (by rw [sboxL_len]; simp)]
  have g2 := app_new (m := m1 ++ [.row (.nils :: bys sboxL) false, .row [] false]) (b := m1.length + 1) (s := 0) ((hx.kept0 hk1).app _) (by omega) (by omega) rfl
  have hk2 := hk1.trans (Kept.app [] m1 [Blk.row (.nils :: bys sboxL) false, Blk.row [] false, Blk.row (bys key) false])
  have hm1 := hk1.len
  simp -implicitDefEqProofs (disch := (first | omega | (simp only [lenB, sboxL_len, exW_len] <;> omega) | fail)) only [admQ, lenB, sboxL_len, exW_len, aFill, ↓reduceIte, reduceCtorEq, if_true, if_false, Nat.reduceAdd, Nat.reduceEqDiff, Nat.reduceMod, Nat.reduceLT, Nat.reduceLeDiff, Nat.reduceSub, Nat.reduceMul, Nat.reduceBEq, Int.reduceAdd, Int.reduceSub, Int.reduceMul, Int.reduceNeg, Int.reduceLT, Int.reduceLE, Int.reduceToNat, Int.reduceEq, Int.reduceBEq, g1, g2]
  refine LoopW.on (fun s : Nat × Nat => [(4, .int .i64 key.length), (5, .ptr m1.length 0), (6, .sl s.2 0 (key.length + 4 * s.1) (key.length + 4 * s.1) 1), (7, b8 (exK key s.1).2), (8, .int .i64 ((key.length + 4 * s.1 : Nat) : Int))]) (fun s => exN key.length - s.1)
    (fun s m' => s.1 ≤ exN key.length ∧ Kept [] m m' ∧ m1.length < s.2 ∧ own m' m1.length = some (.nils :: bys sboxL) ∧ own m' s.2 = some (bys (exK key s.1).1)) ?_ (0, m1.length + (0 + 1 + 1)) _ _ rfl ⟨by omega, hk2, by simp, by simp -implicitDefEqProofs (disch := (first | omega | (simp only [lenB, sboxL_len, exW_len] <;> omega) | fail)) only [admQ, lenB, sboxL_len, exW_len, aFill, ↓reduceIte, reduceCtorEq, if_true, if_false, Nat.reduceAdd, Nat.reduceEqDiff, Nat.reduceMod, Nat.reduceLT, Nat.reduceLeDiff, Nat.reduceSub, Nat.reduceMul, Nat.reduceBEq, Int.reduceAdd, Int.reduceSub, Int.reduceMul, Int.reduceNeg, Int.reduceLT, Int.reduceLE, Int.reduceToNat, Int.reduceEq, Int.reduceBEq], by simp -implicitDefEqProofs (disch := (first | omega | (simp only [lenB, sboxL_len, exW_len] <;> omega) | fail)) only [admQ, lenB, sboxL_len, exW_len, aFill, ↓reduceIte, reduceCtorEq, if_true, if_false, Nat.reduceAdd, Nat.reduceEqDiff, Nat.reduceMod, Nat.reduceLT, Nat.reduceLeDiff, Nat.reduceSub, Nat.reduceMul, Nat.reduceBEq, Int.reduceAdd, Int.reduceSub, Int.reduceMul, Int.reduceNeg, Int.reduceLT, Int.reduceLE, Int.reduceToNat, Int.reduceEq, Int.reduceBEq, exK]⟩
  clear g1 g2 hk2 hk1
  rintro ⟨k, pb⟩ m' X ⟨hkn, hk', hpb, oc, ob⟩ hX
  dsimp only at hkn hpb ob hX ⊢
  have hB := exK_len key k
  have hst : exK key (k + 1) = exStep key.length (exK key k) := rfl
  generalize hst0 : exK key k = st at *
  obtain ⟨B, r⟩ := st
  dsimp only at *
  have hN : exN key.length = 4 * (key.length / 4 + 7) - key.length / 4 := rfl
  have oc' := rowOf_own oc
  have ob' := rowOf_own ob
  by_cases hlt : k < exN key.length
  · have w1 : List.take 4 (List.drop (key.length + 4 * k - 4) (bys B)) = bys (tab 4 fun i => gb B (B.length - 4 + i)) := take_drop_tab (by omega) (by omega)
    have hx1 : exW key.length B r = exW key.length B r := rfl
    conv at hx1 => rhs; unfold exW; dsimp only
    have hWl : (tab 4 fun i => gb B (B.length - 4 + i)).length = 4 := tab_len _ _
    generalize (tab 4 fun i => gb B (B.length - 4 + i)) = W at *
    have hTl := exW_len key.length B r
    have hst' : exK key (k + 1) = (B ++ tab 4 (exG key.length B r), if B.length % key.length = 0 then tw r else r) := hst
    clear hst
    have hG : ∀ i, exG key.length B r i = gb B (B.length - key.length + i) ^^^ gb (exW key.length B r) i := fun _ => rfl
    generalize exW key.length B r = T at *
    generalize exG key.length B r = G at *
    rw [hB] at hx1 hst' hG
    have hsp4 : ∀ l : List B8, l.length = 4 → splice [.int .u8 0, .int .u8 0, .int .u8 0, .int .u8 0] 0 (bys l) = bys l := fun l h => splice_all (by simp [h])
    have hsp := hsp4 W hWl
    have ocA := fun e => rowOf_own (own_app oc e)
    have obA := fun e => rowOf_own (own_app ob e)
    have fin : ∀ (m2 : Mem) (pb2 : Nat) (T : List B8), Kept [pb] (m' ++ [.row (bys T) false]) m2 → (m' ++ [Blk.row (bys T) false]).length ≤ pb2 → own m2 pb2 = some (bys (exK key (k + 1)).1) →
        k + 1 ≤ exN key.length ∧ Kept [] m m2 ∧ m1.length < pb2 ∧ own m2 m1.length = some (.nils :: bys sboxL) ∧ own m2 pb2 = some (bys (exK key (k + 1)).1) := by
      intro m2 pb2 T hk2 hp2 ob2
      have := own_lt oc
      simp only [List.length_append] at hp2
      refine ⟨by omega, (hk'.more_app _).fresh hk2 (by simp; omega), by omega, hk2.own (own_app oc _) (by simp; omega), ob2⟩
    rcases Nat.decEq ((key.length + 4 * k) % key.length) 0 with g1 | g1
    · rw [if_neg g1] at hx1 hst'
      by_cases g2 : key.length = 32 ∧ (key.length + 4 * k) % key.length = 16
      · rw [if_pos g2] at hx1
        obtain ⟨g2, g3⟩ := g2
        have e1 : [b8 (sb (gb W 0)), b8 (sb (gb W 1)), b8 (sb (gb W 2)), b8 (sb (gb W 3))] = bys T := by rw [hx1]; rfl
        have e2 : splice (bys W) 0 [b8 (sb (gb W 0)), b8 (sb (gb W 1)), b8 (sb (gb W 2)), b8 (sb (gb W 3))] = bys T := by rw [e1]; exact splice_all (by simp [hWl, hTl])
        have g2' : ((key.length : Int) == 32) = true := by rw [g2]; rfl
        have g3' : (((key.length + 4 * k) % key.length : Nat) : Int) == 16 := by rw [g3]; rfl
        simp -implicitDefEqProofs (disch := (first | omega | (simp only [lenB, sboxL_len, exW_len] <;> omega) | fail)) only [admQ, lenB, sboxL_len, exW_len, aFill, ↓reduceIte, reduceCtorEq, if_true, if_false, Nat.reduceAdd, Nat.reduceEqDiff, Nat.reduceMod, Nat.reduceLT, Nat.reduceLeDiff, Nat.reduceSub, Nat.reduceMul, Nat.reduceBEq, Int.reduceAdd, Int.reduceSub, Int.reduceMul, Int.reduceNeg, Int.reduceLT, Int.reduceLE, Int.reduceToNat, Int.reduceEq, Int.reduceBEq, oc', ob', w1, hsp, ocA, sb_at, e2, g2', g3']
        refine new_inner hB hTl (by omega) (own_app ob _) (by simp -implicitDefEqProofs (disch := (first | omega | (simp only [lenB, sboxL_len, exW_len] <;> omega) | fail)) only [admQ, lenB, sboxL_len, exW_len, aFill, ↓reduceIte, reduceCtorEq, if_true, if_false, Nat.reduceAdd, Nat.reduceEqDiff, Nat.reduceMod, Nat.reduceLT, Nat.reduceLeDiff, Nat.reduceSub, Nat.reduceMul, Nat.reduceBEq, Int.reduceAdd, Int.reduceSub, Int.reduceMul, Int.reduceNeg, Int.reduceLT, Int.reduceLE, Int.reduceToNat, Int.reduceEq, Int.reduceBEq]) (by have := own_lt ob; omega) fun m2 pb2 hk2 hp2 ob2 => ?_
        simp -implicitDefEqProofs (disch := (first | omega | (simp only [lenB, sboxL_len, exW_len] <;> omega) | fail)) only [admQ, lenB, sboxL_len, exW_len, aFill, ↓reduceIte, reduceCtorEq, if_true, if_false, Nat.reduceAdd, Nat.reduceEqDiff, Nat.reduceMod, Nat.reduceLT, Nat.reduceLeDiff, Nat.reduceSub, Nat.reduceMul, Nat.reduceBEq, Int.reduceAdd, Int.reduceSub, Int.reduceMul, Int.reduceNeg, Int.reduceLT, Int.reduceLE, Int.reduceToNat, Int.reduceEq, Int.reduceBEq]
        exact hX (k + 1, pb2) _ _ (by rw [hst']; rfl) (by simp; omega) (fin m2 pb2 T hk2 hp2 (by rw [ob2, hst']; simp only [← hG]))
      · rw [if_neg g2] at hx1
        have g4 : ((key.length : Int) == 32) = false ∨ ((key.length : Int) == 32) = true ∧ ((((key.length + 4 * k) % key.length : Nat) : Int) == 16) = false := by
          by_cases h : key.length = 32
          · exact .inr ⟨by rw [h]; rfl, beq_eq_false_iff_ne.mpr fun e => g2 ⟨h, by omega⟩⟩
          · exact .inl (beq_eq_false_iff_ne.mpr (by omega))
        subst hx1
        rcases g4 with g4 | ⟨g4, g5⟩
        · simp -implicitDefEqProofs (disch := (first | omega | (simp only [lenB, sboxL_len, exW_len] <;> omega) | fail)) only [admQ, lenB, sboxL_len, exW_len, aFill, ↓reduceIte, reduceCtorEq, if_true, if_false, Nat.reduceAdd, Nat.reduceEqDiff, Nat.reduceMod, Nat.reduceLT, Nat.reduceLeDiff, Nat.reduceSub, Nat.reduceMul, Nat.reduceBEq, Int.reduceAdd, Int.reduceSub, Int.reduceMul, Int.reduceNeg, Int.reduceLT, Int.reduceLE, Int.reduceToNat, Int.reduceEq, Int.reduceBEq, oc', ob', w1, hsp, ocA, sb_at, g4]
          refine new_inner hB hTl (by omega) (own_app ob _) (by simp -implicitDefEqProofs (disch := (first | omega | (simp only [lenB, sboxL_len, exW_len] <;> omega) | fail)) only [admQ, lenB, sboxL_len, exW_len, aFill, ↓reduceIte, reduceCtorEq, if_true, if_false, Nat.reduceAdd, Nat.reduceEqDiff, Nat.reduceMod, Nat.reduceLT, Nat.reduceLeDiff, Nat.reduceSub, Nat.reduceMul, Nat.reduceBEq, Int.reduceAdd, Int.reduceSub, Int.reduceMul, Int.reduceNeg, Int.reduceLT, Int.reduceLE, Int.reduceToNat, Int.reduceEq, Int.reduceBEq]) (by have := own_lt ob; omega) fun m2 pb2 hk2 hp2 ob2 => ?_
          simp -implicitDefEqProofs (disch := (first | omega | (simp only [lenB, sboxL_len, exW_len] <;> omega) | fail)) only [admQ, lenB, sboxL_len, exW_len, aFill, ↓reduceIte, reduceCtorEq, if_true, if_false, Nat.reduceAdd, Nat.reduceEqDiff, Nat.reduceMod, Nat.reduceLT, Nat.reduceLeDiff, Nat.reduceSub, Nat.reduceMul, Nat.reduceBEq, Int.reduceAdd, Int.reduceSub, Int.reduceMul, Int.reduceNeg, Int.reduceLT, Int.reduceLE, Int.reduceToNat, Int.reduceEq, Int.reduceBEq]
          exact hX (k + 1, pb2) _ _ (by rw [hst']; rfl) (by simp; omega) (fin m2 pb2 T hk2 hp2 (by rw [ob2, hst']; simp only [← hG]))
        · simp -implicitDefEqProofs (disch := (first | omega | (simp only [lenB, sboxL_len, exW_len] <;> omega) | fail)) only [admQ, lenB, sboxL_len, exW_len, aFill, ↓reduceIte, reduceCtorEq, if_true, if_false, Nat.reduceAdd, Nat.reduceEqDiff, Nat.reduceMod, Nat.reduceLT, Nat.reduceLeDiff, Nat.reduceSub, Nat.reduceMul, Nat.reduceBEq, Int.reduceAdd, Int.reduceSub, Int.reduceMul, Int.reduceNeg, Int.reduceLT, Int.reduceLE, Int.reduceToNat, Int.reduceEq, Int.reduceBEq, oc', ob', w1, hsp, ocA, sb_at, g4, g5]
          refine new_inner hB hTl (by omega) (own_app ob _) (by simp -implicitDefEqProofs (disch := (first | omega | (simp only [lenB, sboxL_len, exW_len] <;> omega) | fail)) only [admQ, lenB, sboxL_len, exW_len, aFill, ↓reduceIte, reduceCtorEq, if_true, if_false, Nat.reduceAdd, Nat.reduceEqDiff, Nat.reduceMod, Nat.reduceLT, Nat.reduceLeDiff, Nat.reduceSub, Nat.reduceMul, Nat.reduceBEq, Int.reduceAdd, Int.reduceSub, Int.reduceMul, Int.reduceNeg, Int.reduceLT, Int.reduceLE, Int.reduceToNat, Int.reduceEq, Int.reduceBEq]) (by have := own_lt ob; omega) fun m2 pb2 hk2 hp2 ob2 => ?_
          simp -implicitDefEqProofs (disch := (first | omega | (simp only [lenB, sboxL_len, exW_len] <;> omega) | fail)) only [admQ, lenB, sboxL_len, exW_len, aFill, ↓reduceIte, reduceCtorEq, if_true, if_false, Nat.reduceAdd, Nat.reduceEqDiff, Nat.reduceMod, Nat.reduceLT, Nat.reduceLeDiff, Nat.reduceSub, Nat.reduceMul, Nat.reduceBEq, Int.reduceAdd, Int.reduceSub, Int.reduceMul, Int.reduceNeg, Int.reduceLT, Int.reduceLE, Int.reduceToNat, Int.reduceEq, Int.reduceBEq]
          exact hX (k + 1, pb2) _ _ (by rw [hst']; rfl) (by simp; omega) (fin m2 pb2 T hk2 hp2 (by rw [ob2, hst']; simp only [← hG]))
    · rw [if_pos g1] at hx1 hst'
      have e1 : [b8 (sb (gb W 1) ^^^ r), b8 (sb (gb W 2)), b8 (sb (gb W 3)), b8 (sb (gb W 0))] = bys T := by rw [hx1]; rfl
      have e2 : splice (bys W) 0 [b8 (sb (gb W 1) ^^^ r), b8 (sb (gb W 2)), b8 (sb (gb W 3)), b8 (sb (gb W 0))] = bys T := by rw [e1]; exact splice_all (by simp [hWl, hTl])
      simp -implicitDefEqProofs (disch := (first | omega | (simp only [lenB, sboxL_len, exW_len] <;> omega) | fail)) only [admQ, lenB, sboxL_len, exW_len, aFill, ↓reduceIte, reduceCtorEq, if_true, if_false, Nat.reduceAdd, Nat.reduceEqDiff, Nat.reduceMod, Nat.reduceLT, Nat.reduceLeDiff, Nat.reduceSub, Nat.reduceMul, Nat.reduceBEq, Int.reduceAdd, Int.reduceSub, Int.reduceMul, Int.reduceNeg, Int.reduceLT, Int.reduceLE, Int.reduceToNat, Int.reduceEq, Int.reduceBEq, oc', ob', w1, hsp, ocA, sb_at, e2]
      refine (ans_twice r _).mono ?_
      rintro _ m3 ⟨rfl, rfl⟩
      simp -implicitDefEqProofs (disch := (first | omega | (simp only [lenB, sboxL_len, exW_len] <;> omega) | fail)) only [admQ, lenB, sboxL_len, exW_len, aFill, ↓reduceIte, reduceCtorEq, if_true, if_false, Nat.reduceAdd, Nat.reduceEqDiff, Nat.reduceMod, Nat.reduceLT, Nat.reduceLeDiff, Nat.reduceSub, Nat.reduceMul, Nat.reduceBEq, Int.reduceAdd, Int.reduceSub, Int.reduceMul, Int.reduceNeg, Int.reduceLT, Int.reduceLE, Int.reduceToNat, Int.reduceEq, Int.reduceBEq]
      refine new_inner hB hTl (by omega) (own_app ob _) (by simp -implicitDefEqProofs (disch := (first | omega | (simp only [lenB, sboxL_len, exW_len] <;> omega) | fail)) only [admQ, lenB, sboxL_len, exW_len, aFill, ↓reduceIte, reduceCtorEq, if_true, if_false, Nat.reduceAdd, Nat.reduceEqDiff, Nat.reduceMod, Nat.reduceLT, Nat.reduceLeDiff, Nat.reduceSub, Nat.reduceMul, Nat.reduceBEq, Int.reduceAdd, Int.reduceSub, Int.reduceMul, Int.reduceNeg, Int.reduceLT, Int.reduceLE, Int.reduceToNat, Int.reduceEq, Int.reduceBEq]) (by have := own_lt ob; omega) fun m2 pb2 hk2 hp2 ob2 => ?_
      simp -implicitDefEqProofs (disch := (first | omega | (simp only [lenB, sboxL_len, exW_len] <;> omega) | fail)) only [admQ, lenB, sboxL_len, exW_len, aFill, ↓reduceIte, reduceCtorEq, if_true, if_false, Nat.reduceAdd, Nat.reduceEqDiff, Nat.reduceMod, Nat.reduceLT, Nat.reduceLeDiff, Nat.reduceSub, Nat.reduceMul, Nat.reduceBEq, Int.reduceAdd, Int.reduceSub, Int.reduceMul, Int.reduceNeg, Int.reduceLT, Int.reduceLE, Int.reduceToNat, Int.reduceEq, Int.reduceBEq]
      exact hX (k + 1, pb2) _ _ (by rw [hst']; rfl) (by simp; omega) (fin m2 pb2 T hk2 hp2 (by rw [ob2, hst']; simp only [← hG]))
  · obtain rfl : k = exN key.length := by omega
    have hE : expand key = B := by rw [expand, hst0]
    have hL : key.length + 4 * exN key.length = (key.length / 4 + 7) * 16 := by omega
    simp -implicitDefEqProofs (disch := (first | omega | (simp only [lenB, sboxL_len, exW_len] <;> omega) | fail)) only [admQ, lenB, sboxL_len, exW_len, aFill, ↓reduceIte, reduceCtorEq, if_true, if_false, Nat.reduceAdd, Nat.reduceEqDiff, Nat.reduceMod, Nat.reduceLT, Nat.reduceLeDiff, Nat.reduceSub, Nat.reduceMul, Nat.reduceBEq, Int.reduceAdd, Int.reduceSub, Int.reduceMul, Int.reduceNeg, Int.reduceLT, Int.reduceLE, Int.reduceToNat, Int.reduceEq, Int.reduceBEq]
    rw [hL] at hB ⊢
    have hN2 : 2 ≤ key.length / 4 + 7 ∧ key.length / 4 + 7 ≤ 100 := by omega
    rw [← hE] at ob hB
    generalize hNn : key.length / 4 + 7 = N at *
    generalize hEe : expand key = E at *
    clear hst hst0 hX hlt hkn oc' ob' hL hN hE
    refine LoopW.on (fun s : Nat × Nat => [(5, .ptr m1.length 0), (6, .sl pb (s.1 * 16) (N * 16 - s.1 * 16) (N * 16 - s.1 * 16) 1)]) (fun s => N - s.1)
      (fun s m2 => s.1 ≤ N ∧ Kept [] m m2 ∧ own m2 pb = some (bys E) ∧ (s.1 = 0 ∧ own m2 m1.length = some (.nils :: bys sboxL) ∨ 0 < s.1 ∧ own m2 m1.length = some (.sl s.2 0 s.1 s.1 16 :: bys sboxL) ∧ own m2 s.2 = some (bys (E.take (s.1 * 16))) ∧ m1.length < s.2 ∧ s.2 ≠ pb)) ?_ (0, 0) _ _ rfl ⟨by omega, hk', ob, .inl ⟨rfl, oc⟩⟩
    clear ob oc hk'
    rintro ⟨q, kb⟩ m2 X2 ⟨hq, hk2, ob, hc⟩ hX2
    dsimp only at hq ob hc hX2 ⊢
    have obA := fun e => rowOf_own (own_app ob e)
    have hlc : m1.length < m2.length := by rcases hc with ⟨_, h⟩ | ⟨_, h, _⟩ <;> exact own_lt h
    have hlb := own_lt ob
    have hsw : ∀ v w : AV, splice (v :: bys sboxL) 0 [w] = w :: bys sboxL := fun v w => by rw [splice_zero, splice_nil]
    by_cases hlt : q < N
    · have hch : List.take 16 (List.drop (q * 16) (bys E)) = bys (keyAt E q) := keyAt_bys E q
      have hcl : (keyAt E q).length = 16 := keyAt_len (n := N) (by omega) hlt
      have hnx : q * 16 + 16 = (q + 1) * 16 := by omega
      have hny : N * 16 - q * 16 - 16 = N * 16 - (q + 1) * 16 := by omega
      have htk : E.take ((q + 1) * 16) = E.take (q * 16) ++ keyAt E q := by rw [← hnx, List.take_add]; rfl
      rcases hc with ⟨rfl, oc⟩ | ⟨h0, oc, ok, hkb, hkp⟩
      · have hg := appS_nils1 (m := m2) (size := 16) (bytes := 16) (l2 := bys (keyAt E 0)) (by simpa using hcl) (by omega)
        have ocA := fun e => own_app oc e
        have hsA := fun e b => set_app hlc e b
        have hch0 : List.take 16 (bys E) = bys (keyAt E 0) := by simpa using hch
        simp -implicitDefEqProofs (disch := (first | omega | (simp only [lenB, sboxL_len, exW_len] <;> omega) | fail)) only [admQ, lenB, sboxL_len, exW_len, aFill, ↓reduceIte, reduceCtorEq, if_true, if_false, Nat.reduceAdd, Nat.reduceEqDiff, Nat.reduceMod, Nat.reduceLT, Nat.reduceLeDiff, Nat.reduceSub, Nat.reduceMul, Nat.reduceBEq, Int.reduceAdd, Int.reduceSub, Int.reduceMul, Int.reduceNeg, Int.reduceLT, Int.reduceLE, Int.reduceToNat, Int.reduceEq, Int.reduceBEq, rowOf_own oc, rowOf_own ob, hch0, hg, hsw, ocA, rowOf_own (ocA _), hsA]
        refine hX2 (1, m2.length + 1) _ _ rfl (by simp; omega) ⟨by simp; omega, ?_, ?_, .inr ⟨by simp, ?_, ?_, by simp; omega, by simp; omega⟩⟩
        · exact (hk2.write (.inr hm1) _).more_app _
        · exact own_app (own_set_ne' ob (by omega) _) _
        · exact own_app (own_set hlc _) _
        · simp -implicitDefEqProofs (disch := (first | omega | (simp only [lenB, sboxL_len, exW_len] <;> omega) | fail)) only [admQ, lenB, sboxL_len, exW_len, aFill, ↓reduceIte, reduceCtorEq, if_true, if_false, Nat.reduceAdd, Nat.reduceEqDiff, Nat.reduceMod, Nat.reduceLT, Nat.reduceLeDiff, Nat.reduceSub, Nat.reduceMul, Nat.reduceBEq, Int.reduceAdd, Int.reduceSub, Int.reduceMul, Int.reduceNeg, Int.reduceLT, Int.reduceLE, Int.reduceToNat, Int.reduceEq, Int.reduceBEq]
          simp [keyAt]
      · have hkl := own_lt ok
        have hg := appS_grow1 (m := m2) (b := kb) (n := q) (size := 16) (bytes := 16) (l := bys (E.take (q * 16))) (l2 := bys (keyAt E q)) ok (by simp; omega) (by omega) (by simpa using hcl) (by omega)
        have ocA := fun e => own_app (own_set_ne' oc (show kb ≠ m1.length by omega) .dead) e
        have ocB := fun e => own_app oc e
        have hsA := fun e b => set_app (m := m2.set kb .dead) (by simpa using hlc) e b
        simp -implicitDefEqProofs (disch := (first | omega | (simp only [lenB, sboxL_len, exW_len] <;> omega) | fail)) only [admQ, lenB, sboxL_len, exW_len, aFill, ↓reduceIte, reduceCtorEq, if_true, if_false, Nat.reduceAdd, Nat.reduceEqDiff, Nat.reduceMod, Nat.reduceLT, Nat.reduceLeDiff, Nat.reduceSub, Nat.reduceMul, Nat.reduceBEq, Int.reduceAdd, Int.reduceSub, Int.reduceMul, Int.reduceNeg, Int.reduceLT, Int.reduceLE, Int.reduceToNat, Int.reduceEq, Int.reduceBEq, rowOf_own oc, rowOf_own ob, hch, hg, hsw, ocA, rowOf_own (ocA _), hsA, rowOf_own (ocB _), hnx, hny]
        refine hX2 (q + 1, m2.length + 1) _ _ rfl (by simp; omega) ⟨by simp; omega, ?_, ?_, .inr ⟨by simp, ?_, ?_, by simp; omega, by simp; omega⟩⟩
        · exact ((hk2.write (.inr (by omega)) _).write (.inr hm1) _).more_app _
        · exact own_app (own_set_ne' (own_set_ne' ob hkp _) (by omega) _) _
        · exact own_app (own_set (by simpa using hlc) _) _
        · simp -implicitDefEqProofs (disch := (first | omega | (simp only [lenB, sboxL_len, exW_len] <;> omega) | fail)) only [admQ, lenB, sboxL_len, exW_len, aFill, ↓reduceIte, reduceCtorEq, if_true, if_false, Nat.reduceAdd, Nat.reduceEqDiff, Nat.reduceMod, Nat.reduceLT, Nat.reduceLeDiff, Nat.reduceSub, Nat.reduceMul, Nat.reduceBEq, Int.reduceAdd, Int.reduceSub, Int.reduceMul, Int.reduceNeg, Int.reduceLT, Int.reduceLE, Int.reduceToNat, Int.reduceEq, Int.reduceBEq, htk, List.map_append]
    · obtain rfl : q = N := by omega
      rcases hc with ⟨rfl, oc⟩ | ⟨h0, oc, ok, hkb, hkp⟩
      · omega
      · simp -implicitDefEqProofs (disch := (first | omega | (simp only [lenB, sboxL_len, exW_len] <;> omega) | fail)) only [admQ, lenB, sboxL_len, exW_len, aFill, ↓reduceIte, reduceCtorEq, if_true, if_false, Nat.reduceAdd, Nat.reduceEqDiff, Nat.reduceMod, Nat.reduceLT, Nat.reduceLeDiff, Nat.reduceSub, Nat.reduceMul, Nat.reduceBEq, Int.reduceAdd, Int.reduceSub, Int.reduceMul, Int.reduceNeg, Int.reduceLT, Int.reduceLE, Int.reduceToNat, Int.reduceEq, Int.reduceBEq]
        refine ⟨m1.length, kb, rfl, hk2, hm1, by omega, ?_⟩
        rw [hEe, hNn]
        exact ⟨rowOf_own oc, by rw [List.take_of_length_le (by omega)] at ok; exact rowOf_own ok, hB, hN2⟩
theorem ans_new {m : Mem} {x : AV} {key : List B8} (hx : RdB m x key) (hk : keyOk key.length) : Ans Try.prog 8 [x] m fun r m' =>
    ∃ c kb, r = .tup [.ptr c 0, .int .i64 0] ∧ Kept [] m m' ∧ m.length ≤ c ∧ m.length ≤ kb ∧ Ciph m' c kb (key.length / 4 + 7) (expand key) := by
  refine ans_ret mixed ok8 ?_
  have hlen : key.length = 16 ∨ key.length = 24 ∨ key.length = 32 := hk
  have e16 : key.length = 16 → ((key.length : Int) == 16) = true := fun h => by rw [h]; rfl
  have e24 : key.length = 24 → ((key.length : Int) == 16) = false ∧ ((key.length : Int) == 24) = true := fun h => by rw [h]; exact ⟨rfl, rfl⟩
  have e32 : key.length = 32 → ((key.length : Int) == 16) = false ∧ ((key.length : Int) == 24) = false ∧ ((key.length : Int) == 32) = true := fun h => by rw [h]; exact ⟨rfl, rfl, rfl⟩
  rcases hlen with h | h | h
  · rw [newCode]
    simp -implicitDefEqProofs (disch := (first | omega | (simp only [lenB, sboxL_len, exW_len] <;> omega) | fail)) only [admQ, lenB, sboxL_len, exW_len, aFill, ↓reduceIte, reduceCtorEq, if_true, if_false, Nat.reduceAdd, Nat.reduceEqDiff, Nat.reduceMod, Nat.reduceLT, Nat.reduceLeDiff, Nat.reduceSub, Nat.reduceMul, Nat.reduceBEq, Int.reduceAdd, Int.reduceSub, Int.reduceMul, Int.reduceNeg, Int.reduceLT, Int.reduceLE, Int.reduceToNat, Int.reduceEq, Int.reduceBEq, hdC, tlC, c8, hx.len, e16 h]
    exact ans_new_go hx hk
  · rw [newCode]
    simp -implicitDefEqProofs (disch := (first | omega | (simp only [lenB, sboxL_len, exW_len] <;> omega) | fail)) only [admQ, lenB, sboxL_len, exW_len, aFill, ↓reduceIte, reduceCtorEq, if_true, if_false, Nat.reduceAdd, Nat.reduceEqDiff, Nat.reduceMod, Nat.reduceLT, Nat.reduceLeDiff, Nat.reduceSub, Nat.reduceMul, Nat.reduceBEq, Int.reduceAdd, Int.reduceSub, Int.reduceMul, Int.reduceNeg, Int.reduceLT, Int.reduceLE, Int.reduceToNat, Int.reduceEq, Int.reduceBEq, hdC, tlC, c8, hx.len, e24 h]
    exact ans_new_go hx hk
  · rw [newCode]
    simp -implicitDefEqProofs (disch := (first | omega | (simp only [lenB, sboxL_len, exW_len] <;> omega) | fail)) only [admQ, lenB, sboxL_len, exW_len, aFill, ↓reduceIte, reduceCtorEq, if_true, if_false, Nat.reduceAdd, Nat.reduceEqDiff, Nat.reduceMod, Nat.reduceLT, Nat.reduceLeDiff, Nat.reduceSub, Nat.reduceMul, Nat.reduceBEq, Int.reduceAdd, Int.reduceSub, Int.reduceMul, Int.reduceNeg, Int.reduceLT, Int.reduceLE, Int.reduceToNat, Int.reduceEq, Int.reduceBEq, hdC, tlC, c8, hx.len, e32 h]
    exact ans_new_go hx hk
end Go.Proofs.Ythdkclkiegkabaa
