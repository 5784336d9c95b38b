/- Texts of this seat, joined (part 4 of 6): an abstract memory for Go programs, this seat's functions as abstract code, and what each of them does. -/
import Derived.Test.YtoegmnnecanhfaaGreatDoorQ3
set_option linter.unusedSimpArgs false
set_option linter.defProp false
section
namespace Go.Proofs.YtoegmnnecanhfaaGreatDoor
open Go Go.Adm
set_option linter.unusedSimpArgs false
set_option maxRecDepth 100000
def exW (n : Nat) (B : List B8) (r : B8) : List B8 :=
 let w := tab 4 fun i => gb B (B.length - 4 + i)
 if B.length % n = 0 then [sb (gb w 1) ^^^ r, sb (gb w 2), sb (gb w 3), sb (gb w 0)]
 else if n = 32 ∧ B.length % n = 16 then [sb (gb w 0), sb (gb w 1), sb (gb w 2), sb (gb w 3)]
 else w
theorem exW_len (n : Nat) (B : List B8) (r : B8) : (exW n B r).length = 4 := by
 unfold exW; dsimp only; split
 ·rfl
 ·split
  ·rfl
  ·rfl
def exG (n : Nat) (B : List B8) (r : B8) (i : Nat) : B8 := gb B (B.length - n + i) ^^^ gb (exW n B r) i
def exStep (n : Nat) (s : List B8 × B8) : List B8 × B8 := (s.1 ++ tab 4 (exG n s.1 s.2), if s.1.length % n = 0 then tw s.2 else s.2)
def exK (key : List B8) : Nat → List B8 × B8
 | 0 => (key, 1#8)
 | k + 1 => exStep key.length (exK key k)
theorem exK_len (key : List B8) (k : Nat) : (exK key k).1.length = key.length + 4 * k := by
 induction k with
 | zero => rfl
 | succ k ih => simp only [exK, exStep, List.length_append, ih, tab_len]; omega
def keyOk (n : Nat) : Prop := n = 16 ∨ n = 24 ∨ n = 32
instance (n : Nat) : Decidable (keyOk n) := inferInstanceAs (Decidable (_ ∨ _ ∨ _))
def exN (n : Nat) : Nat := 4 * (n / 4 + 7) - n / 4
def expand (key : List B8) : List B8 := (exK key (exN key.length)).1
def newQ (m : Mem) (key : List B8) (r : AV) (m' : Mem) : Prop := ∃ c kb, r = .tup [.ptr c 0, .int .i64 0] ∧ Kept [] m m' ∧ m.length ≤ c ∧ m.length ≤ kb ∧ Ciph m' c kb (key.length / 4 + 7) (expand key)
def newTail : ACode := tlC (tlC (tlC c25))
theorem newCode : c25 = .seq (hdC c25) (.seq (hdC (tlC c25)) (.seq (hdC (tlC (tlC c25))) newTail)) := rfl
def newInner : ACode := bodyC (tlC (tlC (tlC (bodyC (hdC (tlC (bodyC (bodyC (tlC (hdC (tlC (tlC (tlC newTail))))))))))))) 
def lq4 := And.intro @lenB (And.intro @sboxL_len (@exW_len))
theorem new_inner {m' : Mem} {n L pb p9 : Nat} {B T : List B8} {v5 v7 : AV} {Q : Exit → AFr → Mem → Prop} (hB : B.length = L) (hT : T.length = 4) (hn : 4 ≤ n ∧ n ≤ L ∧ L < 100000) (ob : own m' pb = some (bys B)) (o9 : own m' p9 = some (bys T)) (hne : pb ≠ p9)
  (hQ : ∀ m2 pb2, Kept [pb] m' m2 → m'.length ≤ pb2 → own m2 pb2 = some (bys (B ++ tab 4 fun i => gb B (L - n + i) ^^^ gb T i)) →
   Q (.exit 3) [(4, .int .i64 n), (5, v5), (6, .sl pb2 0 (L + 4) (L + 4) 1), (7, v7), (8, .int .i64 L), (9, .ptr p9 0), (121, .int .i64 4), (122, .bool false)] m2) :
  wpA Tryz.prog newInner [(4, .int .i64 n), (5, v5), (6, .sl pb 0 L L 1), (7, v7), (8, .int .i64 L), (9, .ptr p9 0), (121, .int .i64 0)] m' Q := by
 simp only [newInner, newTail, tlC, hdC, bodyC, c25]
 let g : Nat → B8 := fun i => gb B (L - n + i) ^^^ gb T i
 refine LoopW.on (fun s : Nat × Nat => [(4, .int .i64 n), (5, v5), (6, .sl s.2 0 (L + s.1) (L + s.1) 1), (7, v7), (8, .int .i64 L), (9, .ptr p9 0), (121, .int .i64 s.1)]) (fun s => 4 - s.1)
  (fun s m2 => s.1 ≤ 4 ∧ Kept [pb] m' m2 ∧ (s.1 = 0 ∧ s.2 = pb ∨ m'.length ≤ s.2) ∧ own m2 s.2 = some (bys (B ++ tab s.1 g))) ?_ (0, pb) _ _ rfl ⟨by omega, .refl _ _, .inl ⟨rfl, rfl⟩, by simpa [tab] using ob⟩
 rintro ⟨i, pb2⟩ m2 X ⟨hi, hk, hp, ob2⟩ hX
 dsimp only at hi hp ob2 hX ⊢
 have o92 := hk.own o9 (by simpa using fun h => hne h.symm)
 have hl9 := own_lt o9
 have hpb := own_lt ob
 by_cases hlt : i < 4
 ·have o9A := fun e => rowOf_own (own_app o92 e)
  have obA := fun e => rowOf_own (own_app ob2 e)
  have hp92 : pb2 ≠ p9 := by rcases hp with ⟨_, rfl⟩ | h <;> omega
  have hg := app_grow1 (n := L + i) (v := g i) ob2 (by simp [tab_len, hB]) (by omega)
  simp only [List.append_assoc, ← tab_succ] at hg
  have hg1 : gb B (L - n + i) ^^^ gb T i = g i := rfl
  have hg2 : gb (B ++ tab i g) (L - n + i) = gb B (L - n + i) := gb_app_l (by omega)
  simp -implicitDefEqProofs (disch := (first | omega | (simp only [lq4] <;> omega) | fail)) only [admQ, lq4, aFill, AK.cls, implies_true, if_true, if_false, seval, -List.reduceReplicate, rowOf_own ob2, rowOf_own o92, hg2, hg1, hg]
  refine hX (i + 1, m2.length + 1) _ _ rfl (by simp; omega) ⟨by simp; omega, ?_, .inr (by have := hk.len; simp; omega), ?_⟩
  ·exact (hk.write (by rcases hp with ⟨_, rfl⟩ | h; exact .inl (by simp); exact .inr h) _).more_app _
  ·simp -implicitDefEqProofs (disch := (first | omega | (simp only [lq4] <;> omega) | fail)) only [admQ, lq4, aFill, AK.cls, implies_true, if_true, if_false, seval, -List.reduceReplicate]
 ·obtain rfl : i = 4 := by omega
  simp -implicitDefEqProofs (disch := (first | omega | (simp only [lq4] <;> omega) | fail)) only [admQ, lq4, aFill, AK.cls, implies_true, if_true, if_false, seval, -List.reduceReplicate]
  rcases hp with ⟨h, _⟩ | hp
  ·omega
  ·exact hQ m2 pb2 hk hp ob2
theorem ans_new_go {m : Mem} {x : AV} {key : List B8} (hx : RdB m x key) (hk : keyOk key.length) :
  wpA Tryz.prog newTail [(0, x), (4, .int .i64 key.length), (22, .bool false)] m (retQ r25 (newQ m key)) := by
 have hlen : key.length = 16 ∨ key.length = 24 ∨ key.length = 32 := hk
 simp -implicitDefEqProofs (disch := (first | omega | (simp only [lq4] <;> omega) | fail)) only [admQ, lq4, aFill, AK.cls, implies_true, if_true, if_false, seval, -List.reduceReplicate, newTail, tlC, c25]
 refine (ans_table _).mono ?_
 rintro _ m1 ⟨rfl, hk1⟩
 have g1 : splice (.nils :: bys (List.replicate 256 0#8)) 1 (bys sboxL) = .nils :: bys sboxL := by
  rw [show (1 : Nat) = 0 + 1 from rfl, splice_succ, splice_whole (by rw [sboxL_len]; simp)]
 have g2 := app_new (m := m1 ++ [.row (.nils :: bys sboxL) false, .row [] false]) (b := m1.length + 1) (s := 0) ((hx.kept0 hk1).app _) (by omega) (by omega) rfl
 have hk2 := hk1.trans (Kept.app [] m1 [Blk.row (.nils :: bys sboxL) false, Blk.row [] false, Blk.row (bys key) false])
 have hm1 := hk1.len
 simp -implicitDefEqProofs (disch := (first | omega | (simp only [lq4] <;> omega) | fail)) only [admQ, lq4, aFill, AK.cls, implies_true, if_true, if_false, seval, -List.reduceReplicate, g1, g2]
 refine LoopW.on (fun s : Nat × Nat => [(4, .int .i64 key.length), (5, .ptr m1.length 0), (6, .sl s.2 0 (key.length + 4 * s.1) (key.length + 4 * s.1) 1), (7, b8 (exK key s.1).2), (8, .int .i64 ((key.length + 4 * s.1 : Nat) : Int))]) (fun s => exN key.length - s.1)
  (fun s m' => s.1 ≤ exN key.length ∧ Kept [] m m' ∧ m1.length < s.2 ∧ own m' m1.length = some (.nils :: bys sboxL) ∧ own m' s.2 = some (bys (exK key s.1).1)) ?_ (0, m1.length + (0 + 1 + 1)) _ _ rfl ⟨by omega, hk2, by simp, by simp -implicitDefEqProofs (disch := (first | omega | (simp only [lq4] <;> omega) | fail)) only [admQ, lq4, aFill, AK.cls, implies_true, if_true, if_false, seval, -List.reduceReplicate], by simp -implicitDefEqProofs (disch := (first | omega | (simp only [lq4] <;> omega) | fail)) only [admQ, lq4, aFill, AK.cls, implies_true, if_true, if_false, seval, -List.reduceReplicate, exK]⟩
 clear g1 g2 hk2 hk1
 rintro ⟨k, pb⟩ m' X ⟨hkn, hk', hpb, oc, ob⟩ hX
 dsimp only at hkn hpb ob hX ⊢
 have hB := exK_len key k
 have hst : exK key (k + 1) = exStep key.length (exK key k) := rfl
 generalize hst0 : exK key k = st at *
 obtain ⟨B, r⟩ := st
 dsimp only at *
 have hN : exN key.length = 4 * (key.length / 4 + 7) - key.length / 4 := rfl
 have oc' := rowOf_own oc
 have ob' := rowOf_own ob
 by_cases hlt : k < exN key.length
 ·have w1 : List.take 4 (List.drop (key.length + 4 * k - 4) (bys B)) = bys (tab 4 fun i => gb B (B.length - 4 + i)) := take_drop_tab (by omega) (by omega)
  have hx1 : exW key.length B r = exW key.length B r := rfl
  conv at hx1 => rhs; unfold exW; dsimp only
  have hWl : (tab 4 fun i => gb B (B.length - 4 + i)).length = 4 := tab_len _ _
  generalize (tab 4 fun i => gb B (B.length - 4 + i)) = W at *
  have hTl := exW_len key.length B r
  have hst' : exK key (k + 1) = (B ++ tab 4 (exG key.length B r), if B.length % key.length = 0 then tw r else r) := hst
  clear hst
  have hG : ∀ i, exG key.length B r i = gb B (B.length - key.length + i) ^^^ gb (exW key.length B r) i := fun _ => rfl
  generalize exW key.length B r = T at *
  generalize exG key.length B r = G at *
  rw [hB] at hx1 hst' hG
  have hsp4 : ∀ l : List B8, l.length = 4 → splice [.int .u8 0, .int .u8 0, .int .u8 0, .int .u8 0] 0 (bys l) = bys l := fun l h => splice_all (by simp [h])
  have hsp := hsp4 W hWl
  have ocA := fun e => rowOf_own (own_app oc e)
  have obA := fun e => rowOf_own (own_app ob e)
  have fin : ∀ (m2 : Mem) (pb2 : Nat) (T : List B8), Kept [pb] (m' ++ [.row (bys T) false]) m2 → (m' ++ [Blk.row (bys T) false]).length ≤ pb2 → own m2 pb2 = some (bys (exK key (k + 1)).1) →
    k + 1 ≤ exN key.length ∧ Kept [] m m2 ∧ m1.length < pb2 ∧ own m2 m1.length = some (.nils :: bys sboxL) ∧ own m2 pb2 = some (bys (exK key (k + 1)).1) := by
   intro m2 pb2 T hk2 hp2 ob2
   have := own_lt oc
   simp only [List.length_append] at hp2
   refine ⟨by omega, (hk'.more_app _).fresh hk2 (by simp; omega), by omega, hk2.own (own_app oc _) (by simp; omega), ob2⟩
  rcases Nat.decEq ((key.length + 4 * k) % key.length) 0 with g1 | g1
  ·rw [if_neg g1] at hx1 hst'
   by_cases g2 : key.length = 32 ∧ (key.length + 4 * k) % key.length = 16
   ·rw [if_pos g2] at hx1
    obtain ⟨g2, g3⟩ := g2
    have e1 : [b8 (sb (gb W 0)), b8 (sb (gb W 1)), b8 (sb (gb W 2)), b8 (sb (gb W 3))] = bys T := by rw [hx1]; rfl
    have e2 : splice (bys W) 0 [b8 (sb (gb W 0)), b8 (sb (gb W 1)), b8 (sb (gb W 2)), b8 (sb (gb W 3))] = bys T := by rw [e1]; exact splice_all (by simp [hWl, hTl])
    have g2' : ((key.length : Int) == 32) = true := by rw [g2]; rfl
    have g3' : (((key.length + 4 * k) % key.length : Nat) : Int) == 16 := by rw [g3]; rfl
    simp -implicitDefEqProofs (disch := (first | omega | (simp only [lq4] <;> omega) | fail)) only [admQ, lq4, aFill, AK.cls, implies_true, if_true, if_false, seval, -List.reduceReplicate, oc', ob', w1, hsp, ocA, sb_at, e2, g2', g3']
    refine new_inner hB hTl (by omega) (own_app ob _) (by simp -implicitDefEqProofs (disch := (first | omega | (simp only [lq4] <;> omega) | fail)) only [admQ, lq4, aFill, AK.cls, implies_true, if_true, if_false, seval, -List.reduceReplicate]) (by have := own_lt ob; omega) fun m2 pb2 hk2 hp2 ob2 => ?_
    simp -implicitDefEqProofs (disch := (first | omega | (simp only [lq4] <;> omega) | fail)) only [admQ, lq4, aFill, AK.cls, implies_true, if_true, if_false, seval, -List.reduceReplicate]
    exact hX (k + 1, pb2) _ _ (by rw [hst']; rfl) (by simp; omega) (fin m2 pb2 T hk2 hp2 (by rw [ob2, hst']; simp only [← hG]))
   ·rw [if_neg g2] at hx1
    have g4 : ((key.length : Int) == 32) = false ∨ ((key.length : Int) == 32) = true ∧ ((((key.length + 4 * k) % key.length : Nat) : Int) == 16) = false := by
     by_cases h : key.length = 32
     ·exact .inr ⟨by rw [h]; rfl, beq_eq_false_iff_ne.mpr fun e => g2 ⟨h, by omega⟩⟩
     ·exact .inl (beq_eq_false_iff_ne.mpr (by omega))
    subst hx1
    rcases g4 with g4 | ⟨g4, g5⟩
    ·simp -implicitDefEqProofs (disch := (first | omega | (simp only [lq4] <;> omega) | fail)) only [admQ, lq4, aFill, AK.cls, implies_true, if_true, if_false, seval, -List.reduceReplicate, oc', ob', w1, hsp, ocA, sb_at, g4]
     refine new_inner hB hTl (by omega) (own_app ob _) (by simp -implicitDefEqProofs (disch := (first | omega | (simp only [lq4] <;> omega) | fail)) only [admQ, lq4, aFill, AK.cls, implies_true, if_true, if_false, seval, -List.reduceReplicate]) (by have := own_lt ob; omega) fun m2 pb2 hk2 hp2 ob2 => ?_
     simp -implicitDefEqProofs (disch := (first | omega | (simp only [lq4] <;> omega) | fail)) only [admQ, lq4, aFill, AK.cls, implies_true, if_true, if_false, seval, -List.reduceReplicate]
     exact hX (k + 1, pb2) _ _ (by rw [hst']; rfl) (by simp; omega) (fin m2 pb2 T hk2 hp2 (by rw [ob2, hst']; simp only [← hG]))
    ·simp -implicitDefEqProofs (disch := (first | omega | (simp only [lq4] <;> omega) | fail)) only [admQ, lq4, aFill, AK.cls, implies_true, if_true, if_false, seval, -List.reduceReplicate, oc', ob', w1, hsp, ocA, sb_at, g4, g5]
     refine new_inner hB hTl (by omega) (own_app ob _) (by simp -implicitDefEqProofs (disch := (first | omega | (simp only [lq4] <;> omega) | fail)) only [admQ, lq4, aFill, AK.cls, implies_true, if_true, if_false, seval, -List.reduceReplicate]) (by have := own_lt ob; omega) fun m2 pb2 hk2 hp2 ob2 => ?_
     simp -implicitDefEqProofs (disch := (first | omega | (simp only [lq4] <;> omega) | fail)) only [admQ, lq4, aFill, AK.cls, implies_true, if_true, if_false, seval, -List.reduceReplicate]
     exact hX (k + 1, pb2) _ _ (by rw [hst']; rfl) (by simp; omega) (fin m2 pb2 T hk2 hp2 (by rw [ob2, hst']; simp only [← hG]))
  ·rw [if_pos g1] at hx1 hst'
   have e1 : [b8 (sb (gb W 1) ^^^ r), b8 (sb (gb W 2)), b8 (sb (gb W 3)), b8 (sb (gb W 0))] = bys T := by rw [hx1]; rfl
   have e2 : splice (bys W) 0 [b8 (sb (gb W 1) ^^^ r), b8 (sb (gb W 2)), b8 (sb (gb W 3)), b8 (sb (gb W 0))] = bys T := by rw [e1]; exact splice_all (by simp [hWl, hTl])
   simp -implicitDefEqProofs (disch := (first | omega | (simp only [lq4] <;> omega) | fail)) only [admQ, lq4, aFill, AK.cls, implies_true, if_true, if_false, seval, -List.reduceReplicate, oc', ob', w1, hsp, ocA, sb_at, e2]
   refine (ans_twice r _).mono ?_
   rintro _ m3 ⟨rfl, rfl⟩
   simp -implicitDefEqProofs (disch := (first | omega | (simp only [lq4] <;> omega) | fail)) only [admQ, lq4, aFill, AK.cls, implies_true, if_true, if_false, seval, -List.reduceReplicate]
   refine new_inner hB hTl (by omega) (own_app ob _) (by simp -implicitDefEqProofs (disch := (first | omega | (simp only [lq4] <;> omega) | fail)) only [admQ, lq4, aFill, AK.cls, implies_true, if_true, if_false, seval, -List.reduceReplicate]) (by have := own_lt ob; omega) fun m2 pb2 hk2 hp2 ob2 => ?_
   simp -implicitDefEqProofs (disch := (first | omega | (simp only [lq4] <;> omega) | fail)) only [admQ, lq4, aFill, AK.cls, implies_true, if_true, if_false, seval, -List.reduceReplicate]
   exact hX (k + 1, pb2) _ _ (by rw [hst']; rfl) (by simp; omega) (fin m2 pb2 T hk2 hp2 (by rw [ob2, hst']; simp only [← hG]))
 ·obtain rfl : k = exN key.length := by omega
  have hE : expand key = B := by rw [expand, hst0]
  have hL : key.length + 4 * exN key.length = (key.length / 4 + 7) * 16 := by omega
  simp -implicitDefEqProofs (disch := (first | omega | (simp only [lq4] <;> omega) | fail)) only [admQ, lq4, aFill, AK.cls, implies_true, if_true, if_false, seval, -List.reduceReplicate]
  rw [hL] at hB ⊢
  have hN2 : 2 ≤ key.length / 4 + 7 ∧ key.length / 4 + 7 ≤ 100 := by omega
  rw [← hE] at ob hB
  generalize hNn : key.length / 4 + 7 = N at *
  generalize hEe : expand key = E at *
  clear hst hst0 hX hlt hkn oc' ob' hL hN hE
  refine LoopW.on (fun s : Nat × Nat => [(5, .ptr m1.length 0), (6, .sl pb (s.1 * 16) (N * 16 - s.1 * 16) (N * 16 - s.1 * 16) 1)]) (fun s => N - s.1)
   (fun s m2 => s.1 ≤ N ∧ Kept [] m m2 ∧ own m2 pb = some (bys E) ∧ (s.1 = 0 ∧ own m2 m1.length = some (.nils :: bys sboxL) ∨ 0 < s.1 ∧ own m2 m1.length = some (.sl s.2 0 s.1 s.1 16 :: bys sboxL) ∧ own m2 s.2 = some (bys (E.take (s.1 * 16))) ∧ m1.length < s.2 ∧ s.2 ≠ pb)) ?_ (0, 0) _ _ rfl ⟨by omega, hk', ob, .inl ⟨rfl, oc⟩⟩
  clear ob oc hk'
  rintro ⟨q, kb⟩ m2 X2 ⟨hq, hk2, ob, hc⟩ hX2
  dsimp only at hq ob hc hX2 ⊢
  have obA := fun e => rowOf_own (own_app ob e)
  have hlc : m1.length < m2.length := by rcases hc with ⟨_, h⟩ | ⟨_, h, _⟩ <;> exact own_lt h
  have hlb := own_lt ob
  have hsw : ∀ v w : AV, splice (v :: bys sboxL) 0 [w] = w :: bys sboxL := fun v w => by rw [splice_zero, splice_nil]
  by_cases hlt : q < N
  ·have hch : List.take 16 (List.drop (q * 16) (bys E)) = bys (keyAt E q) := keyAt_bys E q
   have hcl : (keyAt E q).length = 16 := keyAt_len (n := N) (by omega) hlt
   have hnx : q * 16 + 16 = (q + 1) * 16 := by omega
   have hny : N * 16 - q * 16 - 16 = N * 16 - (q + 1) * 16 := by omega
   have htk : E.take ((q + 1) * 16) = E.take (q * 16) ++ keyAt E q := by rw [← hnx, List.take_add]; rfl
   rcases hc with ⟨rfl, oc⟩ | ⟨h0, oc, ok, hkb, hkp⟩
   ·have hg := appS_nils1 (m := m2) (size := 16) (bytes := 16) (l2 := bys (keyAt E 0)) (by simpa using hcl) (by omega)
    have ocA := fun e => own_app oc e
    have hsA := fun e b => set_app hlc e b
    have hch0 : List.take 16 (bys E) = bys (keyAt E 0) := by simpa using hch
    simp -implicitDefEqProofs (disch := (first | omega | (simp only [lq4] <;> omega) | fail)) only [admQ, lq4, aFill, AK.cls, implies_true, if_true, if_false, seval, -List.reduceReplicate, rowOf_own oc, rowOf_own ob, hch0, hg, hsw, ocA, rowOf_own (ocA _), hsA]
    refine hX2 (1, m2.length + 1) _ _ rfl (by simp; omega) ⟨by simp; omega, ?_, ?_, .inr ⟨by simp, ?_, ?_, by simp; omega, by simp; omega⟩⟩
    ·exact (hk2.write (.inr hm1) _).more_app _
    ·exact own_app (own_set_ne' ob (by omega) _) _
    ·exact own_app (own_set hlc _) _
    ·simp -implicitDefEqProofs (disch := (first | omega | (simp only [lq4] <;> omega) | fail)) only [admQ, lq4, aFill, AK.cls, implies_true, if_true, if_false, seval, -List.reduceReplicate]
     simp [keyAt]
   ·have hkl := own_lt ok
    have hg := appS_grow1 (m := m2) (b := kb) (n := q) (size := 16) (bytes := 16) (l := bys (E.take (q * 16))) (l2 := bys (keyAt E q)) ok (by simp; omega) (by omega) (by simpa using hcl) (by omega)
    have ocA := fun e => own_app (own_set_ne' oc (show kb ≠ m1.length by omega) .dead) e
    have ocB := fun e => own_app oc e
    have hsA := fun e b => set_app (m := m2.set kb .dead) (by simpa using hlc) e b
    simp -implicitDefEqProofs (disch := (first | omega | (simp only [lq4] <;> omega) | fail)) only [admQ, lq4, aFill, AK.cls, implies_true, if_true, if_false, seval, -List.reduceReplicate, rowOf_own oc, rowOf_own ob, hch, hg, hsw, ocA, rowOf_own (ocA _), hsA, rowOf_own (ocB _), hnx, hny]
    refine hX2 (q + 1, m2.length + 1) _ _ rfl (by simp; omega) ⟨by simp; omega, ?_, ?_, .inr ⟨by simp, ?_, ?_, by simp; omega, by simp; omega⟩⟩
    ·exact ((hk2.write (.inr (by omega)) _).write (.inr hm1) _).more_app _
    ·exact own_app (own_set_ne' (own_set_ne' ob hkp _) (by omega) _) _
    ·exact own_app (own_set (by simpa using hlc) _) _
    ·simp -implicitDefEqProofs (disch := (first | omega | (simp only [lq4] <;> omega) | fail)) only [admQ, lq4, aFill, AK.cls, implies_true, if_true, if_false, seval, -List.reduceReplicate, htk, List.map_append]
  ·obtain rfl : q = N := by omega
   rcases hc with ⟨rfl, oc⟩ | ⟨h0, oc, ok, hkb, hkp⟩
   ·omega
   ·simp -implicitDefEqProofs (disch := (first | omega | (simp only [lq4] <;> omega) | fail)) only [admQ, lq4, aFill, AK.cls, implies_true, if_true, if_false, seval, -List.reduceReplicate]
    refine ⟨m1.length, kb, rfl, hk2, hm1, by omega, ?_⟩
    rw [hEe, hNn]
    exact ⟨rowOf_own oc, by rw [List.take_of_length_le (by omega)] at ok; exact rowOf_own ok, hB, hN2⟩
theorem ans_new {m : Mem} {x : AV} {key : List B8} (hx : RdB m x key) (hk : keyOk key.length) : Ans Tryz.prog 25 [x] m fun r m' =>
  ∃ c kb, r = .tup [.ptr c 0, .int .i64 0] ∧ Kept [] m m' ∧ m.length ≤ c ∧ m.length ≤ kb ∧ Ciph m' c kb (key.length / 4 + 7) (expand key) := by
 refine ans_ret mixed ok25 ?_
 have hlen : key.length = 16 ∨ key.length = 24 ∨ key.length = 32 := hk
 have e16 : key.length = 16 → ((key.length : Int) == 16) = true := fun h => by rw [h]; rfl
 have e24 : key.length = 24 → ((key.length : Int) == 16) = false ∧ ((key.length : Int) == 24) = true := fun h => by rw [h]; exact ⟨rfl, rfl⟩
 have e32 : key.length = 32 → ((key.length : Int) == 16) = false ∧ ((key.length : Int) == 24) = false ∧ ((key.length : Int) == 32) = true := fun h => by rw [h]; exact ⟨rfl, rfl, rfl⟩
 rcases hlen with h | h | h
 ·rw [newCode]
  simp -implicitDefEqProofs (disch := (first | omega | (simp only [lq4] <;> omega) | fail)) only [admQ, lq4, aFill, AK.cls, implies_true, if_true, if_false, seval, -List.reduceReplicate, hdC, tlC, c25, hx.len, e16 h]
  exact ans_new_go hx hk
 ·rw [newCode]
  simp -implicitDefEqProofs (disch := (first | omega | (simp only [lq4] <;> omega) | fail)) only [admQ, lq4, aFill, AK.cls, implies_true, if_true, if_false, seval, -List.reduceReplicate, hdC, tlC, c25, hx.len, e24 h]
  exact ans_new_go hx hk
 ·rw [newCode]
  simp -implicitDefEqProofs (disch := (first | omega | (simp only [lq4] <;> omega) | fail)) only [admQ, lq4, aFill, AK.cls, implies_true, if_true, if_false, seval, -List.reduceReplicate, hdC, tlC, c25, hx.len, e32 h]
  exact ans_new_go hx hk
end Go.Proofs.YtoegmnnecanhfaaGreatDoor
end
section
namespace Go.Proofs.YtoegmnnecanhfaaGreatDoor
open Go Go.Adm
set_option maxRecDepth 100000
theorem all256 {P : B8 → Prop} (h : ∀ n, n < 256 → P (BitVec.ofNat 8 n)) (b : B8) : P b := by
 have := h b.toNat b.isLt
 rwa [BitVec.ofNat_toNat, BitVec.setWidth_eq] at this
theorem hi_bit (a : B8) : a &&& 128#8 = 0#8 ∨ a &&& 128#8 = 128#8 :=
 all256 (P := fun a => a &&& 128#8 = 0#8 ∨ a &&& 128#8 = 128#8) (by decide +kernel) a
theorem tw_xor (a b : B8) : tw (a ^^^ b) = tw a ^^^ tw b := by
 have e : (a ^^^ b) &&& 128#8 = (a &&& 128#8) ^^^ (b &&& 128#8) := by
  ext i; simp; cases a[i] <;> cases b[i] <;> cases (128#8)[i] <;> rfl
 have s : (a ^^^ b) <<< 1 = a <<< 1 ^^^ b <<< 1 := BitVec.shiftLeft_xor_distrib ..
 have x1 : ∀ u v w : B8, u ^^^ v ^^^ w = u ^^^ w ^^^ v := fun u v w => by rw [BitVec.xor_assoc, BitVec.xor_comm v, ← BitVec.xor_assoc]
 have x2 : ∀ u v w : B8, u ^^^ w ^^^ (v ^^^ w) = u ^^^ v := fun u v w => by
  rw [BitVec.xor_comm v, ← BitVec.xor_assoc, BitVec.xor_assoc u, BitVec.xor_self, BitVec.xor_zero]
 unfold tw
 rw [e, s]
 rcases hi_bit a with h1 | h1 <;> rcases hi_bit b with h2 | h2 <;> rw [h1, h2]
 ·simp
 ·simp [BitVec.xor_assoc]
 ·simp [x1]
 ·simp [x2]
def col (x : B8 × B8 × B8 × B8) : B8 × B8 × B8 × B8 :=
  (x.1 ^^^ (x.1 ^^^ x.2.1 ^^^ x.2.2.1 ^^^ x.2.2.2) ^^^ tw (x.1 ^^^ x.2.1), x.2.1 ^^^ (x.1 ^^^ x.2.1 ^^^ x.2.2.1 ^^^ x.2.2.2) ^^^ tw (x.2.1 ^^^ x.2.2.1),
   x.2.2.1 ^^^ (x.1 ^^^ x.2.1 ^^^ x.2.2.1 ^^^ x.2.2.2) ^^^ tw (x.2.2.1 ^^^ x.2.2.2), x.2.2.2 ^^^ (x.1 ^^^ x.2.1 ^^^ x.2.2.1 ^^^ x.2.2.2) ^^^ tw (x.2.2.2 ^^^ x.1))
theorem xor_cancel (x y : B8) : x ^^^ (x ^^^ y) = y := by rw [← BitVec.xor_assoc, BitVec.xor_self, BitVec.zero_xor]
theorem xor_lc (x y z : B8) : x ^^^ (y ^^^ z) = y ^^^ (x ^^^ z) := by rw [← BitVec.xor_assoc, BitVec.xor_comm x, BitVec.xor_assoc]
def colOf (s : List B8) (q : Nat) : B8 × B8 × B8 × B8 := (gb s (4 * q), gb s (4 * q + 1), gb s (4 * q + 2), gb s (4 * q + 3))
theorem mix_col {s : List B8} {q : Nat} (hq : q < 4) : colOf (mixB s) q = col (colOf s q) := by
 have e : ∀ i, i < 4 → gb (mixB s) (4 * q + i) = mixC s (4 * q + i) := fun i hi => gb_tab _ (by omega)
 have e0 := e 0 (by omega)
 rw [Nat.add_zero] at e0
 simp only [colOf, col, e0, e 1 (by omega), e 2 (by omega), e 3 (by omega), mixC]
 simp only [show 4 * q / 4 = q by omega, show (4 * q + 1) / 4 = q by omega, show (4 * q + 2) / 4 = q by omega, show (4 * q + 3) / 4 = q by omega,
  show (4 * q % 4 + 1) % 4 = 1 by omega, show ((4 * q + 1) % 4 + 1) % 4 = 2 by omega, show ((4 * q + 2) % 4 + 1) % 4 = 3 by omega, show ((4 * q + 3) % 4 + 1) % 4 = 0 by omega, Nat.add_zero]
end Go.Proofs.YtoegmnnecanhfaaGreatDoor
end
section
namespace Go.Proofs.YtoegmnnecanhfaaGreatDoor
open Go Go.Adm
set_option linter.unusedSimpArgs false
set_option maxRecDepth 100000
def timesTo (a b : B8) : Nat → B8 × B8
 | 0 => (0#8, b)
 | i + 1 => (if (a >>> i).toNat % 2 = 1 then (timesTo a b i).1 ^^^ (timesTo a b i).2 else (timesTo a b i).1, tw (timesTo a b i).2)
def times (a b : B8) : B8 := (timesTo a b 8).1
def invF (b : B8) : Nat → Nat → B8
 | 0, _ => 0#8
 | k + 1, x => if times (BitVec.ofNat 8 x) b = 1#8 then BitVec.ofNat 8 x else invF b k (x + 1)
def inv (b : B8) : B8 := invF b 255 1
def rSo (x : B8) : Nat → B8
 | 0 => x ^^^ 99#8
 | n + 1 => rSo x n ^^^ (x <<< (n + 1) ||| x >>> (8 - (n + 1)))
def rS (b : B8) : B8 := rSo (inv b) 4
def xtG (b : Nat) : Nat := cond (Nat.blt b 128) (2 * b) (Nat.xor (2 * b - 256) 27)
def timesG : Nat → Nat → Nat → Nat → Nat
 | 0, _, _, o => o
 | k + 1, a, b, o => timesG k (a / 2) (xtG b) (cond (Nat.beq (a % 2) 1) (Nat.xor o b) o)
def invG (b : Nat) : Nat → Nat → Nat
 | 0, _ => 0
 | k + 1, x => cond (Nat.beq (timesG 8 x b 0) 1) x (invG b k (x + 1))
def invT : List Nat := [0, 1, 141, 246, 203, 82, 123, 209, 232, 79, 41, 192, 176, 225, 229, 199, 116, 180, 170, 75, 153, 43, 96, 95, 88, 63, 253, 204, 255, 64, 238, 178, 58, 110, 90, 241, 85, 77, 168, 201, 193, 10, 152, 21, 48, 68, 162, 194, 44, 69, 146, 108, 243, 57, 102, 66, 242, 53, 32, 111, 119, 187, 89, 25, 29, 254, 55, 103, 45, 49, 245, 105, 167, 100, 171, 19, 84, 37, 233, 9, 237, 92, 5, 202, 76, 36, 135, 191, 24, 62, 34, 240, 81, 236, 97, 23, 22, 94, 175, 211, 73, 166, 54, 67, 244, 71, 145, 223, 51, 147, 33, 59, 121, 183, 151, 133, 16, 181, 186, 60, 182, 112, 208, 6, 161, 250, 129, 130, 131, 126, 127, 128, 150, 115, 190, 86, 155, 158, 149, 217, 247, 2, 185, 164, 222, 106, 50, 109, 216, 138, 132, 114, 42, 20, 159, 136, 249, 220, 137, 154, 251, 124, 46, 195, 143, 184, 101, 72, 38, 200, 18, 74, 206, 231, 210, 98, 12, 224, 31, 239, 17, 117, 120, 113, 165, 142, 118, 61, 189, 188, 134, 87, 11, 40, 47, 163, 218, 212, 228, 15, 169, 39, 83, 4, 27, 252, 172, 230, 122, 7, 174, 99, 197, 219, 226, 234, 148, 139, 196, 213, 157, 248, 144, 107, 177, 13, 214, 235, 198, 14, 207, 173, 8, 78, 215, 227, 93, 80, 30, 179, 91, 35, 56, 52, 104, 70, 3, 140, 221, 156, 125, 160, 205, 26, 65, 28]
theorem invG_all : ∀ n, n < 256 → invG n 255 1 = invT.getD n 0 := by decide +kernel
theorem tw_toNat (b : B8) : (tw b).toNat = xtG b.toNat := all256 (P := fun b => (tw b).toNat = xtG b.toNat) (by decide +kernel) b
theorem timesG_eq (a b : B8) (k i : Nat) : timesG k (a.toNat / 2 ^ i) (timesTo a b i).2.toNat (timesTo a b i).1.toNat = (timesTo a b (i + k)).1.toNat := by
 induction k generalizing i with
 | zero => rfl
 | succ k ih =>
  have e := ih (i + 1)
  rw [show i + 1 + k = i + (k + 1) by omega] at e
  rw [← e, timesG, Nat.div_div_eq_div_mul, ← Nat.pow_succ]
  have e1 : (timesTo a b (i + 1)).2.toNat = xtG (timesTo a b i).2.toNat := by rw [timesTo, tw_toNat]
  have e2 : (timesTo a b (i + 1)).1.toNat = cond (Nat.beq (a.toNat / 2 ^ i % 2) 1) (Nat.xor (timesTo a b i).1.toNat (timesTo a b i).2.toNat) (timesTo a b i).1.toNat := by
   have es : (a >>> i).toNat = a.toNat / 2 ^ i := by rw [BitVec.toNat_ushiftRight, Nat.shiftRight_eq_div_pow]
   rw [timesTo]
   dsimp only
   rw [es]
   by_cases h : a.toNat / 2 ^ i % 2 = 1
   ·rw [if_pos h, h]; rfl
   ·rw [if_neg h, show Nat.beq (a.toNat / 2 ^ i % 2) 1 = false by rw [show a.toNat / 2 ^ i % 2 = 0 by omega]; rfl]; rfl
  rw [e1, e2]
theorem times_eq (a b : B8) : (times a b).toNat = timesG 8 a.toNat b.toNat 0 := by
 have := timesG_eq a b 8 0
 rw [Nat.pow_zero, Nat.div_one] at this
 exact this.symm
theorem nbeq {a b : Nat} (h : ¬ a = b) : Nat.beq a b = false := by
 cases e : Nat.beq a b
 ·rfl
 ·exact absurd (Nat.eq_of_beq_eq_true e) h
theorem invF_eq (b : B8) (k x : Nat) (h : x + k ≤ 256) : invF b k x = BitVec.ofNat 8 (invG b.toNat k x) := by
 induction k generalizing x with
 | zero => rfl
 | succ k ih =>
  rw [invF, invG, ih (x + 1) (by omega)]
  have e := times_eq (BitVec.ofNat 8 x) b
  rw [BitVec.toNat_ofNat, Nat.mod_eq_of_lt (by omega)] at e
  by_cases h1 : times (BitVec.ofNat 8 x) b = 1#8
  ·rw [if_pos h1, show timesG 8 x b.toNat 0 = 1 by rw [← e, h1]; rfl]; rfl
  ·have h2 : ¬ timesG 8 x b.toNat 0 = 1 := fun h => h1 (BitVec.eq_of_toNat_eq (by rw [e, h]; rfl))
   rw [if_neg h1, nbeq h2]; rfl
theorem rS_tab : ∀ n, n < 256 → rSo (BitVec.ofNat 8 (invT.getD n 0)) 4 = sb (BitVec.ofNat 8 n) := by decide +kernel
theorem rS_sb (b : B8) : rS b = sb b :=
 all256 (P := fun b => rS b = sb b) (fun n hn => by
  rw [rS, inv, invF_eq _ _ _ (by omega), BitVec.toNat_ofNat, Nat.mod_eq_of_lt hn, invG_all n hn, rS_tab n hn]) b
end Go.Proofs.YtoegmnnecanhfaaGreatDoor
end
section
namespace Go.Proofs.YtoegmnnecanhfaaGreatDoor
open Go Go.Adm
set_option linter.unusedSimpArgs false
set_option maxRecDepth 100000
theorem ge128 (b : B8) : (b &&& 128#8 = 0#8) ↔ ¬ (b.toNat : Int) ≥ 128 :=
 all256 (P := fun b => (b &&& 128#8 = 0#8) ↔ ¬ (b.toNat : Int) ≥ 128) (by decide +kernel) b
theorem ans_rtwice (b : B8) (m : Mem) : Ans Tryz.prog 81 [b8 b] m fun r m' => r = b8 (tw b) ∧ m' = m := by
 refine ans_ret mixed ok81 ?_
 unfold tw
 by_cases h : b &&& 128#8 = 0#8
 ·have h' := (ge128 b).mp h
  simp -implicitDefEqProofs (disch := (first | omega | (simp only [lenB] <;> omega) | fail)) only [admQ, lenB, aFill, AK.cls, implies_true, if_true, if_false, seval, -List.reduceReplicate, c81, r81, h]
 ·have h' : (b.toNat : Int) ≥ 128 := Decidable.byContradiction fun e => h ((ge128 b).mpr e)
  simp -implicitDefEqProofs (disch := (first | omega | (simp only [lenB] <;> omega) | fail)) only [admQ, lenB, aFill, AK.cls, implies_true, if_true, if_false, seval, -List.reduceReplicate, c81, r81, h]
theorem ans_rtimes (a b : B8) (m : Mem) : Ans Tryz.prog 118 [b8 a, b8 b] m fun r m' => r = b8 (times a b) ∧ m' = m := by
 refine ans_ret mixed ok118 ?_
 simp -implicitDefEqProofs (disch := (first | omega | (simp only [lenB] <;> omega) | fail)) only [admQ, lenB, aFill, AK.cls, implies_true, if_true, if_false, seval, -List.reduceReplicate, c118, r118]
 refine LoopW.on (fun i : Nat => [(0, b8 a), (1, b8 (timesTo a b i).2), (5, b8 (timesTo a b i).1), (6, .int .i64 i)]) (fun i => 8 - i) (fun i m' => i ≤ 8 ∧ m' = m) ?_ 0 _ _ rfl ⟨by omega, rfl⟩
 rintro i m' X ⟨hi, rfl⟩ hX
 have e : timesTo a b (i + 1) = (if (a >>> i).toNat % 2 = 1 then (timesTo a b i).1 ^^^ (timesTo a b i).2 else (timesTo a b i).1, tw (timesTo a b i).2) := rfl
 have hX' := fun t' m' => hX (i + 1) t' m'
 rw [e] at hX'
 by_cases hlt : i < 8
 ·generalize timesTo a b i = p at *
  by_cases h : (a >>> i).toNat % 2 = 1
  ·rw [if_pos h] at hX'
   simp -implicitDefEqProofs (disch := (first | omega | (simp only [lenB] <;> omega) | fail)) only [admQ, lenB, aFill, AK.cls, implies_true, if_true, if_false, seval, -List.reduceReplicate, wrap_u64]
   refine (ans_rtwice _ _).mono ?_
   rintro _ m1 ⟨rfl, rfl⟩
   simp -implicitDefEqProofs (disch := (first | omega | (simp only [lenB] <;> omega) | fail)) only [admQ, lenB, aFill, AK.cls, implies_true, if_true, if_false, seval, -List.reduceReplicate]
   exact hX' _ _ rfl (by omega) ⟨by omega, rfl⟩
  ·rw [if_neg h] at hX'
   simp -implicitDefEqProofs (disch := (first | omega | (simp only [lenB] <;> omega) | fail)) only [admQ, lenB, aFill, AK.cls, implies_true, if_true, if_false, seval, -List.reduceReplicate, wrap_u64]
   refine (ans_rtwice _ _).mono ?_
   rintro _ m1 ⟨rfl, rfl⟩
   simp -implicitDefEqProofs (disch := (first | omega | (simp only [lenB] <;> omega) | fail)) only [admQ, lenB, aFill, AK.cls, implies_true, if_true, if_false, seval, -List.reduceReplicate]
   exact hX' _ _ rfl (by omega) ⟨by omega, rfl⟩
 ·obtain rfl : i = 8 := by omega
  simp -implicitDefEqProofs (disch := (first | omega | (simp only [lenB] <;> omega) | fail)) only [admQ, lenB, aFill, AK.cls, implies_true, if_true, if_false, seval, -List.reduceReplicate]
  rfl
theorem ans_rinverse (b : B8) (m : Mem) : Ans Tryz.prog 113 [b8 b] m fun r m' => r = b8 (inv b) ∧ m' = m := by
 refine ans_ret mixed ok113 ?_
 simp -implicitDefEqProofs (disch := (first | omega | (simp only [lenB] <;> omega) | fail)) only [admQ, lenB, aFill, AK.cls, implies_true, if_true, if_false, seval, -List.reduceReplicate, c113, r113]
 refine LoopW.on (fun x : Nat => [(0, b8 b), (3, .int .i64 x)]) (fun x => 256 - x) (fun x m' => x ≤ 256 ∧ m' = m ∧ inv b = invF b (256 - x) x) ?_ 1 _ _ rfl ⟨by omega, rfl, rfl⟩
 rintro x m' X ⟨hx, rfl, hv⟩ hX
 by_cases hlt : x < 256
 ·simp -implicitDefEqProofs (disch := (first | omega | (simp only [lenB] <;> omega) | fail)) only [admQ, lenB, aFill, AK.cls, implies_true, if_true, if_false, seval, -List.reduceReplicate, wrap_u8]
  refine (ans_rtimes _ _ _).mono ?_
  rintro _ m1 ⟨rfl, rfl⟩
  rw [show 256 - x = 255 - x + 1 by omega, invF] at hv
  cases h : times (BitVec.ofNat 8 x) b == 1#8
  ·rw [if_neg (by simpa using h)] at hv
   simp -implicitDefEqProofs (disch := (first | omega | (simp only [lenB] <;> omega) | fail)) only [admQ, lenB, aFill, AK.cls, implies_true, if_true, if_false, seval, -List.reduceReplicate, h, beql_u8 (show 1 < 2 ^ 8 by decide)]
   exact hX (x + 1) _ _ rfl (by omega) ⟨by omega, rfl, by rw [hv, show 256 - (x + 1) = 255 - x by omega]⟩
  ·rw [if_pos (by simpa using h)] at hv
   simp -implicitDefEqProofs (disch := (first | omega | (simp only [lenB] <;> omega) | fail)) only [admQ, lenB, aFill, AK.cls, implies_true, if_true, if_false, seval, -List.reduceReplicate, h, beql_u8 (show 1 < 2 ^ 8 by decide), wrap_u8, hv]
 ·obtain rfl : x = 256 := by omega
  rw [Nat.sub_self, invF] at hv
  simp -implicitDefEqProofs (disch := (first | omega | (simp only [lenB] <;> omega) | fail)) only [admQ, lenB, aFill, AK.cls, implies_true, if_true, if_false, seval, -List.reduceReplicate, hv]
  rfl
theorem ans_rS (b : B8) (m : Mem) : Ans Tryz.prog 99 [b8 b] m fun r m' => r = b8 (sb b) ∧ m' = m := by
 refine ans_ret mixed ok99 ?_
 simp -implicitDefEqProofs (disch := (first | omega | (simp only [lenB] <;> omega) | fail)) only [admQ, lenB, aFill, AK.cls, implies_true, if_true, if_false, seval, -List.reduceReplicate, c99, r99]
 refine (ans_rinverse b _).mono ?_
 rintro _ m1 ⟨rfl, rfl⟩
 simp -implicitDefEqProofs (disch := (first | omega | (simp only [lenB] <;> omega) | fail)) only [admQ, lenB, aFill, AK.cls, implies_true, if_true, if_false, seval, -List.reduceReplicate]
 refine LoopW.on (fun n : Nat => [(3, b8 (inv b)), (4, b8 (rSo (inv b) n)), (5, .int .u64 ((n + 1 : Nat) : Int))]) (fun n => 4 - n) (fun n m' => n ≤ 4 ∧ m' = m1) ?_ 0 _ _ rfl ⟨by omega, rfl⟩
 rintro n m' X ⟨hn, rfl⟩ hX
 have e : rSo (inv b) (n + 1) = rSo (inv b) n ^^^ (inv b <<< (n + 1) ||| inv b >>> (8 - (n + 1))) := rfl
 by_cases hlt : n < 4
 ·have hX' := fun t' m' => hX (n + 1) t' m'
  rw [e] at hX'
  simp -implicitDefEqProofs (disch := (first | omega | (simp only [lenB] <;> omega) | fail)) only [admQ, lenB, aFill, AK.cls, implies_true, if_true, if_false, seval, -List.reduceReplicate, wrap_u64, -Nat.reduceSubDiff]
  exact hX' _ _ rfl (by omega) ⟨by omega, rfl⟩
 ·obtain rfl : n = 4 := by omega
  have h4 : rSo (inv b) 4 = sb b := rS_sb b
  simp -implicitDefEqProofs (disch := (first | omega | (simp only [lenB] <;> omega) | fail)) only [admQ, lenB, aFill, AK.cls, implies_true, if_true, if_false, seval, -List.reduceReplicate, h4]
def sbU (n : Nat) : List B8 := tab n fun i => sb (BitVec.ofNat 8 i)
theorem sbU_len (n : Nat) : (sbU n).length = n := tab_len _ _
theorem sbU_all : sbU 256 = sboxL := by decide +kernel
theorem ans_rTable (m : Mem) : Ans Tryz.prog 80 [] m fun r m' => ∃ p, r = .sl p 0 256 256 1 ∧ Kept [] m m' ∧ m.length ≤ p ∧ own m' p = some (bys sboxL) := by
 refine ans_ret mixed ok80 ?_
 simp -implicitDefEqProofs (disch := (first | omega | (simp only [lenB] <;> omega) | fail)) only [admQ, lenB, aFill, AK.cls, implies_true, if_true, if_false, seval, -List.reduceReplicate, c80, r80]
 refine LoopW.on (fun s : Nat × AV => [(1, s.2), (2, .int .i64 s.1)]) (fun s => 256 - s.1) (fun s m' => s.1 ≤ 256 ∧ Kept [] m m' ∧ ((s.1 = 0 ∧ s.2 = .nils) ∨ ∃ p, s.2 = .sl p 0 s.1 s.1 1 ∧ m.length ≤ p ∧ own m' p = some (bys (sbU s.1)))) ?_ (0, .nils) _ _ rfl ⟨by omega, .refl _ _, .inl ⟨rfl, rfl⟩⟩
 rintro ⟨i, x⟩ m' X ⟨hi, hk, hx⟩ hX
 dsimp only at hi hx hX ⊢
 have hl := hk.len
 by_cases hlt : i < 256
 ·simp -implicitDefEqProofs (disch := (first | omega | (simp only [lenB] <;> omega) | fail)) only [admQ, lenB, aFill, AK.cls, implies_true, if_true, if_false, seval, -List.reduceReplicate, wrap_u8]
  refine (ans_rS _ _).mono ?_
  rintro _ m1 ⟨rfl, rfl⟩
  have hs : sbU (i + 1) = sbU i ++ [sb (BitVec.ofNat 8 i)] := tab_succ _ _
  rcases hx with ⟨rfl, rfl⟩ | ⟨p, rfl, hp, ho⟩
  ·have hg := app_nils1 (m := m1) (v := sb (BitVec.ofNat 8 0))
   simp -implicitDefEqProofs (disch := (first | omega | (simp only [lenB] <;> omega) | fail)) only [admQ, lenB, aFill, AK.cls, implies_true, if_true, if_false, seval, -List.reduceReplicate, hg]
   exact hX (1, .sl (m1.length + 1) 0 1 1 1) _ _ rfl (by simp) ⟨by simp, hk.more_app _, .inr ⟨_, rfl, by omega, by simp -implicitDefEqProofs (disch := (first | omega | (simp only [lenB] <;> omega) | fail)) only [admQ, lenB, aFill, AK.cls, implies_true, if_true, if_false, seval, -List.reduceReplicate]; rfl⟩⟩
  ·have hg := app_grow1 (v := sb (BitVec.ofNat 8 i)) ho (sbU_len i) (by omega)
   simp -implicitDefEqProofs (disch := (first | omega | (simp only [lenB] <;> omega) | fail)) only [admQ, lenB, aFill, AK.cls, implies_true, if_true, if_false, seval, -List.reduceReplicate, hg]
   exact hX (i + 1, .sl (m1.length + 1) 0 (i + 1) (i + 1) 1) _ _ rfl (by simp; omega) ⟨by simp; omega, (hk.write (.inr hp) _).more_app _, .inr ⟨_, rfl, by omega, by simp -implicitDefEqProofs (disch := (first | omega | (simp only [lenB] <;> omega) | fail)) only [admQ, lenB, aFill, AK.cls, implies_true, if_true, if_false, seval, -List.reduceReplicate, hs]⟩⟩
 ·obtain rfl : i = 256 := by omega
  rcases hx with ⟨h, _⟩ | ⟨p, rfl, hp, ho⟩
  ·cases h
  ·simp -implicitDefEqProofs (disch := (first | omega | (simp only [lenB] <;> omega) | fail)) only [admQ, lenB, aFill, AK.cls, implies_true, if_true, if_false, seval, -List.reduceReplicate]
   exact ⟨p, rfl, hk, hp, by rw [← sbU_all]; exact ho⟩
end Go.Proofs.YtoegmnnecanhfaaGreatDoor
end
section
namespace Go.Proofs.YtoegmnnecanhfaaGreatDoor
open Go Go.Adm
set_option linter.unusedSimpArgs false
set_option maxRecDepth 100000
def wd (B : List B8) (i : Nat) : List B8 := tab 4 fun j => gb B (4 * i + j)
theorem wd_len (B : List B8) (i : Nat) : (wd B i).length = 4 := tab_len _ _
def RW (m : Mem) (cells : List AV) (B : List B8) : Prop := cells.length * 4 = B.length ∧ ∀ i, i < cells.length → ∃ x, cells[i]? = some x ∧ RdB m x (wd B i)
theorem RW.kept0 {m m' : Mem} {cells : List AV} {B : List B8} (h : RW m cells B) (hk : Kept [] m m') : RW m' cells B :=
 ⟨h.1, fun i hi => let ⟨x, h1, h2⟩ := h.2 i hi; ⟨x, h1, h2.kept0 hk⟩⟩
structure RCiph (m : Mem) (c n : Nat) (B : List B8) : Prop where
 ex : ∃ wp tp cells, rowOf m c = some [.sl wp 0 (4 * n) (4 * n) 1, .sl tp 0 256 256 1] ∧ rowOf m wp = some cells ∧ rowOf m tp = some (bys sboxL) ∧ RW m cells B
 len : B.length = n * 16
 pos : 2 ≤ n ∧ n ≤ 100
theorem RCiph.kept0 {m m' : Mem} {c n : Nat} {B : List B8} (h : RCiph m c n B) (hk : Kept [] m m') : RCiph m' c n B := by
 obtain ⟨wp, tp, cells, h1, h2, h3, h4⟩ := h.ex
 exact ⟨⟨wp, tp, cells, hk.row0 h1, hk.row0 h2, hk.row0 h3, h4.kept0 hk⟩, h.len, h.pos⟩
theorem gb_key {B : List B8} {r i : Nat} (hi : i < 16) : gb (keyAt B r) i = gb B (r * 16 + i) := by
 simp only [gb, keyAt, List.getD_eq_getElem?_getD, List.getElem?_take_of_lt hi, List.getElem?_drop]
def lq5 := And.intro @lenB (And.intro @ovr_len (And.intro @mixB_len (And.intro @subs_len (And.intro @runB_len (@wd_len)))))
theorem ans_rover {m : Mem} {c n r : Nat} {B s : List B8} {x : AV} (hc : RCiph m c n B) (hx : RdB m x s) (hs : s.length = 16) (hr : r < n) : Ans Tryz.prog 121 [.ptr c 0, x, .int .i64 r] m fun v m' => Kept [] m m' ∧ GrB m.length m' v (ovr s (keyAt B r)) := by
 refine ans_ret mixed ok121 ?_
 have hn := hc.pos
 obtain ⟨wp, tp, cells, c1, c2, c3, hw, hcw⟩ := hc.ex
 have hB := hc.len
 simp -implicitDefEqProofs (disch := (first | omega | (simp only [lq5] <;> omega) | fail)) only [admQ, lq5, aFill, AK.cls, implies_true, if_true, if_false, seval, -List.reduceReplicate, c121, r121]
 refine LoopW.on (fun s : Nat × AV => [(0, .ptr c 0), (1, x), (2, .int .i64 r), (7, s.2), (8, .int .i64 s.1)]) (fun s => 16 - s.1)
  (fun z m' => z.1 ≤ 16 ∧ Kept [] m m' ∧ GrB m.length m' z.2 ((ovr s (keyAt B r)).take z.1)) ?_ (0, .nils) _ _ rfl ⟨by omega, .refl _ _, GrA.nils _ _ _⟩
 rintro ⟨i, xo⟩ m' X ⟨hi, hk, hg⟩ hX
 dsimp only at hi hg hX ⊢
 by_cases hlt : i < 16
 ·obtain ⟨b1, o1, cap1, s1, d1, rfl, hr1, hg1, hl1, hc1, hs1, ht1⟩ := (hx.kept0 hk).cons (show i < s.length by omega)
  obtain ⟨w, hw1, hw2⟩ := hcw (4 * r + i / 4) (by omega)
  obtain ⟨b2, o2, cap2, s2, d2, rfl, hr2, hg2, hl2, hc2, hs2, ht2⟩ := (hw2.kept0 hk).cons (show i % 4 < (wd B (4 * r + i / 4)).length by rw [wd_len]; omega)
  have e1 := hg1 i (by omega)
  have e2 := hg2 (i % 4) (by rw [wd_len]; omega)
  have e3 : gb s i ^^^ gb (wd B (4 * r + i / 4)) (i % 4) = gb (ovr s (keyAt B r)) i := by
   rw [ovr, gb_tab _ hlt, wd, gb_tab _ (by omega), gb_key hlt, show 4 * (4 * r + i / 4) + i % 4 = r * 16 + i by omega]
  obtain ⟨xo', m2, ha, hg2, hk2, hf2⟩ := hg.push (gb (ovr s (keyAt B r)) i) (by simp [ovr_len]; omega) hk.len
  simp -implicitDefEqProofs (disch := (first | omega | (simp only [lq5] <;> omega) | fail)) only [admQ, lq5, aFill, AK.cls, implies_true, if_true, if_false, seval, -List.reduceReplicate, hr1, e1, hk.row0 c1, hk.row0 c2, hw1, hr2, e2, e3, ha]
  exact hX (i + 1, xo') _ _ rfl (by simp; omega) ⟨by simp; omega, hf2 _ _ hk (Nat.le_refl _), by rw [take_gb (by rw [ovr_len]; omega)]; exact hg2⟩
 ·obtain rfl : i = 16 := by omega
  simp -implicitDefEqProofs (disch := (first | omega | (simp only [lq5] <;> omega) | fail)) only [admQ, lq5, aFill, AK.cls, implies_true, if_true, if_false, seval, -List.reduceReplicate]
  exact ⟨hk, by rwa [List.take_of_length_le (by rw [ovr_len]; omega)] at hg⟩
theorem times2 (b : B8) : times 2#8 b = tw b := all256 (P := fun b => times 2#8 b = tw b) (by decide +kernel) b
theorem times3 (b : B8) : times 3#8 b = b ^^^ tw b := all256 (P := fun b => times 3#8 b = b ^^^ tw b) (by decide +kernel) b
theorem ans_times2 (b : B8) (m : Mem) : Ans Tryz.prog 118 [.int .u8 2, b8 b] m fun r m' => r = b8 (tw b) ∧ m' = m := by
 rw [← times2]; exact ans_rtimes 2#8 b m
theorem ans_times3 (b : B8) (m : Mem) : Ans Tryz.prog 118 [.int .u8 3, b8 b] m fun r m' => r = b8 (b ^^^ tw b) ∧ m' = m := by
 rw [← times3]; exact ans_rtimes 3#8 b m
theorem mix_word (s : List B8) {q : Nat} (hq : q < 4) : (mixB s).take (4 * (q + 1)) = (mixB s).take (4 * q) ++
    [tw (gb s (4 * q)) ^^^ (gb s (4 * q + 1) ^^^ tw (gb s (4 * q + 1))) ^^^ gb s (4 * q + 2) ^^^ gb s (4 * q + 3),
     gb s (4 * q) ^^^ tw (gb s (4 * q + 1)) ^^^ (gb s (4 * q + 2) ^^^ tw (gb s (4 * q + 2))) ^^^ gb s (4 * q + 3),
     gb s (4 * q) ^^^ gb s (4 * q + 1) ^^^ tw (gb s (4 * q + 2)) ^^^ (gb s (4 * q + 3) ^^^ tw (gb s (4 * q + 3))),
     (gb s (4 * q) ^^^ tw (gb s (4 * q))) ^^^ gb s (4 * q + 1) ^^^ gb s (4 * q + 2) ^^^ tw (gb s (4 * q + 3))] := by
  have hc := mix_col (s := s) hq
  simp only [colOf, col, Prod.mk.injEq, tw_xor] at hc
  obtain ⟨h0, h1, h2, h3⟩ := hc
  have e : 4 * (q + 1) = 4 * q + 1 + 1 + 1 + 1 := by omega
  rw [e, take_gb (by rw [mixB_len]; omega), take_gb (by rw [mixB_len]; omega), take_gb (by rw [mixB_len]; omega), take_gb (by rw [mixB_len]; omega)]
  rw [h0, h1, show 4 * q + 1 + 1 = 4 * q + 2 by omega, h2, show 4 * q + 1 + 1 + 1 = 4 * q + 3 by omega, h3]
  simp only [List.append_assoc, List.cons_append, List.nil_append, List.append_cancel_left_eq, List.cons.injEq, and_true]
  refine ⟨?_, ?_, ?_, ?_⟩ <;>
    simp only [BitVec.xor_assoc, BitVec.xor_comm, xor_lc, xor_cancel, BitVec.xor_self, BitVec.xor_zero, BitVec.zero_xor]
theorem ans_rmixed {m : Mem} {s : List B8} {x : AV} (hx : RdB m x s) (hs : s.length = 16) : Ans Tryz.prog 122 [x] m fun v m' => Kept [] m m' ∧ GrB m.length m' v (mixB s) := by
 refine ans_ret mixed ok122 ?_
 simp -implicitDefEqProofs (disch := (first | omega | (simp only [lq5] <;> omega) | fail)) only [admQ, lq5, aFill, AK.cls, implies_true, if_true, if_false, seval, -List.reduceReplicate, c122, r122]
 refine LoopW.on (fun s : Nat × AV => [(0, x), (3, s.2), (4, .int .i64 s.1)]) (fun s => 4 - s.1)
  (fun z m' => z.1 ≤ 4 ∧ Kept [] m m' ∧ GrB m.length m' z.2 ((mixB s).take (4 * z.1))) ?_ (0, .nils) _ _ rfl ⟨by omega, .refl _ _, GrA.nils _ _ _⟩
 rintro ⟨q, xo⟩ m' X ⟨hq, hk, hg⟩ hX
 dsimp only at hq hg hX ⊢
 by_cases hlt : q < 4
 ·obtain ⟨b1, o1, cap1, s1, d1, rfl, hr1, hg1, hl1, hc1, hs1, ht1⟩ := (hx.kept0 hk).cons (show 0 < s.length by omega)
  have e0 := hg1 (4 * q) (by omega)
  have e1 := hg1 (4 * q + 1) (by omega)
  have e2 := hg1 (4 * q + 2) (by omega)
  have e3 := hg1 (4 * q + 3) (by omega)
  simp -implicitDefEqProofs (disch := (first | omega | (simp only [lq5] <;> omega) | fail)) only [admQ, lq5, aFill, AK.cls, implies_true, if_true, if_false, seval, -List.reduceReplicate, hr1, e0, e1, e2, e3]
  iterate 8
   first
    | refine (ans_times2 _ _).mono ?_
    | refine (ans_times3 _ _).mono ?_
   rintro _ _ ⟨rfl, rfl⟩
   simp -implicitDefEqProofs (disch := (first | omega | (simp only [lq5] <;> omega) | fail)) only [admQ, lq5, aFill, AK.cls, implies_true, if_true, if_false, seval, -List.reduceReplicate]
  have hmw := mix_word s hlt
  rename_i M
  generalize tw (gb s (4 * q)) ^^^ (gb s (4 * q + 1) ^^^ tw (gb s (4 * q + 1))) ^^^ gb s (4 * q + 2) ^^^ gb s (4 * q + 3) = v0 at hmw ⊢
  generalize gb s (4 * q) ^^^ tw (gb s (4 * q + 1)) ^^^ (gb s (4 * q + 2) ^^^ tw (gb s (4 * q + 2))) ^^^ gb s (4 * q + 3) = v1 at hmw ⊢
  generalize gb s (4 * q) ^^^ gb s (4 * q + 1) ^^^ tw (gb s (4 * q + 2)) ^^^ (gb s (4 * q + 3) ^^^ tw (gb s (4 * q + 3))) = v2 at hmw ⊢
  generalize gb s (4 * q) ^^^ tw (gb s (4 * q)) ^^^ gb s (4 * q + 1) ^^^ gb s (4 * q + 2) ^^^ tw (gb s (4 * q + 3)) = v3 at hmw ⊢
  obtain ⟨xo', m2, ha, hg2, hk2, hf2⟩ := GrB.pushs (hg.kept0 (.app [] M [.row (bys [v0, v1, v2, v3]) false])) (RdB.row (l := [v0, v1, v2, v3]) (b := M.length) 4 0 (by rw [rowOf_app_at0]; rfl) (by simp)) (by simp [mixB_len]; omega) (by have := hk.len; simp; omega)
  have ha' : aAppend 1 1 xo (.sl M.length 0 4 4 0) (M ++ [.row [b8 v0, b8 v1, b8 v2, b8 v3] false]) = some (xo', m2) := ha
  simp -implicitDefEqProofs (disch := (first | omega | (simp only [lq5] <;> omega) | fail)) only [admQ, lq5, aFill, AK.cls, implies_true, if_true, if_false, seval, -List.reduceReplicate, ha']
  exact hX (q + 1, xo') _ _ rfl (by simp; omega) ⟨by simp; omega, hf2 _ _ (hk.more_app _) (Nat.le_refl _), by rw [hmw]; exact hg2⟩
 ·obtain rfl : q = 4 := by omega
  simp -implicitDefEqProofs (disch := (first | omega | (simp only [lq5] <;> omega) | fail)) only [admQ, lq5, aFill, AK.cls, implies_true, if_true, if_false, seval, -List.reduceReplicate]
  exact ⟨hk, by rwa [List.take_of_length_le (by rw [mixB_len]; omega)] at hg⟩
theorem subs_alt {S : List B8} {i : Nat} (hi : i < 16) : sb (gb S (4 * ((i / 4 + i % 4) % 4) + i % 4)) = gb (subs S) i := by
 rw [subs, gb_tab _ hi, show 4 * ((i / 4 + i % 4) % 4) + i % 4 = (i + 4 * (i % 4)) % 16 by omega]
theorem ans_rblock {m : Mem} {c n : Nat} {B : List B8} (hc : RCiph m c n B) (b : List B8) (hb : b.length = 16) : Ans Tryz.prog 120 [.ptr c 0, .agg (bys b)] m fun r m' => r = .agg (bys (blockB B n b)) ∧ Kept [] m m' := by
 refine ans_ret mixed ok120 ?_
 have hn := hc.pos
 have hB := hc.len
 simp -implicitDefEqProofs (disch := (first | omega | (simp only [lq5] <;> omega) | fail)) only [admQ, lq5, aFill, AK.cls, implies_true, if_true, if_false, seval, -List.reduceReplicate, c120, r120]
 have ha := app_new (m := m ++ [.row (bys b) false, .row (bys (List.replicate 16 0#8)) false, .row [] false]) (x := .sl m.length 0 16 16 0) (b := m.length + 1 + 1) (s := 0) (l := b) (by rw [← hb]; exact RdB.row (l := b) b.length 0 (by simp -implicitDefEqProofs (disch := (first | omega | (simp only [lq5] <;> omega) | fail)) only [admQ, lq5, aFill, AK.cls, implies_true, if_true, if_false, seval, -List.reduceReplicate]) (Nat.le_refl _)) (by omega) (by omega) rfl
 simp -implicitDefEqProofs (disch := (first | omega | (simp only [lq5] <;> omega) | fail)) only [admQ, lq5, aFill, AK.cls, implies_true, if_true, if_false, seval, -List.reduceReplicate, ha, hb]
 have hx0 : RdB (m ++ [.row (bys b) false, .row (bys (List.replicate 16 0#8)) false, .row [] false, .row (bys b) false]) (.sl (m.length + 3) 0 16 16 1) b := by
  rw [← hb]; exact RdB.row (l := b) b.length 1 (by simp -implicitDefEqProofs (disch := (first | omega | (simp only [lq5] <;> omega) | fail)) only [admQ, lq5, aFill, AK.cls, implies_true, if_true, if_false, seval, -List.reduceReplicate]) (Nat.le_refl _)
 have o4 : own (m ++ [.row (bys b) false, .row (bys (List.replicate 16 0#8)) false, .row [] false, .row (bys b) false]) (m.length + 1) = some (bys (List.replicate 16 0#8)) := by simp -implicitDefEqProofs (disch := (first | omega | (simp only [lq5] <;> omega) | fail)) only [admQ, lq5, aFill, AK.cls, implies_true, if_true, if_false, seval, -List.reduceReplicate]
 have hk0 : Kept [] m (m ++ [.row (bys b) false, .row (bys (List.replicate 16 0#8)) false, .row [] false, .row (bys b) false]) := .app _ _ _
 generalize m ++ [Blk.row (bys b) false, Blk.row (bys (List.replicate 16 0#8)) false, Blk.row [] false, Blk.row (bys b) false] = M at *
 have hcM := hc.kept0 hk0
 refine (ans_rover (r := 0) hcM hx0 hb (by omega)).mono ?_
 rintro x1 M1 ⟨hk1, hg1⟩
 have hc1 := hcM.kept0 hk1
 obtain ⟨wp, tp, cells, c1, _⟩ := hc1.ex
 have h4n : 4 * n / 4 = n := by omega
 simp -implicitDefEqProofs (disch := (first | omega | (simp only [lq5] <;> omega) | fail)) only [admQ, lq5, aFill, AK.cls, implies_true, if_true, if_false, seval, -List.reduceReplicate, c1, h4n]
 refine LoopW.on (fun z : Nat × AV => [(0, .ptr c 0), (4, .ptr (m.length + 1) 0), (5, z.2), (6, .int .i64 ((n - 1 : Nat) : Int)), (7, .int .i64 ((z.1 + 1 : Nat) : Int))]) (fun z => n - 1 - z.1)
  (fun z m' => z.1 ≤ n - 1 ∧ Kept [] M m' ∧ RdB m' z.2 (runB B n b z.1)) ?_ (0, x1) _ _ rfl ⟨by omega, hk1, hg1.rd⟩
 clear hx0 hg1 hk1 hc1 c1
 rintro ⟨r, x⟩ m' X ⟨hr, hk, hx⟩ hX
 dsimp only at hr hx hX ⊢
 have hc2 := hcM.kept0 hk
 have hnx : runB B n b (r + 1) = roundB B n r (runB B n b r) := rfl
 by_cases hlt : r < n - 1
 ·have hS := runB_len B n b r
  generalize runB B n b r = S at *
  simp -implicitDefEqProofs (disch := (first | omega | (simp only [lq5] <;> omega) | fail)) only [admQ, lq5, aFill, AK.cls, implies_true, if_true, if_false, seval, -List.reduceReplicate]
  refine LoopW.on (fun z : Nat × AV => [(0, .ptr c 0), (4, .ptr (m.length + 1) 0), (5, x), (6, .int .i64 ((n - 1 : Nat) : Int)), (7, .int .i64 ((r + 1 : Nat) : Int)), (8, z.2), (9, .int .i64 z.1)]) (fun z => 16 - z.1)
   (fun z m2 => z.1 ≤ 16 ∧ Kept [] m' m2 ∧ GrB m'.length m2 z.2 ((subs S).take z.1)) ?_ (0, .nils) _ _ rfl ⟨by omega, .refl _ _, GrA.nils _ _ _⟩
  rintro ⟨i, xt⟩ m2 X2 ⟨hi, hk2, hg⟩ hX2
  dsimp only at hi hg hX2 ⊢
  by_cases hl2 : i < 16
  ·obtain ⟨b1, o1, cap1, s1, d1, rfl, hr1, hg1, hl1, hc1, hs1, ht1⟩ := (hx.kept0 hk2).cons (show i < S.length by omega)
   obtain ⟨wp, tp, cells, c1, _, c3, _⟩ := (hc2.kept0 hk2).ex
   have e1 := hg1 (4 * ((i / 4 + i % 4) % 4) + i % 4) (by omega)
   have e2 := sbox_cell (gb S (4 * ((i / 4 + i % 4) % 4) + i % 4))
   obtain ⟨xt', m3, ha, hg2, hk3, hf3⟩ := hg.push (gb (subs S) i) (by simp [subs_len]; omega) hk2.len
   simp -implicitDefEqProofs (disch := (first | omega | (simp only [lq5] <;> omega) | fail)) only [admQ, lq5, aFill, AK.cls, implies_true, if_true, if_false, seval, -List.reduceReplicate, c1, c3, hr1, e1, e2, subs_alt hl2, ha]
   exact hX2 (i + 1, xt') _ _ rfl (by simp; omega) ⟨by simp; omega, hf3 _ _ hk2 (Nat.le_refl _), by rw [take_gb (by rw [subs_len]; omega)]; exact hg2⟩
  ·obtain rfl : i = 16 := by omega
   rw [List.take_of_length_le (by rw [subs_len]; omega)] at hg
   have hkk := hk.trans hk2
   have fin : ∀ (v : AV) (m4 : Mem), Kept [] m2 m4 → RdB m4 v (roundB B n r S) → X [(0, .ptr c 0), (4, .ptr (m.length + 1) 0), (5, v), (6, .int .i64 ((n - 1 : Nat) : Int)), (7, .int .i64 ((r + 1 + 1 : Nat) : Int))] m4 := fun v m4 h1 h2 =>
    hX (r + 1, v) _ _ rfl (by simp; omega) ⟨by simp; omega, hkk.trans h1, by rw [hnx]; exact h2⟩
   by_cases hm : r + 2 < n
   ·have e1 : roundB B n r S = ovr (mixB (subs S)) (keyAt B (r + 1)) := by rw [roundB, if_pos hm]
    simp -implicitDefEqProofs (disch := (first | omega | (simp only [lq5] <;> omega) | fail)) only [admQ, lq5, aFill, AK.cls, implies_true, if_true, if_false, seval, -List.reduceReplicate]
    refine (ans_rmixed hg.rd (subs_len S)).mono ?_
    rintro v3 m3 ⟨hk3, hg3⟩
    simp -implicitDefEqProofs (disch := (first | omega | (simp only [lq5] <;> omega) | fail)) only [admQ, lq5, aFill, AK.cls, implies_true, if_true, if_false, seval, -List.reduceReplicate]
    refine (ans_rover (r := r + 1) ((hc2.kept0 hk2).kept0 hk3) hg3.rd (mixB_len _) (by omega)).mono ?_
    rintro v4 m4 ⟨hk4, hg4⟩
    rw [← e1] at hg4
    simp -implicitDefEqProofs (disch := (first | omega | (simp only [lq5] <;> omega) | fail)) only [admQ, lq5, aFill, AK.cls, implies_true, if_true, if_false, seval, -List.reduceReplicate]
    exact fin _ _ (hk3.trans hk4) hg4.rd
   ·have e1 : roundB B n r S = ovr (subs S) (keyAt B (r + 1)) := by rw [roundB, if_neg hm]
    simp -implicitDefEqProofs (disch := (first | omega | (simp only [lq5] <;> omega) | fail)) only [admQ, lq5, aFill, AK.cls, implies_true, if_true, if_false, seval, -List.reduceReplicate]
    refine (ans_rover (r := r + 1) (hc2.kept0 hk2) hg.rd (subs_len _) (by omega)).mono ?_
    rintro v4 m4 ⟨hk4, hg4⟩
    rw [← e1] at hg4
    simp -implicitDefEqProofs (disch := (first | omega | (simp only [lq5] <;> omega) | fail)) only [admQ, lq5, aFill, AK.cls, implies_true, if_true, if_false, seval, -List.reduceReplicate]
    exact fin _ _ hk4 hg4.rd
 ·obtain rfl : r = n - 1 := by omega
  simp -implicitDefEqProofs (disch := (first | omega | (simp only [lq5] <;> omega) | fail)) only [admQ, lq5, aFill, AK.cls, implies_true, if_true, if_false, seval, -List.reduceReplicate]
  have hl := runB_len B n b (n - 1)
  have hbb : runB B n b (n - 1) = blockB B n b := rfl
  rw [hbb] at hx hl
  have o4' := hk.own0 o4
  have hcp := copy_row (m := m' ++ [.row (bys (List.replicate 16 0#8)) false]) (p := m'.length) (o := 0) (ld := 16) (cap := 16) (s := 0) (hx.app _) (own_app_at0 _ _) (by simp) (by omega)
  have hsw := splice_whole (a := List.replicate 16 0#8) (b := blockB B n b) (by rw [hl]; simp)
  have hsl := fun e b => set_app (own_lt o4') e b
  have o4e := fun e => own_app o4' e
  have o4s := fun c e => own_app (own_set (own_lt o4') c) e
  simp -implicitDefEqProofs (disch := (first | omega | (simp only [lq5] <;> omega) | fail)) only [admQ, lq5, aFill, AK.cls, implies_true, if_true, if_false, seval, -List.reduceReplicate, hcp, hsw, hsl, o4e, rowOf_own (o4s _ _)]
  exact ((hk0.trans hk).write (.inr (by omega)) _).more_app _
end Go.Proofs.YtoegmnnecanhfaaGreatDoor
end
section
namespace Go.Proofs.YtoegmnnecanhfaaGreatDoor
open Go Go.Adm
set_option linter.unusedSimpArgs false
set_option maxRecDepth 100000
def RWS (lo : Nat) (m : Mem) (W : AV) (cells : List AV) (B : List B8) : Prop := cells.length * 4 = B.length ∧ ∀ i, i < cells.length → ∃ x, cells[i]? = some x ∧ RdB m x (wd B i) ∧ ∀ b ∈ blkOf x, b ∉ blkOf W ∧ lo ≤ b
theorem RWS.kept {lo : Nat} {X : List Nat} {m m' : Mem} {W : AV} {cells : List AV} {B : List B8} (h : RWS lo m W cells B) (hk : Kept X m m') (hx : ∀ b ∈ X, b ∈ blkOf W ∨ b < lo) : RWS lo m' W cells B :=
 ⟨h.1, fun i hi => let ⟨x, h1, h2, h3⟩ := h.2 i hi; ⟨x, h1, h2.kept hk (fun b o n cap s e hb => by
  have h4 := h3 b (by rw [e]; simp [blkOf])
  rcases hx b hb with h | h
  ·exact h4.1 h
  ·omega), h3⟩⟩
theorem wd_app {B w : List B8} {i : Nat} (h : 4 * i + 4 ≤ B.length) : wd (B ++ w) i = wd B i := tab_ext fun j hj => gb_app_l (by omega)
theorem wd_last {B w : List B8} {i : Nat} (h : 4 * i = B.length) (hw : w.length = 4) : wd (B ++ w) i = w := by
 rw [← tab_gb hw]
 exact tab_ext fun j hj => by rw [gb_app_r (by omega), show 4 * i + j - B.length = j by omega, tab_gb hw]
theorem RWS.push {m0 lo : Nat} {M : Mem} {W v : AV} {cells : List AV} {B w : List B8} (hW : GrA 1 m0 M W cells) (h : RWS lo M W cells B) (hv : RdB M v w) (hw : w.length = 4) (hvb : ∀ b ∈ blkOf v, b ∉ blkOf W ∧ lo ≤ b) (hb : cells.length < 1000) (hm : m0 ≤ M.length) :
  ∃ W' M', aAppend 1 24 W (.sl M.length 0 1 1 0) (M ++ [.row [v] false]) = some (W', M') ∧ GrA 1 m0 M' W' (cells ++ [v]) ∧ RWS lo M' W' (cells ++ [v]) (B ++ w) ∧ Kept (blkOf W) M M' ∧ (∀ (Y : List Nat) (m : Mem), Kept Y m M → m.length ≤ m0 → Kept Y m M') ∧ ∀ b ∈ blkOf W', M.length < b := by
 obtain ⟨W', M', h1, h2, h3, h4, h5⟩ := hW.push5 (bytes := 24) (by omega) (l := [v]) rfl (by omega) hm
 refine ⟨W', M', h1, h2, ⟨by simp [h.1, hw, Nat.add_mul], fun i hi => ?_⟩, h3, h4, h5⟩
 have hcl := h.1
 by_cases hlt : i < cells.length
 ·obtain ⟨x, g1, g2, g3⟩ := h.2 i hlt
  refine ⟨x, by rw [List.getElem?_append_left hlt]; exact g1, ?_, fun b hb => ⟨fun hb' => ?_, (g3 b hb).2⟩⟩
  ·rw [wd_app (by omega)]
   exact g2.kept h3 fun b o n cap s e => (g3 b (by rw [e]; simp [blkOf])).1
  ·have := g2.blk_lt b hb
   have := h5 b hb'
   omega
 ·obtain rfl : i = cells.length := by simp at hi; omega
  refine ⟨v, by simp, ?_, fun b hb => ⟨fun hb' => ?_, (hvb b hb).2⟩⟩
  ·rw [wd_last (by omega) hw]
   exact hv.kept h3 fun b o n cap s e => (hvb b (by rw [e]; simp [blkOf])).1
  ·have := hv.blk_lt b hb
   have := h5 b hb'
   omega
theorem slice_wd {key : List B8} {i : Nat} (h : 4 * i + 4 ≤ key.length) : (key.drop (4 * i)).take 4 = wd key i := by
 apply gb_ext
 ·simp [wd_len]; omega
 ·intro j hj
  have hj4 : j < 4 := by simp at hj; omega
  rw [wd, gb_tab _ hj4]
  simp only [gb, List.getD_eq_getElem?_getD, List.getElem?_take_of_lt hj4, List.getElem?_drop]
theorem take_wd {key : List B8} {i : Nat} (h : 4 * i + 4 ≤ key.length) : key.take (4 * (i + 1)) = key.take (4 * i) ++ wd key i := by
 rw [show 4 * (i + 1) = 4 * i + 4 by omega, List.take_add, slice_wd h]
def rnewQ (m : Mem) (key : List B8) (r : AV) (m' : Mem) : Prop := ∃ c, r = .tup [.ptr c 0, .int .i64 0] ∧ Kept [] m m' ∧ m.length ≤ c ∧ ∀ m2, (∀ q, m.length ≤ q → q < m'.length → m2[q]? = m'[q]?) → RCiph m2 c (key.length / 4 + 7) (expand key)
def rnewTail : ACode := tlC (tlC c51)
theorem rnewCode : c51 = .seq (hdC c51) (.seq (hdC (tlC c51)) rnewTail) := rfl
structure RJ (m : Mem) (pc tp m0 : Nat) (W : AV) (cells : List AV) (B : List B8) (m' : Mem) : Prop where
 kept : Kept [] m m'
 hd : own m' pc = some [W, .sl tp 0 256 256 1]
 tab : rowOf m' tp = some (bys sboxL)
 gr : GrA 1 m0 m' W cells
 ws : RWS m0 m' W cells B
theorem RJ.blk {m m' : Mem} {pc tp m0 : Nat} {W : AV} {cells : List AV} {B : List B8} (h : RJ m pc tp m0 W cells B m') (hz : W = .nils ∨ cells ≠ []) : ∀ b ∈ blkOf W, m0 ≤ b := by
 rcases hz with rfl | hz
 ·simp [blkOf]
 ·exact h.gr.blk hz
def rnewEnd : ACode := tlC (tlC (bodyC (hdC (tlC (bodyC (bodyC (tlC (hdC (tlC (tlC (tlC (tlC rnewTail))))))))))))
theorem rnew_word {m M : Mem} {pc tp m0 nk i : Nat} {W xt v7 : AV} {cells : List AV} {B T : List B8} {Q : Exit → AFr → Mem → Prop} (J : RJ m pc tp m0 W cells B M) (hc : cells ≠ []) (hi : cells.length = i) (hi2 : nk ≤ i ∧ 1 ≤ nk ∧ i < 900)
  (ht : RdB M xt T) (hT : T.length = 4) {e : AFr} (he : e = [] ∨ e = [(122, .bool false)]) (hpc : pc < m0 ∧ tp < m0 ∧ m.length ≤ pc ∧ pc ≠ tp)
  (hQ : ∀ W' cells' M', cells' ≠ [] → cells'.length = i + 1 → RJ m pc tp m0 W' cells' (B ++ tab 4 fun j => gb B (4 * (i - nk) + j) ^^^ gb T j) M' → Q .normal [(4, .ptr pc 0), (5, .int .i64 nk), (7, v7), (8, .int .i64 i)] M') :
  wpA Tryz.prog rnewEnd ((4, .ptr pc 0) :: (5, .int .i64 nk) :: (7, v7) :: (8, .int .i64 i) :: (9, xt) :: e) M Q := by
 obtain ⟨bW, nW, rfl, hnp, hnl, hoW, hbW⟩ := J.gr.sl hc
 obtain ⟨x2, q1, q2, q3⟩ := J.ws.2 (i - nk) (by omega)
 obtain ⟨b2, o2, cap2, s2, d2, rfl, hr2, hg2, hl2, hc2, hs2, ht2⟩ := q2.cons (show 0 < (wd B (i - nk)).length by rw [wd_len]; omega)
 obtain ⟨b1, o1, cap1, s1, d1, rfl, hr1, hg1, hl1, hc1, hs1, ht1⟩ := ht.cons (show 0 < T.length by omega)
 have hw4 := wd_len B (i - nk)
 have e0 := hg2 0 (by omega)
 have e1 := hg2 1 (by omega)
 have e2 := hg2 2 (by omega)
 have e3 := hg2 3 (by omega)
 have f0 := hg1 0 (by omega)
 have f1 := hg1 1 (by omega)
 have f2 := hg1 2 (by omega)
 have f3 := hg1 3 (by omega)
 rw [Nat.add_zero] at e0 f0
 have hml := J.kept.len
 let w : List B8 := tab 4 fun j => gb B (4 * (i - nk) + j) ^^^ gb T j
 have hw : w = [gb (wd B (i - nk)) 0 ^^^ gb T 0, gb (wd B (i - nk)) 1 ^^^ gb T 1, gb (wd B (i - nk)) 2 ^^^ gb T 2, gb (wd B (i - nk)) 3 ^^^ gb T 3] := by
  simp only [wd, gb_tab _ (show 0 < 4 by omega), gb_tab _ (show 1 < 4 by omega), gb_tab _ (show 2 < 4 by omega), gb_tab _ (show 3 < 4 by omega)]; rfl
 have hkA : Kept [] M (M ++ [.row (bys w) false]) := .app _ _ _
 have hv : RdB (M ++ [.row (bys w) false]) (.sl M.length 0 4 4 0) w := by
  have := RdB.row (m := M ++ [.row (bys w) false]) (b := M.length) (l := w) 4 0 (by simp -implicitDefEqProofs (disch := (first | omega | (simp only [lq5] <;> omega) | fail)) only [admQ, lq5, aFill, AK.cls, implies_true, if_true, if_false, seval, -List.reduceReplicate]) (by simp [w, tab_len])
  rwa [show w.length = 4 from tab_len _ _] at this
 have hWl := J.gr.lt
 obtain ⟨W', m3, hp1, hp2, hp3, hp4, hp5, hp6⟩ := RWS.push (J.gr.kept0 hkA) (J.ws.kept hkA (by simp)) hv (tab_len _ _) (fun b hb => by
  simp [blkOf] at hb
  have h1 := own_lt J.hd
  exact ⟨fun hb' => by have := hWl b hb'; omega, by
   have := hWl bW (by simp [blkOf]); omega⟩) (by omega) (by
  have := hWl bW (by simp [blkOf]); simp; omega)
 obtain ⟨bW', nW', rfl, hnp', hnl', hoW', hbW'⟩ := hp2.sl (by simp)
 simp only [List.append_assoc, List.cons_append, List.nil_append, List.length_append, List.length_cons, List.length_nil] at hp1
 have hdA := fun e => own_app J.hd e
 have hnW : pc ∉ blkOf (.sl bW 0 nW nW 1) := by simp [blkOf]; omega
 have hd3 := hp4.own (hdA _) hnW
 simp only [rnewEnd, rnewTail, tlC, hdC, bodyC, c51]
 rw [hw] at hp1
 simp only [List.map_cons, List.map_nil] at hp1
 rcases he with rfl | rfl
 all_goals
  simp -implicitDefEqProofs (disch := (first | omega | (simp only [lq5] <;> omega) | fail)) only [admQ, lq5, aFill, AK.cls, implies_true, if_true, if_false, seval, -List.reduceReplicate, rowOf_own J.hd, rowOf_own hoW, q1, hr1, hr2, e0, e1, e2, e3, f0, f1, f2, f3, rowOf_own (hdA _), hp1, hd3, rowOf_own hd3]
  refine hQ (.sl bW' 0 nW' nW' 1) (cells ++ [.sl M.length 0 4 4 0]) _ (by simp) (by simp [hi]) ?_
  refine ⟨(hp5 _ _ (J.kept.more_app _) (by omega)).write (.inr (by omega)) _, own_set (own_lt hd3) _, ?_, hp2.kept (Kept.set1 _ _ _) (by simp [blkOf]; omega), ?_⟩
  ·rw [rowOf_set_ne hpc.2.2.2]
   exact hp4.row (rowOf_app J.tab _) (by simp [blkOf]; omega)
  ·exact hp3.kept (Kept.set1 _ _ _) (by simp; omega)
def rnewBody : ACode := bodyC (bodyC (tlC (hdC (tlC (tlC (tlC (tlC rnewTail)))))))
def rnewB : ACode := bodyC (hdC (tlC rnewBody))
theorem rnewBodyCode : rnewBody = .seq (hdC rnewBody) (.seq (.block 3 (.seq (hdC rnewB) (.seq (hdC (tlC rnewB)) rnewEnd))) (tlC (tlC rnewBody))) := rfl
theorem exW_word {key B : List B8} {k : Nat} {r : B8} (hk : keyOk key.length) (hB : B.length = key.length + 4 * k) : exW key.length B r =
  if (key.length / 4 + k) % (key.length / 4) = 0 then [sb (gb (wd B (key.length / 4 + k - 1)) 1) ^^^ r, sb (gb (wd B (key.length / 4 + k - 1)) 2), sb (gb (wd B (key.length / 4 + k - 1)) 3), sb (gb (wd B (key.length / 4 + k - 1)) 0)]
  else if key.length / 4 = 8 ∧ (key.length / 4 + k) % 8 = 4 then [sb (gb (wd B (key.length / 4 + k - 1)) 0), sb (gb (wd B (key.length / 4 + k - 1)) 1), sb (gb (wd B (key.length / 4 + k - 1)) 2), sb (gb (wd B (key.length / 4 + k - 1)) 3)]
  else wd B (key.length / 4 + k - 1) := by
 have hlen : key.length = 16 ∨ key.length = 24 ∨ key.length = 32 := hk
 have e : (tab 4 fun i => gb B (B.length - 4 + i)) = wd B (key.length / 4 + k - 1) := tab_ext fun j hj => by rw [show B.length - 4 + j = 4 * (key.length / 4 + k - 1) + j by omega]
 have c1 : B.length % key.length = 0 ↔ (key.length / 4 + k) % (key.length / 4) = 0 := by rw [hB]; rcases hlen with h | h | h <;> rw [h] <;> omega
 have c2 : (key.length = 32 ∧ B.length % key.length = 16) ↔ (key.length / 4 = 8 ∧ (key.length / 4 + k) % 8 = 4) := by rw [hB]; rcases hlen with h | h | h <;> rw [h] <;> omega
 unfold exW
 simp only [e, c1, c2]
theorem exK_word {key : List B8} {k : Nat} (hk : keyOk key.length) : exK key (k + 1) = ((exK key k).1 ++ (tab 4 fun j => gb (exK key k).1 (4 * (key.length / 4 + k - key.length / 4) + j) ^^^ gb (exW key.length (exK key k).1 (exK key k).2) j), if (key.length / 4 + k) % (key.length / 4) = 0 then tw (exK key k).2 else (exK key k).2) := by
 have hB := exK_len key k
 have hlen : key.length = 16 ∨ key.length = 24 ∨ key.length = 32 := hk
 have c1 : (exK key k).1.length % key.length = 0 ↔ (key.length / 4 + k) % (key.length / 4) = 0 := by rw [hB]; rcases hlen with h | h | h <;> rw [h] <;> omega
 show exStep key.length (exK key k) = _
 unfold exStep
 simp only [c1]
 congr 2
 exact tab_ext fun j hj => by rw [exG, hB, show key.length + 4 * k - key.length + j = 4 * (key.length / 4 + k - key.length / 4) + j by omega]
set_option maxHeartbeats 2000000 in
theorem ans_rnew_go {m : Mem} {x : AV} {key : List B8} (hx : RdB m x key) (hk : keyOk key.length) :
  wpA Tryz.prog rnewTail [(0, x), (23, .bool false)] m (retQ r51 (rnewQ m key)) := by
 have hlen : key.length = 16 ∨ key.length = 24 ∨ key.length = 32 := hk
 simp -implicitDefEqProofs (disch := (first | omega | (simp only [lq5] <;> omega) | fail)) only [admQ, lq5, aFill, AK.cls, implies_true, if_true, if_false, seval, -List.reduceReplicate, rnewTail, tlC, c51]
 refine (ans_rTable _).mono ?_
 rintro _ m1 ⟨tp, rfl, hk1, htp, ht⟩
 have htl := own_lt ht
 have hd4 : key.length / 4 * 4 = key.length := by omega
 simp -implicitDefEqProofs (disch := (first | omega | (simp only [lq5] <;> omega) | fail)) only [admQ, lq5, aFill, AK.cls, implies_true, if_true, if_false, seval, -List.reduceReplicate, hx.len]
 refine LoopW.on (fun z : Nat × AV × List AV => [(0, x), (4, .ptr m1.length 0), (5, .int .i64 ((key.length / 4 : Nat) : Int)), (6, .int .i64 z.1)]) (fun z => key.length / 4 - z.1)
  (fun z m' => z.1 ≤ key.length / 4 ∧ (z.2.1 = .nils ∨ z.2.2 ≠ []) ∧ RJ m m1.length tp (m1.length + 1) z.2.1 z.2.2 (key.take (4 * z.1)) m') ?_ (0, .nils, []) _ _ rfl
  ⟨by omega, .inl rfl, hk1.more_app _, by simp -implicitDefEqProofs (disch := (first | omega | (simp only [lq5] <;> omega) | fail)) only [admQ, lq5, aFill, AK.cls, implies_true, if_true, if_false, seval, -List.reduceReplicate], rowOf_app (rowOf_own ht) _, GrA.nils _ _ _, rfl, fun i hi => absurd hi (by simp)⟩
 ·rintro ⟨i, W, cells⟩ m' X ⟨hi, hz, J⟩ hX
  dsimp only at hi hz J hX ⊢
  have hcl := J.ws.1
  rw [List.length_take, Nat.min_eq_left (by omega)] at hcl
  have hml := J.kept.len
  have hpc := own_lt J.hd
  by_cases hlt : i < key.length / 4
  ·obtain ⟨b1, o1, cap1, s1, d1, rfl, hr1, hg1, hl1, hc1, hs1, ht1⟩ := (hx.kept0 J.kept).cons (show 0 < key.length by omega)
   have hy : RdB m' (.sl b1 (o1 + 4 * i) (4 * i + 4 - 4 * i) (cap1 - 4 * i) s1) (wd key i) := by
    have := ((hx.kept0 J.kept).drop (k := 4 * i) (by omega)).take (k := 4) (by omega)
    rw [show 4 * i + 4 - 4 * i = 4 by omega]
    rwa [slice_wd (by omega)] at this
   have ha := app_new (m := m' ++ [.row [] false]) (b := m'.length) (s := 0) (hy.app _) (by rw [wd_len]; omega) (by rw [wd_len]; omega) rfl
   rw [wd_len] at ha
   have hv : RdB (m' ++ [.row [] false, .row (bys (wd key i)) false]) (.sl (m'.length + 1) 0 4 4 1) (wd key i) := by
    have := RdB.row (m := m' ++ [.row [] false, .row (bys (wd key i)) false]) (b := m'.length + 1) (l := wd key i) 4 1 (by simp -implicitDefEqProofs (disch := (first | omega | (simp only [lq5] <;> omega) | fail)) only [admQ, lq5, aFill, AK.cls, implies_true, if_true, if_false, seval, -List.reduceReplicate]) (by rw [wd_len]; omega)
    rwa [wd_len] at this
   have hkA : Kept [] m' (m' ++ [.row [] false, .row (bys (wd key i)) false]) := .app _ _ _
   have hbl := J.blk hz
   have hWl := J.gr.lt
   obtain ⟨W', m3, hp1, hp2, hp3, hp4, hp5, hp6⟩ := RWS.push (J.gr.kept0 hkA) (J.ws.kept hkA (by simp)) hv (wd_len _ _) (fun b hb => by
    simp [blkOf] at hb; exact ⟨fun hb' => by have := hWl b hb'; omega, by omega⟩) (by omega) (by simp; omega)
   obtain ⟨bW, nW, rfl, hnp, hnl, hoW, hbW⟩ := hp2.sl (by simp)
   simp only [List.append_assoc, List.cons_append, List.nil_append, List.length_append, List.length_cons, List.length_nil] at hp1
   have hd0 := J.hd
   have hdA := fun e => own_app J.hd e
   have hnW : m1.length ∉ blkOf W := fun h => by have := hbl _ h; omega
   have hd3 := hp4.own (hdA _) hnW
   simp -implicitDefEqProofs (disch := (first | omega | (simp only [lq5] <;> omega) | fail)) only [admQ, lq5, aFill, AK.cls, implies_true, if_true, if_false, seval, -List.reduceReplicate, rowOf_own J.hd, ha, rowOf_own (hdA _), hp1, hd3, rowOf_own hd3]
   have hv2 : AV.sl bW 0 nW nW 1 = .sl bW 0 nW nW 1 := rfl
   refine hX (i + 1, .sl bW 0 nW nW 1, cells ++ [.sl (m'.length + 1) 0 4 4 1]) _ _ rfl (by simp; omega) ⟨by simp; omega, .inr (by simp), ?_⟩
   refine ⟨(hp5 _ _ (J.kept.more_app _) (by have := hk1.len; omega)).write (.inr hk1.len) _, own_set (own_lt hd3) _, ?_, hp2.kept (Kept.set1 _ _ _) (by simp [blkOf]; omega), ?_⟩
   ·rw [rowOf_set_ne (by omega)]
    exact hp4.row (rowOf_app J.tab _) fun h => by have := hbl _ h; omega
   ·rw [take_wd (by omega)]
    exact hp3.kept (Kept.set1 _ _ _) (by simp)
  ·obtain rfl : i = key.length / 4 := by omega
   rw [List.take_of_length_le (by omega)] at J
   simp -implicitDefEqProofs (disch := (first | omega | (simp only [lq5] <;> omega) | fail)) only [admQ, lq5, aFill, AK.cls, implies_true, if_true, if_false, seval, -List.reduceReplicate]
   have hN : exN key.length = 4 * (key.length / 4 + 7) - key.length / 4 := rfl
   refine LoopW.on (fun z : Nat × AV × List AV => [(4, .ptr m1.length 0), (5, .int .i64 ((key.length / 4 : Nat) : Int)), (7, b8 (exK key z.1).2), (8, .int .i64 ((key.length / 4 + z.1 : Nat) : Int))]) (fun z => exN key.length - z.1)
    (fun z m' => z.1 ≤ exN key.length ∧ z.2.2 ≠ [] ∧ z.2.2.length = key.length / 4 + z.1 ∧ RJ m m1.length tp (m1.length + 1) z.2.1 z.2.2 (exK key z.1).1 m') ?_ (0, W, cells) _ _ rfl
    ⟨by omega, by rintro rfl; simp at hcl; omega, by simp only; omega, J⟩
   clear J hX hi hz hcl hml hpc
   rintro ⟨k, W, cells⟩ M X ⟨hkn, hce, hcl, J⟩ hX
   dsimp only at hkn hce hcl J hX ⊢
   have hB := exK_len key k
   have hst := exK_word (k := k) hk
   have hex := exW_word (r := (exK key k).2) hk hB
   have hTl := exW_len key.length (exK key k).1 (exK key k).2
   generalize hE : exK key k = st at *
   obtain ⟨B, r⟩ := st
   dsimp only at *
   by_cases hlt : k < exN key.length
   ·obtain ⟨bW, nW, rfl, hnp, hnl, hoW, hbW⟩ := J.gr.sl hce
    obtain ⟨xl, q1, q2, q3⟩ := J.ws.2 (key.length / 4 + k - 1) (by omega)
    have hwl := wd_len B (key.length / 4 + k - 1)
    generalize wd B (key.length / 4 + k - 1) = wl at *
    have ha := app_new (m := M ++ [.row [] false]) (b := M.length) (s := 0) (q2.app _) (by omega) (by omega) rfl
    rw [hwl] at ha
    have hkA : Kept [] M (M ++ [.row [] false, .row (bys wl) false]) := .app _ _ _
    have hlr := hnl
    show wpA Tryz.prog rnewBody _ _ _
    rw [rnewBodyCode]
    simp only [rnewB, rnewBody, rnewTail, tlC, hdC, bodyC, c51]
    have hd := J.hd
    have hdA := fun e => rowOf_own (own_app J.hd e)
    have htA := fun e => rowOf_app J.tab e
    have hoWA := fun e => rowOf_own (own_app hoW e)
    have hsl := own_lt hoW
    have hpcl := own_lt hd
    have h1m := hk1.len
    have fin : ∀ (M2 : Mem) (xt : AV) (v7 : AV) (e : AFr), e = [] ∨ e = [(122, .bool false)] → Kept [] M M2 → RdB M2 xt (exW key.length B r) → v7 = b8 (exK key (k + 1)).2 →
      wpA Tryz.prog rnewEnd ((4, .ptr m1.length 0) :: (5, .int .i64 ((key.length / 4 : Nat) : Int)) :: (7, v7) :: (8, .int .i64 ((key.length / 4 + k : Nat) : Int)) :: (9, xt) :: e) M2 (blockQ 3 (seqK Tryz.prog (tlC (tlC rnewBody)) (loopQ X (blockQ 2 (seqK Tryz.prog (tlC (tlC (tlC (tlC (tlC rnewTail))))) (retQ r51 (rnewQ m key))))))) := by
     rintro M2 xt _ e he hkM ht rfl
     have J2 : RJ m m1.length tp (m1.length + 1) (.sl bW 0 nW nW 1) cells B M2 := ⟨J.kept.trans hkM, hkM.own0 J.hd, hkM.row0 J.tab, J.gr.kept0 hkM, J.ws.kept hkM (by simp)⟩
     refine rnew_word J2 hce hcl (by omega) ht hTl he ⟨by omega, by omega, by omega, by omega⟩ fun W' cells' M' hc1 hc2 J' => ?_
     simp only [rnewBody, rnewTail, tlC, hdC, bodyC, c51]
     simp -implicitDefEqProofs (disch := (first | omega | (simp only [lq5] <;> omega) | fail)) only [admQ, lq5, aFill, AK.cls, implies_true, if_true, if_false, seval, -List.reduceReplicate]
     refine hX (k + 1, W', cells') _ _ rfl (by simp; omega) ⟨by simp; omega, hc1, by simp; omega, ?_⟩
     rw [hst]; exact J'
    simp only [rnewBody, rnewTail, tlC, hdC, bodyC, c51] at fin
    by_cases g1 : (key.length / 4 + k) % (key.length / 4) = 0
    ·rw [if_pos g1] at hex hst
     simp -implicitDefEqProofs (disch := (first | omega | (simp only [lq5] <;> omega) | fail)) only [admQ, lq5, aFill, AK.cls, implies_true, if_true, if_false, seval, -List.reduceReplicate, rowOf_own hd, rowOf_own hoW, q1, ha, hdA, htA, sbox_cell, hoWA]
     refine (ans_rtwice r _).mono ?_
     rintro _ M3 ⟨rfl, rfl⟩
     simp -implicitDefEqProofs (disch := (first | omega | (simp only [lq5] <;> omega) | fail)) only [admQ, lq5, aFill, AK.cls, implies_true, if_true, if_false, seval, -List.reduceReplicate]
     refine fin _ _ _ [] (.inl rfl) (.app _ _ _) ?_ (by rw [hst])
     rw [hex]
     exact RdB.row (l := [_, _, _, _]) 4 0 (by simp -implicitDefEqProofs (disch := (first | omega | (simp only [lq5] <;> omega) | fail)) only [admQ, lq5, aFill, AK.cls, implies_true, if_true, if_false, seval, -List.reduceReplicate]; rfl) (by simp)
    ·rw [if_neg g1] at hex hst
     by_cases g2 : key.length / 4 = 8 ∧ (key.length / 4 + k) % 8 = 4
     ·rw [if_pos g2] at hex
      have g3 : (((key.length / 4 : Nat) : Int) == 8) = true := by rw [g2.1]; rfl
      have g4 : ((((key.length / 4 + k) % 8 : Nat) : Int) == 4) = true := by rw [g2.2]; rfl
      simp -implicitDefEqProofs (disch := (first | omega | (simp only [lq5] <;> omega) | fail)) only [admQ, lq5, aFill, AK.cls, implies_true, if_true, if_false, seval, -List.reduceReplicate, rowOf_own hd, rowOf_own hoW, q1, ha, hdA, htA, sbox_cell, hoWA, g3, g4]
      refine fin _ _ _ [] (.inl rfl) (.app _ _ _) ?_ (by rw [hst])
      rw [hex]
      exact RdB.row (l := [_, _, _, _]) 4 0 (by simp -implicitDefEqProofs (disch := (first | omega | (simp only [lq5] <;> omega) | fail)) only [admQ, lq5, aFill, AK.cls, implies_true, if_true, if_false, seval, -List.reduceReplicate]; rfl) (by simp)
     ·rw [if_neg g2] at hex
      have g4 : (((key.length / 4 : Nat) : Int) == 8) = false ∨ (((key.length / 4 : Nat) : Int) == 8) = true ∧ ((((key.length / 4 + k) % 8 : Nat) : Int) == 4) = false := by
       by_cases h : key.length / 4 = 8
       ·exact .inr ⟨by rw [h]; rfl, beq_eq_false_iff_ne.mpr fun e => g2 ⟨h, by omega⟩⟩
       ·exact .inl (beq_eq_false_iff_ne.mpr (by omega))
      have fin2 := fin (M ++ [.row [] false, .row (bys wl) false]) (.sl (M.length + 1) 0 4 4 1) (b8 r) [(122, .bool false)] (.inr rfl) hkA (by
       rw [hex]
       have := RdB.row (m := M ++ [.row [] false, .row (bys wl) false]) (b := M.length + 1) (l := wl) 4 1 (by simp -implicitDefEqProofs (disch := (first | omega | (simp only [lq5] <;> omega) | fail)) only [admQ, lq5, aFill, AK.cls, implies_true, if_true, if_false, seval, -List.reduceReplicate]) (by omega)
       rwa [hwl] at this) (by rw [hst])
      rcases g4 with g4 | ⟨g4, g5⟩
      ·simp -implicitDefEqProofs (disch := (first | omega | (simp only [lq5] <;> omega) | fail)) only [admQ, lq5, aFill, AK.cls, implies_true, if_true, if_false, seval, -List.reduceReplicate, rowOf_own hd, rowOf_own hoW, q1, ha, hdA, htA, sbox_cell, hoWA, g4]
       exact fin2
      ·simp -implicitDefEqProofs (disch := (first | omega | (simp only [lq5] <;> omega) | fail)) only [admQ, lq5, aFill, AK.cls, implies_true, if_true, if_false, seval, -List.reduceReplicate, rowOf_own hd, rowOf_own hoW, q1, ha, hdA, htA, sbox_cell, hoWA, g4, g5]
       exact fin2
   ·obtain rfl : k = exN key.length := by omega
    obtain ⟨bW, nW, rfl, hnp, hnl, hoW, hbW⟩ := J.gr.sl hce
    have hBe : expand key = B := by rw [expand, hE]
    have hn4 : nW = 4 * (key.length / 4 + 7) := by omega
    subst hn4
    simp -implicitDefEqProofs (disch := (first | omega | (simp only [lq5] <;> omega) | fail)) only [admQ, lq5, aFill, AK.cls, implies_true, if_true, if_false, seval, -List.reduceReplicate]
    refine ⟨m1.length, rfl, J.kept, hk1.len, fun m2 h2 => ⟨⟨bW, tp, cells, rowOf_at (rowOf_own J.hd) (h2 _ hk1.len (own_lt J.hd)), rowOf_at (rowOf_own hoW) (h2 _ (by have := hk1.len; omega) (own_lt hoW)), rowOf_at J.tab (h2 _ htp (rowOf_lt J.tab)), by rw [hBe]; exact J.ws.1, fun i hi => ?_⟩, by rw [hBe, hB]; omega, by omega⟩⟩
    obtain ⟨x, h1, h3, h4⟩ := J.ws.2 i hi
    exact ⟨x, h1, by rw [hBe]; exact h3.at_ fun b hb => h2 b (by have := (h4 b hb).2; have := hk1.len; omega) (h3.blk_lt b hb)⟩
theorem ans_rnew {m : Mem} {x : AV} {key : List B8} (hx : RdB m x key) (hk : keyOk key.length) : Ans Tryz.prog 51 [x] m (rnewQ m key) := by
 refine ans_ret mixed ok51 ?_
 have hlen : key.length = 16 ∨ key.length = 24 ∨ key.length = 32 := hk
 have e16 : key.length = 16 → ((key.length : Int) == 16) = true := fun h => by rw [h]; rfl
 have e24 : key.length = 24 → ((key.length : Int) == 16) = false ∧ ((key.length : Int) == 24) = true := fun h => by rw [h]; exact ⟨rfl, rfl⟩
 have e32 : key.length = 32 → ((key.length : Int) == 16) = false ∧ ((key.length : Int) == 24) = false ∧ ((key.length : Int) == 32) = true := fun h => by rw [h]; exact ⟨rfl, rfl, rfl⟩
 rcases hlen with h | h | h
 ·rw [rnewCode]
  simp -implicitDefEqProofs (disch := (first | omega | (simp only [lq5] <;> omega) | fail)) only [admQ, lq5, aFill, AK.cls, implies_true, if_true, if_false, seval, -List.reduceReplicate, hdC, tlC, c51, hx.len, e16 h]
  exact ans_rnew_go hx hk
 ·rw [rnewCode]
  simp -implicitDefEqProofs (disch := (first | omega | (simp only [lq5] <;> omega) | fail)) only [admQ, lq5, aFill, AK.cls, implies_true, if_true, if_false, seval, -List.reduceReplicate, hdC, tlC, c51, hx.len, e24 h]
  exact ans_rnew_go hx hk
 ·rw [rnewCode]
  simp -implicitDefEqProofs (disch := (first | omega | (simp only [lq5] <;> omega) | fail)) only [admQ, lq5, aFill, AK.cls, implies_true, if_true, if_false, seval, -List.reduceReplicate, hdC, tlC, c51, hx.len, e32 h]
  exact ans_rnew_go hx hk
end Go.Proofs.YtoegmnnecanhfaaGreatDoor
end
section
namespace Go.Proofs.YtoegmnnecanhfaaGreatDoor
open Go Go.Adm
set_option linter.unusedSimpArgs false
set_option maxRecDepth 100000
theorem blkB_len (ks : List B8) (n : Nat) (s : List B8) : (blockB ks n s).length = 16 := runB_len _ _ _ _
def ctrIn (e n j : Nat) : List B8 := lowB e 6 ++ lowB n 6 ++ lowB j 4
theorem ctrIn_len (e n j : Nat) : (ctrIn e n j).length = 16 := by simp [ctrIn, lowB_len]
def ksB (E : List B8) (N e n j : Nat) : List B8 := blockB E N (ctrIn e n j)
theorem ksB_len (E : List B8) (N e n j : Nat) : (ksB E N e n j).length = 16 := blkB_len _ _ _
def ksAt (E : List B8) (N e n k : Nat) : B8 := gb (ksB E N e n (k / 16)) (k % 16)
def xorB (E : List B8) (N e n : Nat) (b : List B8) : List B8 := tab b.length fun i => gb b i ^^^ ksAt E N e n i
theorem xorB_len (E : List B8) (N e n : Nat) (b : List B8) : (xorB E N e n b).length = b.length := tab_len _ _
def lq6 := And.intro @lenB (And.intro @lowB_len (And.intro @putUp_len (And.intro @ctrIn_len (And.intro @ksB_len (@blkB_len)))))
theorem ans_ctrput {m : Mem} {p o n cap s v : Nat} {X : List B8} (hp : own m p = some (bys X)) (ho : o + n ≤ X.length) (hn : n ≤ 8) (hv : v < 18446744073709551616) :
  Ans Tryz.prog 148 [.sl p o n cap s, .int .u64 v] m fun r m' => r = .tup [] ∧ m' = m.set p (.row (bys (putUp X o n v n)) false) := by
 refine ans_ret mixed ok148 ?_
 simp -implicitDefEqProofs (disch := (first | omega | (simp only [lq6] <;> omega) | fail)) only [admQ, lq6, aFill, AK.cls, implies_true, if_true, if_false, seval, -List.reduceReplicate, c148, r148]
 refine LoopW.on (fun i : Nat => [(0, .sl p o n cap s), (1, .int .u64 v), (6, .int .i64 n), (7, .int .i64 i)]) (fun i => n - i) (fun i m' => i ≤ n ∧ m' = m.set p (.row (bys (putUp X o n v i)) false)) ?_ 0 _ _ rfl ⟨by omega, by rw [putUp_zero, set_same hp]⟩
 rintro i m' Y ⟨hi, rfl⟩ hY
 have ho' := own_set (own_lt hp) (bys (putUp X o n v i))
 by_cases hlt : i < n
 ·have hu := putUp_set (X := X) (o := o) (n := n) (v := v) (i := i) (by omega)
  have hw : IntKind.u8.wrap ((v >>> (8 * (n - 1 - i)) : Nat) : Int) = ((byV v (n - 1 - i)).toNat : Int) := wrap_u8 _
  simp -implicitDefEqProofs (disch := (first | omega | (simp only [lq6] <;> omega) | fail)) only [admQ, lq6, aFill, AK.cls, implies_true, if_true, if_false, seval, -List.reduceReplicate, ho', fdiv_nat, hw, splice_byte, hu, List.set_set]
  exact hY (i + 1) _ _ rfl (by omega) ⟨by omega, rfl⟩
 ·obtain rfl : i = n := by omega
  simp -implicitDefEqProofs (disch := (first | omega | (simp only [lq6] <;> omega) | fail)) only [admQ, lq6, aFill, AK.cls, implies_true, if_true, if_false, seval, -List.reduceReplicate]
structure Strm (m : Mem) (pa pi pb pc po c kb N : Nat) (E : List B8) (e n k : Nat) : Prop where
 at_ : own m pa = some [.int .i64 ((if k % 16 = 0 then 16 else k % 16 : Nat) : Int)]
 blk : own m pb = some [.int .u64 (((k + 15) / 16 : Nat) : Int)]
 in_ : ∃ Z : List B8, Z.length = 4 ∧ own m pi = some (bys (lowB e 6 ++ lowB n 6 ++ Z))
 out : ∃ O : List B8, O.length = 16 ∧ own m po = some (bys O) ∧ (0 < k → O = ksB E N e n ((k - 1) / 16))
 cip : rowOf m pc = some [.ptr c 0]
 cpr : Ciph m c kb N E
 ne : pa ≠ pi ∧ pa ≠ pb ∧ pa ≠ po ∧ pi ≠ pb ∧ pi ≠ po ∧ pb ≠ po
 nc : pc ∉ [pa, pi, pb, po] ∧ c ∉ [pa, pi, pb, po] ∧ kb ∉ [pa, pi, pb, po]
theorem Strm.kept {X : List Nat} {m m' : Mem} {pa pi pb pc po c kb N : Nat} {E : List B8} {e n k : Nat} (h : Strm m pa pi pb pc po c kb N E e n k) (hk : Kept X m m') (hx : ∀ q ∈ X, q ≠ pa ∧ q ≠ pi ∧ q ≠ pb ∧ q ≠ pc ∧ q ≠ po ∧ q ≠ c ∧ q ≠ kb) :
  Strm m' pa pi pb pc po c kb N E e n k := by
 have nx : ∀ q, (q = pa ∨ q = pi ∨ q = pb ∨ q = pc ∨ q = po ∨ q = c ∨ q = kb) → q ∉ X := fun q hq hm => by
  have := hx q hm; rcases hq with h | h | h | h | h | h | h <;> simp_all
 obtain ⟨Z, hZ, hi⟩ := h.in_
 obtain ⟨O, hO, ho, hOk⟩ := h.out
 exact ⟨hk.own h.at_ (nx _ (by simp)), hk.own h.blk (nx _ (by simp)), ⟨Z, hZ, hk.own hi (nx _ (by simp))⟩, ⟨O, hO, hk.own ho (nx _ (by simp)), hOk⟩, hk.row h.cip (nx _ (by simp)),
  h.cpr.kept hk (nx _ (by simp)) (nx _ (by simp)), h.ne, h.nc⟩
theorem Strm.kept0 {m m' : Mem} {pa pi pb pc po c kb N : Nat} {E : List B8} {e n k : Nat} (h : Strm m pa pi pb pc po c kb N E e n k) (hk : Kept [] m m') : Strm m' pa pi pb pc po c kb N E e n k := h.kept hk (by simp)
theorem ne_own {p q : Nat} (h : p ≠ q) : (∀ m b, own (List.set m p b) q = own m q) ∧ (∀ m b, rowOf (List.set m p b) q = rowOf m q) ∧ (∀ m b, own (List.set m q b) p = own m p) ∧ (∀ m b, rowOf (List.set m q b) p = rowOf m p) :=
 ⟨fun _ b => own_set_ne h b, fun _ b => rowOf_set_ne h b, fun _ b => own_set_ne (Ne.symm h) b, fun _ b => rowOf_set_ne (Ne.symm h) b⟩
theorem ans_ctrnext {m : Mem} {pa pi pb pc po c kb N : Nat} {E : List B8} {e n k : Nat} (h : Strm m pa pi pb pc po c kb N E e n k) (hk : k < 1000000) :
  Ans Tryz.prog 149 [.ptr pa 0, .ptr pi 0, .ptr pb 0, .ptr pc 0, .ptr po 0] m fun r m' => r = b8 (ksAt E N e n k) ∧ Kept [pa, pi, pb, po] m m' ∧ Strm m' pa pi pb pc po c kb N E e n (k + 1) := by
 refine ans_ret mixed ok149 ?_
 obtain ⟨Z, hZ, hi⟩ := h.in_
 obtain ⟨O, hO, ho, hOk⟩ := h.out
 have ha := h.at_
 have hb := h.blk
 obtain ⟨q1, q2, q3, q4, q5, q6⟩ := h.ne
 have hnc := h.nc
 simp only [List.mem_cons, List.not_mem_nil, or_false, not_or] at hnc
 obtain ⟨⟨n1, n2, n3, n4⟩, ⟨n5, n6, n7, n8⟩, ⟨n9, n10, n11, n12⟩⟩ := hnc
 have s1 := ne_own q1
 have s2 := ne_own q2
 have s3 := ne_own q3
 have s4 := ne_own q4
 have s5 := ne_own q5
 have s6 := ne_own q6
 have t1 := ne_own n1
 have t2 := ne_own n2
 have t3 := ne_own n3
 have t4 := ne_own n4
 replace q1 : Unit → _ := fun _ => q1
 replace q2 : Unit → _ := fun _ => q2
 replace q3 : Unit → _ := fun _ => q3
 replace q4 : Unit → _ := fun _ => q4
 replace q5 : Unit → _ := fun _ => q5
 replace q6 : Unit → _ := fun _ => q6
 replace n1 : Unit → _ := fun _ => n1
 replace n2 : Unit → _ := fun _ => n2
 replace n3 : Unit → _ := fun _ => n3
 replace n4 : Unit → _ := fun _ => n4
 replace n5 : Unit → _ := fun _ => n5
 replace n6 : Unit → _ := fun _ => n6
 replace n7 : Unit → _ := fun _ => n7
 replace n8 : Unit → _ := fun _ => n8
 replace n9 : Unit → _ := fun _ => n9
 replace n10 : Unit → _ := fun _ => n10
 replace n11 : Unit → _ := fun _ => n11
 replace n12 : Unit → _ := fun _ => n12
 by_cases hz : k % 16 = 0
 ·rw [if_pos hz] at ha
  have hla := own_lt ha
  have hlb := own_lt hb
  have hli := own_lt hi
  have hlo := own_lt ho
  have hput := putUp_all (a := lowB e 6 ++ lowB n 6) (b := Z) (c := []) (o := 12) (n := 4) (v := (k + 15) / 16) (by simp [lowB_len]) hZ
  rw [List.append_nil, List.append_nil, show (k + 15) / 16 = k / 16 by omega] at hput
  have hin : lowB e 6 ++ lowB n 6 ++ lowB (k / 16) 4 = ctrIn e n (k / 16) := rfl
  rw [hin] at hput
  rw [show (k + 15) / 16 = k / 16 by omega] at hb
  simp -implicitDefEqProofs (disch := (first | omega | (simp only [lq6] <;> omega) | fail)) only [admQ, lq6, aFill, AK.cls, implies_true, if_true, if_false, seval, -List.reduceReplicate, c149, r149, rowOf_own ha, rowOf_own hb]
  refine (ans_ctrput (p := pi) (o := 12) (n := 4) hi (by simp [lowB_len, hZ]) (by omega) (by omega)).mono ?_
  rintro _ m1 ⟨rfl, hm1⟩
  rw [hput] at hm1
  have hk1 : Kept [pi] m m1 := by rw [hm1]; exact .set1 _ _ _
  have hi1 : own m1 pi = some (bys (ctrIn e n (k / 16))) := by rw [hm1]; exact own_set hli _
  have ha1 := hk1.own ha (by simp [q1 ()])
  have hb1 := hk1.own hb (by simpa using Ne.symm (q4 ()))
  have ho1 := hk1.own ho (by simpa using Ne.symm (q5 ()))
  have hc1 := hk1.row h.cip (by simp [n2 ()])
  have hp1 := h.cpr.kept hk1 (by simp [n6 ()]) (by simp [n10 ()])
  clear hm1
  simp -implicitDefEqProofs (disch := (first | omega | (simp only [lq6] <;> omega) | fail)) only [admQ, lq6, aFill, AK.cls, implies_true, if_true, if_false, seval, -List.reduceReplicate, rowOf_own ha1, rowOf_own hb1, hc1, rowOf_own hi1, ha1, hb1]
  refine (ans_block hp1 _ (ctrIn_len _ _ _)).mono ?_
  rintro _ m2 ⟨rfl, hk2⟩
  rw [show blockB E N (ctrIn e n (k / 16)) = ksB E N e n (k / 16) from rfl]
  have ha2 := hk2.own0 ha1
  have hb2 := hk2.own0 hb1
  have ho2 := hk2.own0 ho1
  have hi2 := hk2.own0 hi1
  have hc2 := hk2.row0 hc1
  have hp2 := hp1.kept hk2 (by simp) (by simp)
  have hla2 := own_lt ha2
  have hlb2 := own_lt hb2
  have hlo2 := own_lt ho2
  generalize hKB : ksB E N e n (k / 16) = KB
  have hKl : KB.length = 16 := by rw [← hKB]; exact ksB_len _ _ _ _ _
  simp -implicitDefEqProofs (disch := (first | omega | (simp only [lq6] <;> omega) | fail)) only [admQ, lq6, aFill, AK.cls, implies_true, if_true, if_false, seval, -List.reduceReplicate, own_set, rowOf_set, s1, s2, s3, s4, s5, s6, ha2, hb2, ho2, rowOf_own ha2, rowOf_own hb2, hKl, wrap_u64]
  have hks : Kept [pa, pb, po] m2 ((((m2.set po (.row (bys KB) false)).set pa (.row [.int .i64 0] false)).set pb (.row [.int .u64 ((k / 16 + 1 : Nat) : Int)] false)).set pa (.row [.int .i64 1] false)) :=
   ((((Kept.refl _ _).write (.inl (by simp)) _).write (.inl (by simp)) _).write (.inl (by simp)) _).write (.inl (by simp)) _
  refine ⟨?_, ((hk1.more (Y := [pa, pi, pb, po]) (by simp)).trans hk2.any).trans (hks.more (by simp)), ?_⟩
  ·rw [ksAt, hKB, hz]
  ·constructor
   ·rw [own_set (by simpa using hla2), if_neg (by omega), show (k + 1) % 16 = 1 by omega]; rfl
   ·rw [s2.1, own_set (by simpa using hlb2), show (k + 1 + 15) / 16 = k / 16 + 1 by omega]
   ·exact ⟨lowB (k / 16) 4, lowB_len _ _, by rw [s1.1, s4.2.2.1, s1.1, s5.2.2.1]; exact hi2⟩
   ·exact ⟨KB, hKl, by rw [s3.1, s6.1, s3.1, own_set hlo2], fun _ => by rw [← hKB, show (k + 1 - 1) / 16 = k / 16 by omega]⟩
   ·exact hks.row hc2 (by simp [n1 (), n3 (), n4 ()])
   ·exact hp2.kept hks (by simp [n5 (), n7 (), n8 ()]) (by simp [n9 (), n11 (), n12 ()])
   ·exact h.ne
   ·exact h.nc
 ·rw [if_neg hz] at ha
  have hne16 : (((k % 16 : Nat) : Int) == 16) = false := beq_eq_false_iff_ne.mpr (by omega)
  have hla := own_lt ha
  simp -implicitDefEqProofs (disch := (first | omega | (simp only [lq6] <;> omega) | fail)) only [admQ, lq6, aFill, AK.cls, implies_true, if_true, if_false, seval, -List.reduceReplicate, c149, r149, ha, rowOf_own ha, rowOf_own hb, hne16, own_set, rowOf_set, s1, s2, s3, Nat.add_sub_cancel, rowOf_own ho]
  have hO' := hOk (by omega)
  have hks : Kept [pa] m (m.set pa (.row [.int .i64 ((k % 16 + 1 : Nat) : Int)] false)) := .set1 _ _ _
  refine ⟨?_, hks.more (by simp), ?_⟩
  ·rw [ksAt, hO', show (k - 1) / 16 = k / 16 by omega]
  ·constructor
   ·rw [own_set hla]
    by_cases h1 : (k + 1) % 16 = 0
    ·rw [if_pos h1, show k % 16 + 1 = 16 by omega]
    ·rw [if_neg h1, show k % 16 + 1 = (k + 1) % 16 by omega]
   ·rw [s2.1, hb, show (k + 15) / 16 = (k + 1 + 15) / 16 by omega]
   ·exact ⟨Z, hZ, by rw [s1.1]; exact hi⟩
   ·exact ⟨O, hO, by rw [s3.1]; exact ho, fun _ => by rw [hO', show (k - 1) / 16 = (k + 1 - 1) / 16 by omega]⟩
   ·rw [rowOf_set_ne (Ne.symm (n1 ()))]; exact h.cip
   ·exact h.cpr.kept hks (by simp [n5 ()]) (by simp [n9 ()])
   ·exact h.ne
   ·exact h.nc
theorem ans_ctrstream {m : Mem} {c kb N : Nat} {E : List B8} (hc : Ciph m c kb N E) (e n : Int) : Ans Tryz.prog 147 [.ptr c 0, .int .i64 e, .int .i64 n] m fun r m' =>
  ∃ pa pi pb pc po, r = .fn (.func 149) [] [.ptr pa 0, .ptr pi 0, .ptr pb 0, .ptr pc 0, .ptr po 0] ∧ Kept [] m m' ∧ (m.length ≤ pa ∧ m.length ≤ pi ∧ m.length ≤ pb ∧ m.length ≤ po) ∧ Strm m' pa pi pb pc po c kb N E (e64 e) (e64 n) 0 := by
 refine ans_ret mixed ok147 ?_
 have he := e64_lt e
 have hn := e64_lt n
 simp -implicitDefEqProofs (disch := (first | omega | (simp only [lq6] <;> omega) | fail)) only [admQ, lq6, aFill, AK.cls, implies_true, if_true, if_false, seval, -List.reduceReplicate, c147, r147, e64_wrap]
 have z16 : List.replicate 16 0#8 = List.replicate 6 0#8 ++ List.replicate 10 0#8 := rfl
 refine (ans_ctrput (p := m.length + 1) (o := 0) (n := 6) (X := List.replicate 16 0#8) (by simp -implicitDefEqProofs (disch := (first | omega | (simp only [lq6] <;> omega) | fail)) only [admQ, lq6, aFill, AK.cls, implies_true, if_true, if_false, seval, -List.reduceReplicate]) (by simp) (by omega) he).mono ?_
 rintro _ m1 ⟨rfl, hm1⟩
 have h1 := putUp_all (a := []) (b := List.replicate 6 0#8) (c := List.replicate 10 0#8) (o := 0) (n := 6) (v := e64 e) rfl (by simp)
 rw [List.nil_append, List.nil_append, ← z16] at h1
 rw [h1] at hm1
 subst hm1
 simp -implicitDefEqProofs (disch := (first | omega | (simp only [lq6] <;> omega) | fail)) only [admQ, lq6, aFill, AK.cls, implies_true, if_true, if_false, seval, -List.reduceReplicate, e64_wrap]
 have z10 : List.replicate 10 0#8 = List.replicate 6 0#8 ++ List.replicate 4 0#8 := rfl
 refine (ans_ctrput (p := m.length + 1) (o := 6) (n := 6) (X := lowB (e64 e) 6 ++ List.replicate 10 0#8) (by simp -implicitDefEqProofs (disch := (first | omega | (simp only [lq6] <;> omega) | fail)) only [admQ, lq6, aFill, AK.cls, implies_true, if_true, if_false, seval, -List.reduceReplicate]) (by simp [lowB_len]) (by omega) hn).mono ?_
 rintro _ m2 ⟨rfl, hm2⟩
 have h2 := putUp_all (a := lowB (e64 e) 6) (b := List.replicate 6 0#8) (c := List.replicate 4 0#8) (o := 6) (n := 6) (v := e64 n) (lowB_len _ _) (by simp)
 rw [List.append_assoc, ← z10] at h2
 rw [h2] at hm2
 subst hm2
 simp -implicitDefEqProofs (disch := (first | omega | (simp only [lq6] <;> omega) | fail)) only [admQ, lq6, aFill, AK.cls, implies_true, if_true, if_false, seval, -List.reduceReplicate]
 refine ⟨m.length + 3, m.length + 1, m.length + 4, m.length, m.length + 2, rfl, .app _ _ _, ⟨by omega, by omega, by omega, by omega⟩, ?_⟩
 have hcl : c < m.length := rowOf_lt hc.hd
 have hkl : kb < m.length := rowOf_lt hc.keys
 constructor
 ·simp -implicitDefEqProofs (disch := (first | omega | (simp only [lq6] <;> omega) | fail)) only [admQ, lq6, aFill, AK.cls, implies_true, if_true, if_false, seval, -List.reduceReplicate]
 ·simp -implicitDefEqProofs (disch := (first | omega | (simp only [lq6] <;> omega) | fail)) only [admQ, lq6, aFill, AK.cls, implies_true, if_true, if_false, seval, -List.reduceReplicate]; try rfl
 ·exact ⟨List.replicate 4 0#8, by simp, by simp -implicitDefEqProofs (disch := (first | omega | (simp only [lq6] <;> omega) | fail)) only [admQ, lq6, aFill, AK.cls, implies_true, if_true, if_false, seval, -List.reduceReplicate]⟩
 ·exact ⟨List.replicate 16 0#8, by simp, by simp -implicitDefEqProofs (disch := (first | omega | (simp only [lq6] <;> omega) | fail)) only [admQ, lq6, aFill, AK.cls, implies_true, if_true, if_false, seval, -List.reduceReplicate], fun h => by omega⟩
 ·simp -implicitDefEqProofs (disch := (first | omega | (simp only [lq6] <;> omega) | fail)) only [admQ, lq6, aFill, AK.cls, implies_true, if_true, if_false, seval, -List.reduceReplicate]
 ·exact hc.app _
 ·omega
 ·refine ⟨?_, ?_, ?_⟩ <;> simp <;> omega
theorem ans_ctrxor {m : Mem} {c kb N : Nat} {E : List B8} (hc : Ciph m c kb N E) (e n : Int) {x : AV} {b : List B8} (hx : RdB m x b) (hb : b.length ≤ 100000) : Ans Tryz.prog 144 [.ptr c 0, .int .i64 e, .int .i64 n, x] m fun r m' =>
  ∃ p, r = .sl p 0 b.length b.length 0 ∧ Kept [] m m' ∧ m.length ≤ p ∧ own m' p = some (bys (xorB E N (e64 e) (e64 n) b)) := by
 refine ans_ret mixed ok144 ?_
 simp -implicitDefEqProofs (disch := (first | omega | (simp only [lq6] <;> omega) | fail)) only [admQ, lq6, aFill, AK.cls, implies_true, if_true, if_false, seval, -List.reduceReplicate, c144, r144]
 refine (ans_ctrstream hc e n).mono ?_
 rintro _ m1 ⟨pa, pi, pb, pc, po, rfl, hk1, ⟨ha, hi, hbb, ho⟩, hs⟩
 have hmk : (0 : Int) ≤ (b.length : Int) ∧ (b.length : Int) ≤ (b.length : Int) ∧ (b.length : Int) * 1 ≤ 1099511627776 ∧ (b.length : Int) ≤ 1099511627776 := by omega
 have hr : rep b.length [AV.int .u8 0] = bys (List.replicate b.length 0#8) := by rw [← bys_rep]; simp [rep]
 simp -implicitDefEqProofs (disch := (first | omega | (simp only [lq6] <;> omega) | fail)) only [admQ, lq6, aFill, AK.cls, implies_true, if_true, if_false, seval, -List.reduceReplicate, hx.len, hr]
 have hs0 := hs.kept0 (Kept.app [] m1 [.row (bys (List.replicate b.length 0#8)) false])
 have hk0 : Kept [] m (m1 ++ [.row (bys (List.replicate b.length 0#8)) false]) := hk1.more_app _
 have hml := hk1.len
 have hlt1 := own_lt hs.at_
 have hlt2 := own_lt hs.blk
 obtain ⟨Z, _, hZ⟩ := hs.in_
 obtain ⟨O, _, hO, _⟩ := hs.out
 have hlt3 := own_lt hZ
 have hlt4 := own_lt hO
 clear hZ hO
 have hlt5 := rowOf_lt hs.cip
 have hlt6 := rowOf_lt hs.cpr.hd
 have hlt7 := rowOf_lt hs.cpr.keys
 let f : Nat → B8 := fun i => gb b i ^^^ ksAt E N (e64 e) (e64 n) i
 refine LoopW.on (fun i : Nat => [(9, .fn (.func 149) [] [.ptr pa 0, .ptr pi 0, .ptr pb 0, .ptr pc 0, .ptr po 0]), (10, .sl m1.length 0 b.length b.length 0), (20, x), (21, .int .i64 b.length), (22, .int .i64 i)]) (fun i => b.length - i)
  (fun i m' => i ≤ b.length ∧ Kept [] m m' ∧ Strm m' pa pi pb pc po c kb N E (e64 e) (e64 n) i ∧ own m' m1.length = some (bys (upTo b.length f (fun _ => 0#8) i))) ?_ 0 _ _ rfl ⟨by omega, hk0, hs0, by rw [upTo_zero, tab_const]; simp -implicitDefEqProofs (disch := (first | omega | (simp only [lq6] <;> omega) | fail)) only [admQ, lq6, aFill, AK.cls, implies_true, if_true, if_false, seval, -List.reduceReplicate]⟩
 clear hs hs0 hk0
 rintro i m2 X ⟨hil, hk2, hs2, hout⟩ hX
 have hol := own_lt hout
 by_cases hlt : i < b.length
 ·obtain ⟨b1, o1, cap1, s1, d1, rfl, hr1, hg1, hl1, hc1, hss1, ht1⟩ := (hx.kept0 hk2).cons hlt
  have e1 := hg1 i hlt
  have hu : (upTo b.length f (fun _ => 0#8) i).set i (gb b i ^^^ ksAt E N (e64 e) (e64 n) i) = _ := upTo_set (f := f)
  clear_value f
  simp -implicitDefEqProofs (disch := (first | omega | (simp only [lq6] <;> omega) | fail)) only [admQ, lq6, aFill, AK.cls, implies_true, if_true, if_false, seval, -List.reduceReplicate, hr1, e1]
  refine (ans_ctrnext hs2 (by omega)).mono ?_
  rintro _ m3 ⟨rfl, hk3, hs3⟩
  have hout3 := hk3.own hout (by simp; omega)
  have hol3 := own_lt hout3
  simp -implicitDefEqProofs (disch := (first | omega | (simp only [lq6] <;> omega) | fail)) only [admQ, lq6, aFill, AK.cls, implies_true, if_true, if_false, seval, -List.reduceReplicate, hout3, splice_byte, hu]
  refine hX (i + 1) _ _ rfl (by omega) ⟨by omega, (hk2.fresh hk3 (by simp; omega)).write (.inr (by omega)) _, hs3.kept (Kept.set1 _ _ _) (by simp; omega), own_set hol3 _⟩
 ·obtain rfl : i = b.length := by omega
  have hu : upTo b.length f (fun _ => 0#8) b.length = xorB E N (e64 e) (e64 n) b := upTo_all _ _ _
  simp -implicitDefEqProofs (disch := (first | omega | (simp only [lq6] <;> omega) | fail)) only [admQ, lq6, aFill, AK.cls, implies_true, if_true, if_false, seval, -List.reduceReplicate]
  exact ⟨m1.length, rfl, hk2, hml, by rw [← hu]; exact hout⟩
end Go.Proofs.YtoegmnnecanhfaaGreatDoor
end
section
namespace Go.Proofs.YtoegmnnecanhfaaGreatDoor
open Go Go.Adm
set_option linter.unusedSimpArgs false
set_option maxRecDepth 100000
set_option maxHeartbeats 1000000
def lq7 := And.intro @lenB (And.intro @lowB_len (And.intro @putUp_len (And.intro @ctrIn_len (And.intro @ksB_len (And.intro @blkB_len (@xorB_len))))))
theorem ans_rlow (v : Int) (n : Nat) (hn : n ≤ 8) (m : Mem) : Ans Tryz.prog 119 [.int .i64 v, .int .i64 n] m fun r m' => Kept [] m m' ∧ GrB m.length m' r (lowB (e64 v) n) := by
 refine ans_ret mixed ok119 ?_
 have he := e64_lt v
 by_cases hn0 : n = 0
 ·subst hn0
  simp -implicitDefEqProofs (disch := (first | omega | (simp only [lq7] <;> omega) | fail)) only [admQ, lq7, aFill, AK.cls, implies_true, if_true, if_false, seval, -List.reduceReplicate, c119, r119]
  refine LoopW.on (fun _ : Unit => [(0, .int .i64 v), (5, .nils), (6, .int .i64 (-1))]) (fun _ => 0) (fun _ m' => m' = m) ?_ () _ _ rfl rfl
  rintro _ _ X rfl _
  simp -implicitDefEqProofs (disch := (first | omega | (simp only [lq7] <;> omega) | fail)) only [admQ, lq7, aFill, AK.cls, implies_true, if_true, if_false, seval, -List.reduceReplicate]
  exact ⟨.refl _ _, GrA.nils _ _ _⟩
 ·simp -implicitDefEqProofs (disch := (first | omega | (simp only [lq7] <;> omega) | fail)) only [admQ, lq7, aFill, AK.cls, implies_true, if_true, if_false, seval, -List.reduceReplicate, c119, r119]
  rw [show ((n - 1 : Nat) : Int) = ((n - 0 : Nat) : Int) - 1 by omega]
  refine LoopW.on (fun s : Nat × AV => [(0, .int .i64 v), (5, s.2), (6, .int .i64 (((n - s.1 : Nat) : Int) - 1))]) (fun s => n - s.1) (fun s m' => s.1 ≤ n ∧ Kept [] m m' ∧ GrB m.length m' s.2 ((lowB (e64 v) n).take s.1)) ?_ (0, .nils) _ _ rfl ⟨by omega, .refl _ _, GrA.nils _ _ _⟩
  rintro ⟨j, x⟩ m' X ⟨hj, hk, hg⟩ hX
  dsimp only at hj hg hX ⊢
  by_cases hlt : j < n
  ·have hw : IntKind.u8.wrap ((e64 v >>> (8 * (n - j - 1)) : Nat) : Int) = ((gb (lowB (e64 v) n) j).toNat : Int) := by
    rw [wrap_u8, lowB, gb_tab _ hlt, byV, show n - j - 1 = n - 1 - j by omega]
   obtain ⟨x', m2, ha, hg2, hk2, hf2⟩ := hg.push (gb (lowB (e64 v) n) j) (by simp [lowB_len]; omega) hk.len
   have hwv := e64_wrap v
   generalize hE : gb (lowB (e64 v) n) j = w at *
   simp -implicitDefEqProofs (disch := (first | omega | (simp only [lq7] <;> omega) | fail)) only [admQ, lq7, aFill, AK.cls, implies_true, if_true, if_false, seval, -List.reduceReplicate, hwv, fdiv_nat, hw, ha, wrap_u64]
   rw [show n - j - 1 = n - (j + 1) by omega]
   exact hX (j + 1, x') _ _ rfl (by simp; omega) ⟨by simp; omega, hf2 _ _ hk (Nat.le_refl _), by rw [take_gb (by rw [lowB_len]; omega), hE]; exact hg2⟩
  ·obtain rfl : j = n := by omega
   simp -implicitDefEqProofs (disch := (first | omega | (simp only [lq7] <;> omega) | fail)) only [admQ, lq7, aFill, AK.cls, implies_true, if_true, if_false, seval, -List.reduceReplicate]
   exact ⟨hk, by rwa [List.take_of_length_le (by rw [lowB_len]; omega)] at hg⟩
theorem ans_rctrblock {m : Mem} {c N : Nat} {E : List B8} (hc : RCiph m c N E) (e n : Int) (i : Nat) (hi : i < 100000) : Ans Tryz.prog 114 [.ptr c 0, .int .i64 e, .int .i64 n, .int .i64 i] m fun r m' => r = .agg (bys (ksB E N (e64 e) (e64 n) i)) ∧ Kept [] m m' := by
 refine ans_ret mixed ok114 ?_
 simp -implicitDefEqProofs (disch := (first | omega | (simp only [lq7] <;> omega) | fail)) only [admQ, lq7, aFill, AK.cls, implies_true, if_true, if_false, seval, -List.reduceReplicate, c114, r114]
 have o8 : own (m ++ [.row (bys (List.replicate 16 0#8)) false, .row (bys (List.replicate 16 0#8)) false]) m.length = some (bys (List.replicate 16 0#8)) := by simp -implicitDefEqProofs (disch := (first | omega | (simp only [lq7] <;> omega) | fail)) only [admQ, lq7, aFill, AK.cls, implies_true, if_true, if_false, seval, -List.reduceReplicate]
 have o9 : own (m ++ [.row (bys (List.replicate 16 0#8)) false, .row (bys (List.replicate 16 0#8)) false]) (m.length + 1) = some (bys (List.replicate 16 0#8)) := by simp -implicitDefEqProofs (disch := (first | omega | (simp only [lq7] <;> omega) | fail)) only [admQ, lq7, aFill, AK.cls, implies_true, if_true, if_false, seval, -List.reduceReplicate]
 have hk0 : Kept [] m (m ++ [.row (bys (List.replicate 16 0#8)) false, .row (bys (List.replicate 16 0#8)) false]) := .app _ _ _
 generalize m ++ [Blk.row (bys (List.replicate 16 0#8)) false, Blk.row (bys (List.replicate 16 0#8)) false] = M at *
 refine (ans_rlow e 6 (by omega) _).mono ?_
 rintro x1 M1 ⟨hk1, hg1⟩
 simp -implicitDefEqProofs (disch := (first | omega | (simp only [lq7] <;> omega) | fail)) only [admQ, lq7, aFill, AK.cls, implies_true, if_true, if_false, seval, -List.reduceReplicate]
 refine (ans_rlow n 6 (by omega) _).mono ?_
 rintro x2 M2 ⟨hk2, hg2⟩
 simp -implicitDefEqProofs (disch := (first | omega | (simp only [lq7] <;> omega) | fail)) only [admQ, lq7, aFill, AK.cls, implies_true, if_true, if_false, seval, -List.reduceReplicate]
 refine (ans_rlow i 4 (by omega) _).mono ?_
 rintro x3 M3 ⟨hk3, hg3⟩
 rw [e64_nat (by omega)] at hg3
 have r1 := (hg1.rd.kept0 hk2).kept0 hk3
 have r2 := hg2.rd.kept0 hk3
 have r3 := hg3.rd
 have hkk := (hk1.trans hk2).trans hk3
 have o8' := hkk.own0 o8
 have o9' := hkk.own0 o9
 have hkM := hk0.trans hkk
 have hl9 := own_lt o9'
 have hl8 := own_lt o8'
 have hnil : ∀ (v k : Nat), bys (lowB v (k + 1)) ≠ [] := fun v k h => by have := congrArg List.length h; simp [lowB_len] at this
 have b1 := hg1.blk (hnil _ 5)
 have b2 := hg2.blk (hnil _ 5)
 have b3 := hg3.blk (hnil _ 3)
 have hMl := own_lt o9
 have l1 := hk1.len
 have l2 := hk2.len
 clear hg1 hg2 hg3 hk1 hk2 hk3 o8 o9 hkk hk0
 generalize hC : ctrIn (e64 e) (e64 n) i = C
 have hCl : C.length = 16 := by rw [← hC]; exact ctrIn_len _ _ _
 have v1 : ∀ j, j < 6 → gb (lowB (e64 e) 6) j = gb C j := fun j hj => by
  rw [← hC, ctrIn, List.append_assoc, gb_app_l (by rw [lowB_len]; exact hj)]
 have v2 : ∀ j, j < 6 → gb (lowB (e64 n) 6) j = gb C (6 + j) := fun j hj => by
  rw [← hC, ctrIn, List.append_assoc, gb_app_r (by rw [lowB_len]; omega), gb_app_l (by rw [lowB_len]; simp [lowB_len]; omega)]
  simp [lowB_len]
 have v3 : ∀ j, j < 4 → gb (lowB i 4) j = gb C (12 + j) := fun j hj => by
  rw [← hC, ctrIn, gb_app_r (by simp [lowB_len])]
  simp [lowB_len]
 have hks : ksB E N (e64 e) (e64 n) i = blockB E N C := by rw [← hC]; rfl
 rw [hks]
 let F : Nat → Nat → B8 := fun j t => if t < j ∨ (6 ≤ t ∧ t < 6 + j) then gb C t else 0#8
 let G : Nat → Nat → B8 := fun j t => if t < 12 + j then gb C t else 0#8
 have hF0 : tab 16 (F 0) = List.replicate 16 0#8 := by rw [← tab_const]; exact tab_ext fun t _ => if_neg (by omega)
 have hFG : tab 16 (F 6) = tab 16 (G 0) := tab_ext fun t ht => by
  by_cases h : t < 12
  ·rw [show F 6 t = gb C t from if_pos (by omega), show G 0 t = gb C t from if_pos (by omega)]
  ·rw [show F 6 t = 0#8 from if_neg (by omega), show G 0 t = 0#8 from if_neg (by omega)]
 have hG4 : tab 16 (G 4) = C := by exact (tab_ext fun t ht => if_pos (by omega)).trans (tab_gb hCl)
 have hFs : ∀ j, j < 6 → ((tab 16 (F j)).set j (gb C j)).set (6 + j) (gb C (6 + j)) = tab 16 (F (j + 1)) := fun j hj => by
  rw [set_tab, set_tab]
  refine tab_ext fun t ht => ?_
  by_cases h1 : t = 6 + j
  ·rw [if_pos h1, h1]; exact (if_pos (by omega)).symm
  ·rw [if_neg h1]
   by_cases h2 : t = j
   ·rw [if_pos h2, h2]; exact (if_pos (by omega)).symm
   ·rw [if_neg h2]
    by_cases h3 : t < j ∨ (6 ≤ t ∧ t < 6 + j)
    ·rw [show F j t = gb C t from if_pos h3]; exact (if_pos (by omega)).symm
    ·rw [show F j t = 0#8 from if_neg h3]; exact (if_neg (by omega)).symm
 have hGs : ∀ j, j < 4 → (tab 16 (G j)).set (12 + j) (gb C (12 + j)) = tab 16 (G (j + 1)) := fun j hj => by
  rw [set_tab]
  refine tab_ext fun t ht => ?_
  by_cases h1 : t = 12 + j
  ·rw [if_pos h1, h1]; exact (if_pos (by omega)).symm
  ·rw [if_neg h1]
   by_cases h3 : t < 12 + j
   ·rw [show G j t = gb C t from if_pos h3]; exact (if_pos (by omega)).symm
   ·rw [show G j t = 0#8 from if_neg h3]; exact (if_neg (by omega)).symm
 clear_value F G
 simp -implicitDefEqProofs (disch := (first | omega | (simp only [lq7] <;> omega) | fail)) only [admQ, lq7, aFill, AK.cls, implies_true, if_true, if_false, seval, -List.reduceReplicate]
 refine LoopW.on (fun j : Nat => [(0, .ptr c 0), (8, .ptr m.length 0), (9, .ptr (m.length + 1) 0), (10, x1), (11, x2), (12, x3), (13, .int .i64 j)]) (fun j => 6 - j) (fun j m' => j ≤ 6 ∧ m' = M3.set (m.length + 1) (.row (bys (tab 16 (F j))) false)) ?_ 0 _ _ rfl ⟨by omega, by rw [hF0, set_same o9']⟩
 rintro j m' X ⟨hj, rfl⟩ hX
 have o9j := own_set hl9 (bys (tab 16 (F j)))
 have hkj : Kept [m.length + 1] M3 (M3.set (m.length + 1) (.row (bys (tab 16 (F j))) false)) := .set1 _ _ _
 have rj : ∀ {x : AV} {l : List B8}, RdB M3 x l → (∀ b ∈ blkOf x, m.length + 1 < b) → RdB (M3.set (m.length + 1) (.row (bys (tab 16 (F j))) false)) x l := fun h hb =>
  h.kept hkj fun b o n cap s e => by have := hb b (by rw [e]; simp [blkOf]); simp; omega
 by_cases hlt : j < 6
 ·have q1 := hFs j hlt
  obtain ⟨p1, o1, cap1, s1, d1, rfl, hr1, hg1, hl1, hc1, hs1, ht1⟩ := (rj r1 (fun b hb => by have := b1 b hb; omega)).cons (show j < (lowB (e64 e) 6).length by rw [lowB_len]; exact hlt)
  obtain ⟨p2, o2, cap2, s2, d2, rfl, hr2, hg2, hl2, hc2, hs2, ht2⟩ := (rj r2 (fun b hb => by have := b2 b hb; omega)).cons (show j < (lowB (e64 n) 6).length by rw [lowB_len]; exact hlt)
  have e1 := hg1 j (by rw [lowB_len]; exact hlt)
  have e2 := hg2 j (by rw [lowB_len]; exact hlt)
  rw [v1 j hlt] at e1
  rw [v2 j hlt] at e2
  have hb1 := b1 p1 (by simp [blkOf])
  have hb2 := b2 p2 (by simp [blkOf])
  have hr2' : ∀ B : Blk, rowOf (M3.set (m.length + 1) B) p2 = some d2 := fun B => by
   rw [rowOf_set_ne (by omega)] at hr2 ⊢; exact hr2
  have o9s : ∀ x : List AV, own (M3.set (m.length + 1) (.row x false)) (m.length + 1) = some x := fun x => own_set hl9 x
  simp -implicitDefEqProofs (disch := (first | omega | (simp only [lq7] <;> omega) | fail)) only [admQ, lq7, aFill, AK.cls, implies_true, if_true, if_false, seval, -List.reduceReplicate, hr1, e1, hr2', e2, o9s, splice_byte, List.set_set, q1]
  exact hX (j + 1) _ _ rfl (by omega) ⟨by omega, rfl⟩
 ·obtain rfl : j = 6 := by omega
  rw [hFG] at hkj rj o9j ⊢
  simp -implicitDefEqProofs (disch := (first | omega | (simp only [lq7] <;> omega) | fail)) only [admQ, lq7, aFill, AK.cls, implies_true, if_true, if_false, seval, -List.reduceReplicate]
  clear hX
  refine LoopW.on (fun j : Nat => [(0, .ptr c 0), (8, .ptr m.length 0), (9, .ptr (m.length + 1) 0), (12, x3), (14, .int .i64 j)]) (fun j => 4 - j) (fun j m' => j ≤ 4 ∧ m' = M3.set (m.length + 1) (.row (bys (tab 16 (G j))) false)) ?_ 0 _ _ rfl ⟨by omega, rfl⟩
  clear hkj rj o9j
  rintro j m' X ⟨hj, rfl⟩ hX
  have hkj : Kept [m.length + 1] M3 (M3.set (m.length + 1) (.row (bys (tab 16 (G j))) false)) := .set1 _ _ _
  have o9s : ∀ x : List AV, own (M3.set (m.length + 1) (.row x false)) (m.length + 1) = some x := fun x => own_set hl9 x
  by_cases hlt : j < 4
  ·have q1 := hGs j hlt
   have r3' : RdB (M3.set (m.length + 1) (.row (bys (tab 16 (G j))) false)) x3 (lowB i 4) := r3.kept hkj fun b o n cap s e => by have := b3 b (by rw [e]; simp [blkOf]); simp; omega
   obtain ⟨p1, o1, cap1, s1, d1, rfl, hr1, hg1, hl1, hc1, hs1, ht1⟩ := r3'.cons (show j < (lowB i 4).length by rw [lowB_len]; exact hlt)
   have e1 := hg1 j (by rw [lowB_len]; exact hlt)
   rw [v3 j hlt] at e1
   simp -implicitDefEqProofs (disch := (first | omega | (simp only [lq7] <;> omega) | fail)) only [admQ, lq7, aFill, AK.cls, implies_true, if_true, if_false, seval, -List.reduceReplicate, hr1, e1, o9s, splice_byte, List.set_set, q1]
   exact hX (j + 1) _ _ rfl (by omega) ⟨by omega, rfl⟩
  ·obtain rfl : j = 4 := by omega
   rw [hG4] at hkj ⊢
   simp -implicitDefEqProofs (disch := (first | omega | (simp only [lq7] <;> omega) | fail)) only [admQ, lq7, aFill, AK.cls, implies_true, if_true, if_false, seval, -List.reduceReplicate, rowOf_own (o9s _)]
   have hk4 := hkM.write (q := m.length + 1) (.inr (by omega)) (.row (bys C) false)
   have o84 : own (M3.set (m.length + 1) (.row (bys C) false)) m.length = some (bys (List.replicate 16 0#8)) := by rw [own_set_ne (by omega)]; exact o8'
   generalize M3.set (m.length + 1) (.row (bys C) false) = M4 at *
   refine (ans_rblock (hc.kept0 hk4) C hCl).mono ?_
   rintro _ M5 ⟨rfl, hk5⟩
   have o85 := hk5.own0 o84
   have hl5 := own_lt o85
   have hbl := blkB_len E N C
   generalize blockB E N C = R at *
   simp -implicitDefEqProofs (disch := (first | omega | (simp only [lq7] <;> omega) | fail)) only [admQ, lq7, aFill, AK.cls, implies_true, if_true, if_false, seval, -List.reduceReplicate, o85, rowOf_set]
   exact (hk4.trans hk5).write (.inr (by omega)) _
theorem ans_rctrxor {m : Mem} {c N : Nat} {E : List B8} (hc : RCiph m c N E) (e n : Int) {x : AV} {b : List B8} (hx : RdB m x b) (hb : b.length ≤ 100000) : Ans Tryz.prog 105 [.ptr c 0, .int .i64 e, .int .i64 n, x] m fun r m' => Kept [] m m' ∧ GrB m.length m' r (xorB E N (e64 e) (e64 n) b) := by
 refine ans_ret mixed ok105 ?_
 simp -implicitDefEqProofs (disch := (first | omega | (simp only [lq7] <;> omega) | fail)) only [admQ, lq7, aFill, AK.cls, implies_true, if_true, if_false, seval, -List.reduceReplicate, c105, r105]
 have hxl := xorB_len E N (e64 e) (e64 n) b
 have hxv : ∀ q j, 16 * q + j < b.length → j < 16 → gb b (16 * q + j) ^^^ gb (ksB E N (e64 e) (e64 n) q) j = gb (xorB E N (e64 e) (e64 n) b) (16 * q + j) := fun q j h1 h2 => by
  rw [xorB, gb_tab _ h1, ksAt, show (16 * q + j) / 16 = q by omega, show (16 * q + j) % 16 = j by omega]
 generalize xorB E N (e64 e) (e64 n) b = Y at *
 refine LoopW.on (fun s : Nat × AV => [(0, .ptr c 0), (1, .int .i64 e), (2, .int .i64 n), (3, x), (9, s.2), (10, .int .i64 ((16 * s.1 : Nat) : Int))]) (fun s => b.length + 16 - 16 * s.1)
  (fun s m' => 16 * s.1 ≤ b.length + 15 ∧ Kept [] m m' ∧ GrB m.length m' s.2 (Y.take (16 * s.1))) ?_ (0, .nils) _ _ rfl ⟨by omega, .refl _ _, GrA.nils _ _ _⟩
 rintro ⟨q, xo⟩ m' X ⟨hq, hk, hg⟩ hX
 dsimp only at hq hg hX ⊢
 by_cases hlt : 16 * q < b.length
 ·have h16 : 16 * q / 16 = q := by omega
  simp -implicitDefEqProofs (disch := (first | omega | (simp only [lq7] <;> omega) | fail)) only [admQ, lq7, aFill, AK.cls, implies_true, if_true, if_false, seval, -List.reduceReplicate, (hx.kept0 hk).len, h16]
  refine (ans_rctrblock (hc.kept0 hk) e n q (by omega)).mono ?_
  rintro _ m1 ⟨rfl, hk1⟩
  have hKl := ksB_len E N (e64 e) (e64 n) q
  have hxv' := hxv q
  generalize ksB E N (e64 e) (e64 n) q = K at *
  simp -implicitDefEqProofs (disch := (first | omega | (simp only [lq7] <;> omega) | fail)) only [admQ, lq7, aFill, AK.cls, implies_true, if_true, if_false, seval, -List.reduceReplicate]
  have hkk := hk.trans hk1
  have hk2 : Kept [] m (m1 ++ [.row (bys K) false]) := hkk.more_app _
  have hK2 : own (m1 ++ [.row (bys K) false]) m1.length = some (bys K) := by simp -implicitDefEqProofs (disch := (first | omega | (simp only [lq7] <;> omega) | fail)) only [admQ, lq7, aFill, AK.cls, implies_true, if_true, if_false, seval, -List.reduceReplicate]
  have hg2 := (hg.kept0 hk1).kept0 (.app [] m1 [.row (bys K) false])
  have hml := hkk.len
  generalize m1 ++ [Blk.row (bys K) false] = m2 at *
  refine LoopW.on (fun s : Nat × AV => [(0, .ptr c 0), (1, .int .i64 e), (2, .int .i64 n), (3, x), (9, s.2), (10, .int .i64 ((16 * q : Nat) : Int)), (11, .ptr m1.length 0), (12, .int .i64 s.1)]) (fun s => 16 - s.1)
   (fun s m3 => s.1 ≤ 16 ∧ 16 * q + s.1 ≤ b.length ∧ Kept [] m m3 ∧ rowOf m3 m1.length = some (bys K) ∧ GrB m.length m3 s.2 (Y.take (16 * q + s.1)) ∧ ∀ b ∈ blkOf s.2, b ≠ m1.length) ?_ (0, xo) _ _ rfl ⟨by omega, by omega, hk2, rowOf_own hK2, hg2, fun b hb => by have := (hg.kept0 hk1).lt b hb; omega⟩
  rintro ⟨j, xo⟩ m3 X2 ⟨hj, hj2, hk3, hK3, hg3, hb3⟩ hX2
  dsimp only at hj hj2 hg3 hb3 hX2 ⊢
  by_cases h1 : j < 16
  ·by_cases h2 : 16 * q + j < b.length
   ·obtain ⟨p1, o1, cap1, s1, d1, rfl, hr1, hg1, hl1, hc1, hs1, ht1⟩ := (hx.kept0 hk3).cons h2
    have e1 := hg1 _ h2
    have e3 := hxv' j h2 h1
    obtain ⟨xo', m4, ha, hg4, hk4, hf4, hb4⟩ := GrA.push5 (bytes := 1) hg3 (by omega) (l := [b8 (gb Y (16 * q + j))]) rfl (by simp; omega) hk3.len
    have hl3 := rowOf_lt hK3
    have hkk4 := hf4 _ _ hk3 (Nat.le_refl _)
    simp -implicitDefEqProofs (disch := (first | omega | (simp only [lq7] <;> omega) | fail)) only [admQ, lq7, aFill, AK.cls, implies_true, if_true, if_false, seval, -List.reduceReplicate, hr1, e1, e3, ha, hK3, dec_t]
    refine hX2 (j + 1, xo') _ _ rfl (by simp; omega) ⟨by simp; omega, by simp; omega, hkk4, hk4.row hK3 (fun h => hb3 _ h rfl), ?_, fun b hb => by have := hb4 b hb; omega⟩
    rw [show 16 * q + (j + 1) = 16 * q + j + 1 by omega, take_gb (by omega)]
    simpa [GrB] using hg4
   ·simp -implicitDefEqProofs (disch := (first | omega | (simp only [lq7] <;> omega) | fail)) only [admQ, lq7, aFill, AK.cls, implies_true, if_true, if_false, seval, -List.reduceReplicate, (hx.kept0 hk3).len, dec_t, dec_f]
    refine hX (q + 1, xo) _ _ rfl (by simp; omega) ⟨by simp; omega, hk3, ?_⟩
    rw [List.take_of_length_le (by omega)] at hg3 ⊢
    exact hg3
  ·simp -implicitDefEqProofs (disch := (first | omega | (simp only [lq7] <;> omega) | fail)) only [admQ, lq7, aFill, AK.cls, implies_true, if_true, if_false, seval, -List.reduceReplicate, dec_f]
   refine hX (q + 1, xo) _ _ rfl (by simp; omega) ⟨by simp; omega, hk3, ?_⟩
   rw [show 16 * (q + 1) = 16 * q + j by omega]
   exact hg3
 ·simp -implicitDefEqProofs (disch := (first | omega | (simp only [lq7] <;> omega) | fail)) only [admQ, lq7, aFill, AK.cls, implies_true, if_true, if_false, seval, -List.reduceReplicate, (hx.kept0 hk).len]
  exact ⟨hk, by rwa [List.take_of_length_le (by omega)] at hg⟩
end Go.Proofs.YtoegmnnecanhfaaGreatDoor
end
section
namespace Go.Proofs.YtoegmnnecanhfaaGreatDoor
open Go Go.Adm
set_option linter.unusedSimpArgs false
abbrev W32 := BitVec 32
def kT : List W32 := [0x428a2f98#32, 0x71374491#32, 0xb5c0fbcf#32, 0xe9b5dba5#32, 0x3956c25b#32, 0x59f111f1#32, 0x923f82a4#32, 0xab1c5ed5#32,
 0xd807aa98#32, 0x12835b01#32, 0x243185be#32, 0x550c7dc3#32, 0x72be5d74#32, 0x80deb1fe#32, 0x9bdc06a7#32, 0xc19bf174#32,
 0xe49b69c1#32, 0xefbe4786#32, 0x0fc19dc6#32, 0x240ca1cc#32, 0x2de92c6f#32, 0x4a7484aa#32, 0x5cb0a9dc#32, 0x76f988da#32,
 0x983e5152#32, 0xa831c66d#32, 0xb00327c8#32, 0xbf597fc7#32, 0xc6e00bf3#32, 0xd5a79147#32, 0x06ca6351#32, 0x14292967#32,
 0x27b70a85#32, 0x2e1b2138#32, 0x4d2c6dfc#32, 0x53380d13#32, 0x650a7354#32, 0x766a0abb#32, 0x81c2c92e#32, 0x92722c85#32,
 0xa2bfe8a1#32, 0xa81a664b#32, 0xc24b8b70#32, 0xc76c51a3#32, 0xd192e819#32, 0xd6990624#32, 0xf40e3585#32, 0x106aa070#32,
 0x19a4c116#32, 0x1e376c08#32, 0x2748774c#32, 0x34b0bcb5#32, 0x391c0cb3#32, 0x4ed8aa4a#32, 0x5b9cca4f#32, 0x682e6ff3#32,
 0x748f82ee#32, 0x78a5636f#32, 0x84c87814#32, 0x8cc70208#32, 0x90befffa#32, 0xa4506ceb#32, 0xbef9a3f7#32, 0xc67178f2#32]
def gw (l : List W32) (i : Nat) : W32 := l.getD i 0
theorem gw_get {l : List W32} {i : Nat} (h : i < l.length) : l[i]? = some (gw l i) := by simp [gw, h]
abbrev wds (l : List W32) : List AV := l.map b32
theorem wds_at {l : List W32} {i : Nat} (h : i < l.length) : (wds l)[i]? = some (b32 (gw l i)) := map_get (gw_get h)
theorem wds_len (l : List W32) : (wds l).length = l.length := List.length_map ..
def rotR (x : W32) (n : Nat) : W32 := x >>> n ||| x <<< (32 - n)
def wd0 (b : List B8) (t : Nat) : W32 := (gb b (4 * t)).setWidth 32 <<< 24 ||| (gb b (4 * t + 1)).setWidth 32 <<< 16 ||| (gb b (4 * t + 2)).setWidth 32 <<< 8 ||| (gb b (4 * t + 3)).setWidth 32
def wdN (w : List W32) (t : Nat) : W32 :=
 (rotR (gw w (t - 2)) 17 ^^^ rotR (gw w (t - 2)) 19 ^^^ gw w (t - 2) >>> 10) + gw w (t - 7) + (rotR (gw w (t - 15)) 7 ^^^ rotR (gw w (t - 15)) 18 ^^^ gw w (t - 15) >>> 3) + gw w (t - 16)
def wS (b : List B8) : Nat → List W32
 | 0 => []
 | n + 1 => wS b n ++ [if n < 16 then wd0 b n else wdN (wS b n) n]
theorem wS_len (b : List B8) : ∀ n, (wS b n).length = n := by
 intro n
 induction n with
 | zero => rfl
 | succ n ih => simp [wS, ih]
structure S8 where
 a : W32
 b : W32
 c : W32
 d : W32
 e : W32
 f : W32
 g : W32
 h : W32
def S8.l (s : S8) : List W32 := [s.a, s.b, s.c, s.d, s.e, s.f, s.g, s.h]
def S8.cells (s : S8) : List AV := wds s.l
theorem S8.cells_len (s : S8) : s.cells.length = 8 := rfl
def S8.t1 (s : S8) (k w : W32) : W32 := s.h + (rotR s.e 6 ^^^ rotR s.e 11 ^^^ rotR s.e 25) + (s.e &&& s.f ^^^ ~~~s.e &&& s.g) + k + w
def S8.t2 (s : S8) : W32 := (rotR s.a 2 ^^^ rotR s.a 13 ^^^ rotR s.a 22) + (s.a &&& s.b ^^^ s.a &&& s.c ^^^ s.b &&& s.c)
def S8.rnd (s : S8) (k w : W32) : S8 := ⟨s.t1 k w + s.t2, s.a, s.b, s.c, s.d + s.t1 k w, s.e, s.f, s.g⟩
def S8.rnds (s : S8) (w : List W32) : Nat → S8
 | 0 => s
 | n + 1 => (s.rnds w n).rnd (gw kT n) (gw w n)
def S8.add (s r : S8) : S8 := ⟨s.a + r.a, s.b + r.b, s.c + r.c, s.d + r.d, s.e + r.e, s.f + r.f, s.g + r.g, s.h + r.h⟩
def S8.take (s : S8) (b : List B8) : S8 := s.add (s.rnds (wS b 64) 64)
def S8.first : S8 := ⟨0x6a09e667#32, 0xbb67ae85#32, 0x3c6ef372#32, 0xa54ff53a#32, 0x510e527f#32, 0x9b05688c#32, 0x1f83d9ab#32, 0x5be0cd19#32⟩
def S8.takes (s : S8) (b : List B8) : Nat → S8
 | 0 => s
 | n + 1 => (s.takes b n).take ((b.drop (64 * n)).take 64)
def S8.out (s : S8) : List B8 := tab 32 fun i => (gw s.l (i / 4) >>> (24 - 8 * (i % 4))).setWidth 8
theorem S8.out_len (s : S8) : s.out.length = 32 := tab_len _ _
def padZ (n : Nat) : Nat := (119 - n % 64) % 64
def pad (n : Nat) : List B8 := 0x80#8 :: (List.replicate (padZ n) 0#8 ++ lowB (8 * n) 8)
theorem pad_len (n : Nat) : (pad n).length = padZ n + 9 := by simp [pad, lowB_len]
theorem pad_mod (n : Nat) : (n + (pad n).length) % 64 = 0 := by rw [pad_len, padZ]; omega
def shaB (m : List B8) : List B8 := (S8.first.takes (m ++ pad m.length) ((m.length + (pad m.length).length) / 64)).out
theorem shaB_len (m : List B8) : (shaB m).length = 32 := S8.out_len _
theorem takes_congr {s : S8} {b c : List B8} : ∀ n, (b.take (64 * n)) = (c.take (64 * n)) → s.takes b n = s.takes c n := by
 intro n
 induction n with
 | zero => intro _; rfl
 | succ n ih =>
  intro h
  have e1 : b.take (64 * n) = c.take (64 * n) := by
   have := congrArg (List.take (64 * n)) h
   simpa [List.take_take, Nat.min_eq_left (show 64 * n ≤ 64 * (n + 1) by omega)] using this
  have e2 : (b.drop (64 * n)).take 64 = (c.drop (64 * n)).take 64 := by
   have := congrArg (List.drop (64 * n)) h
   simpa [List.drop_take, show 64 * (n + 1) - 64 * n = 64 by omega] using this
  rw [S8.takes, S8.takes, ih e1, e2]
theorem takes_add (s : S8) (b : List B8) (p : Nat) : ∀ n, s.takes b (p + n) = (s.takes b p).takes (b.drop (64 * p)) n := by
 intro n
 induction n with
 | zero => rfl
 | succ n ih =>
  rw [Nat.add_succ, S8.takes, S8.takes, ih, List.drop_drop, show 64 * p + 64 * n = 64 * (p + n) by omega]
end Go.Proofs.YtoegmnnecanhfaaGreatDoor
end
section
namespace Go.Proofs.YtoegmnnecanhfaaGreatDoor
open Go Go.Adm
set_option linter.unusedSimpArgs false
set_option linter.defProp false
set_option maxRecDepth 100000
theorem not_u32 {a : BitVec 32} : IntKind.u32.wrap (((BitVec.ofInt IntKind.u32.bits (if IntKind.u32.signed = true then -1 else IntKind.u32.max)) ^^^ (BitVec.ofInt IntKind.u32.bits (a.toNat : Int))).toNat : Int) = ((~~~a).toNat : Int) := by
 have e : (if IntKind.u32.signed = true then (-1 : Int) else IntKind.u32.max) = 4294967295 := rfl
 rw [e]
 refine (xor_lv_u32 (k := 4294967295)).trans ?_
 have : BitVec.ofNat 32 4294967295 ^^^ a = ~~~a := by
  rw [show BitVec.ofNat 32 4294967295 = BitVec.allOnes 32 from rfl, BitVec.allOnes_xor]
 rw [this]
def u32R := And.intro @not_u32 (And.intro @xor_vv_u32 (And.intro @and_vv_u32 (And.intro @or_vv_u32 (And.intro @shl_u32 (And.intro @shr_u32 (And.intro @conv_u32_8 @conv_u8_32))))))
theorem w64 {k : Nat} (h : k < 18446744073709551616) : IntKind.u64.wrap (k : Int) = k := by
 rw [wr_u64, BitVec.ofInt_natCast, BitVec.toNat_ofNat, Nat.mod_eq_of_lt h]
def lq8 := And.intro @lenB (@wS_len)
theorem ans_shaturn (x : W32) (n : Nat) (hn : n ≤ 32) (m : Mem) : Ans Tryz.prog 112 [b32 x, .int .u64 n] m fun r m' => r = b32 (rotR x n) ∧ m' = m := by
 refine ans_ret mixed ok112 ?_
 simp -implicitDefEqProofs (disch := (first | omega | (simp only [lq8] <;> omega) | fail)) only [admQ, lq8, aFill, AK.cls, implies_true, if_true, if_false, seval, -List.reduceReplicate, c112, r112, u32R, @w64]
 rfl
def wP (B : List B8) (i : Nat) : List W32 := wS B i ++ List.replicate (64 - i) 0#32
theorem wP_len (B : List B8) {i : Nat} (h : i ≤ 64) : (wP B i).length = 64 := by simp [wP, wS_len]; omega
theorem wP_zero (B : List B8) : wds (wP B 0) = List.replicate 64 (AV.int .u32 0) := by simp [wP, wS]
theorem wP_all (B : List B8) : wP B 64 = wS B 64 := by simp [wP]
theorem wP_gw (B : List B8) {i j : Nat} (h : j < i) : gw (wP B i) j = gw (wS B i) j := by
 simp only [gw, List.getD_eq_getElem?_getD, wP]
 rw [List.getElem?_append_left (by rw [wS_len]; omega)]
theorem wP_set (B : List B8) {i : Nat} (h : i < 64) (x : W32) (hx : x = if i < 16 then wd0 B i else wdN (wS B i) i) : (wP B i).set i x = wP B (i + 1) := by
 subst hx
 unfold wP
 rw [List.set_append_right _ _ (by rw [wS_len]; omega), wS_len, Nat.sub_self, show 64 - i = (64 - (i + 1)) + 1 by omega, List.replicate_succ, List.set_cons_zero, wS, List.append_assoc]
 rfl
theorem wP_at (B : List B8) {i j : Nat} (h : j < i) (hi : i ≤ 64) : (wds (wP B i))[j]? = some (b32 (gw (wS B i) j)) := by
 rw [wds_at (by rw [wP_len B hi]; omega), wP_gw B h]
theorem splice_wds {l : List W32} {i : Nat} {x : W32} (h : i < l.length) : splice (wds l) i [b32 x] = wds (l.set i x) := splice_map h
theorem ans_shatake (s : S8) {m : Mem} {x : AV} {B : List B8} (hK : rowOf m 0 = some (wds kT)) (hB : RdB m x B) (h64 : B.length = 64) :
  Ans Tryz.prog 97 [.agg s.cells, x] m fun r m' => r = .agg (s.take B).cells ∧ Kept [] m m' := by
 refine ans_ret mixed ok97 ?_
 obtain ⟨b, o, cap, sl, c, rfl, hrow, hat, hlen, hcap, hsl, _⟩ := hB.cons (i := 0) (by omega)
 rw [h64] at hat hlen hcap
 have hb := fun e => (Kept.app [] m e).row hrow (by simp)
 have hk := fun e => (Kept.app [] m e).row hK (by simp)
 rw [show B.length = 64 from h64]
 have hs : s.cells = [b32 s.a, b32 s.b, b32 s.c, b32 s.d, b32 s.e, b32 s.f, b32 s.g, b32 s.h] := rfl
 rw [hs]
 simp -implicitDefEqProofs (disch := (first | omega | (simp only [lq8] <;> omega) | fail)) only [admQ, lq8, aFill, AK.cls, implies_true, if_true, if_false, seval, -List.reduceReplicate, c97, r97, u32R]
 rw [← wP_zero B]
 refine LoopW.on (fun i : Nat => [(1, .sl b o 64 cap sl), (2, .ptr (List.length m) 0), (4, .ptr (List.length m + 1) 0), (5, .ptr (List.length m + 2) 0), (21, .int .i64 i)]) (fun i => 16 - i)
  (fun i m' => i ≤ 16 ∧ m' = m ++ [.row [b32 s.a, b32 s.b, b32 s.c, b32 s.d, b32 s.e, b32 s.f, b32 s.g, b32 s.h] false, .row (List.replicate 8 (.int .u32 0)) false, .row (wds (wP B i)) false]) ?_ 0 _ _ rfl ⟨by omega, rfl⟩
 rintro i m' X ⟨hi, rfl⟩ hX
 have hl := wP_len B (i := i) (by omega)
 by_cases hlt : i < 16
 ·have hset := wP_set B (i := i) (by omega) (wd0 B i) (by rw [if_pos hlt])
  simp -implicitDefEqProofs (disch := (first | omega | (simp only [lq8] <;> omega) | fail)) only [admQ, lq8, aFill, AK.cls, implies_true, if_true, if_false, seval, -List.reduceReplicate, u32R, hb, hat, @splice_wds]
  refine hX (i + 1) _ _ rfl (by omega) ⟨by omega, ?_⟩
  rw [← hset]; rfl
 ·obtain rfl : i = 16 := by omega
  simp -implicitDefEqProofs (disch := (first | omega | (simp only [lq8] <;> omega) | fail)) only [admQ, lq8, aFill, AK.cls, implies_true, if_true, if_false, seval, -List.reduceReplicate]
  clear hX X hat hb
  refine LoopW.on (fun i : Nat => [(2, .ptr (List.length m) 0), (4, .ptr (List.length m + 1) 0), (5, .ptr (List.length m + 2) 0), (7, .int .i64 i)]) (fun i => 64 - i)
   (fun i m' => 16 ≤ i ∧ i ≤ 64 ∧ m' = m ++ [.row [b32 s.a, b32 s.b, b32 s.c, b32 s.d, b32 s.e, b32 s.f, b32 s.g, b32 s.h] false, .row (List.replicate 8 (.int .u32 0)) false, .row (wds (wP B i)) false]) ?_ 16 _ _ rfl ⟨by omega, by omega, rfl⟩
  rintro i m' X ⟨h16, hi, rfl⟩ hX
  have hl := wP_len B (i := i) (by omega)
  have hw : ∀ j, j < i → (wds (wP B i))[j]? = some (b32 (gw (wS B i) j)) := fun j hj => wP_at B hj hi
  by_cases hlt : i < 64
  ·have hset := wP_set B (i := i) hlt (wdN (wS B i) i) (by rw [if_neg (by omega)])
   simp -implicitDefEqProofs (disch := (first | omega | (simp only [lq8] <;> omega) | fail)) only [admQ, lq8, aFill, AK.cls, implies_true, if_true, if_false, seval, -List.reduceReplicate, u32R, hw, @splice_wds]
   refine (ans_shaturn _ 17 (by omega) _).mono ?_
   rintro _ _ ⟨rfl, rfl⟩
   simp -implicitDefEqProofs (disch := (first | omega | (simp only [lq8] <;> omega) | fail)) only [admQ, lq8, aFill, AK.cls, implies_true, if_true, if_false, seval, -List.reduceReplicate, u32R, hw, @splice_wds]
   refine (ans_shaturn _ 19 (by omega) _).mono ?_
   rintro _ _ ⟨rfl, rfl⟩
   simp -implicitDefEqProofs (disch := (first | omega | (simp only [lq8] <;> omega) | fail)) only [admQ, lq8, aFill, AK.cls, implies_true, if_true, if_false, seval, -List.reduceReplicate, u32R, hw, @splice_wds]
   refine (ans_shaturn _ 7 (by omega) _).mono ?_
   rintro _ _ ⟨rfl, rfl⟩
   simp -implicitDefEqProofs (disch := (first | omega | (simp only [lq8] <;> omega) | fail)) only [admQ, lq8, aFill, AK.cls, implies_true, if_true, if_false, seval, -List.reduceReplicate, u32R, hw, @splice_wds]
   refine (ans_shaturn _ 18 (by omega) _).mono ?_
   rintro _ _ ⟨rfl, rfl⟩
   simp -implicitDefEqProofs (disch := (first | omega | (simp only [lq8] <;> omega) | fail)) only [admQ, lq8, aFill, AK.cls, implies_true, if_true, if_false, seval, -List.reduceReplicate, u32R, hw, @splice_wds]
   refine hX (i + 1) _ _ rfl (by omega) ⟨by omega, by omega, ?_⟩
   rw [← hset]; rfl
  ·obtain rfl : i = 64 := by omega
   simp -implicitDefEqProofs (disch := (first | omega | (simp only [lq8] <;> omega) | fail)) only [admQ, lq8, aFill, AK.cls, implies_true, if_true, if_false, seval, -List.reduceReplicate]
   clear hX X
   have hkT : ∀ j, j < 64 → (wds kT)[j]? = some (b32 (gw kT j)) := fun j hj => wds_at hj
   generalize hW : wP B 64 = W at *
   rw [wP_all] at hW
   refine LoopW.on (fun i : Nat => [(2, .ptr (List.length m) 0), (4, .ptr (List.length m + 1) 0), (5, .ptr (List.length m + 2) 0), (10, b32 (s.rnds W i).a), (11, b32 (s.rnds W i).b), (12, b32 (s.rnds W i).c), (13, b32 (s.rnds W i).d), (14, b32 (s.rnds W i).e), (15, b32 (s.rnds W i).f), (16, b32 (s.rnds W i).g), (17, b32 (s.rnds W i).h), (117, .int .i64 i)]) (fun i => 64 - i)
    (fun i m' => i ≤ 64 ∧ m' = m ++ [.row [b32 s.a, b32 s.b, b32 s.c, b32 s.d, b32 s.e, b32 s.f, b32 s.g, b32 s.h] false, .row (List.replicate 8 (.int .u32 0)) false, .row (wds W) false]) ?_ 0 _ _ rfl ⟨by omega, rfl⟩
   clear hlt h16 hi
   rw [hW] at hw
   rintro i m' X ⟨hi, rfl⟩ hX
   generalize hr : s.rnds W i = r at *
   by_cases hlt : i < 64
   ·simp -implicitDefEqProofs (disch := (first | omega | (simp only [lq8] <;> omega) | fail)) only [admQ, lq8, aFill, AK.cls, implies_true, if_true, if_false, seval, -List.reduceReplicate, u32R, hw, hk, hkT]
    refine (ans_shaturn _ 6 (by omega) _).mono ?_
    rintro _ _ ⟨rfl, rfl⟩
    simp -implicitDefEqProofs (disch := (first | omega | (simp only [lq8] <;> omega) | fail)) only [admQ, lq8, aFill, AK.cls, implies_true, if_true, if_false, seval, -List.reduceReplicate, u32R, hw, hk, hkT]
    refine (ans_shaturn _ 11 (by omega) _).mono ?_
    rintro _ _ ⟨rfl, rfl⟩
    simp -implicitDefEqProofs (disch := (first | omega | (simp only [lq8] <;> omega) | fail)) only [admQ, lq8, aFill, AK.cls, implies_true, if_true, if_false, seval, -List.reduceReplicate, u32R, hw, hk, hkT]
    refine (ans_shaturn _ 25 (by omega) _).mono ?_
    rintro _ _ ⟨rfl, rfl⟩
    simp -implicitDefEqProofs (disch := (first | omega | (simp only [lq8] <;> omega) | fail)) only [admQ, lq8, aFill, AK.cls, implies_true, if_true, if_false, seval, -List.reduceReplicate, u32R, hw, hk, hkT]
    refine (ans_shaturn _ 2 (by omega) _).mono ?_
    rintro _ _ ⟨rfl, rfl⟩
    simp -implicitDefEqProofs (disch := (first | omega | (simp only [lq8] <;> omega) | fail)) only [admQ, lq8, aFill, AK.cls, implies_true, if_true, if_false, seval, -List.reduceReplicate, u32R, hw, hk, hkT]
    refine (ans_shaturn _ 13 (by omega) _).mono ?_
    rintro _ _ ⟨rfl, rfl⟩
    simp -implicitDefEqProofs (disch := (first | omega | (simp only [lq8] <;> omega) | fail)) only [admQ, lq8, aFill, AK.cls, implies_true, if_true, if_false, seval, -List.reduceReplicate, u32R, hw, hk, hkT]
    refine (ans_shaturn _ 22 (by omega) _).mono ?_
    rintro _ _ ⟨rfl, rfl⟩
    simp -implicitDefEqProofs (disch := (first | omega | (simp only [lq8] <;> omega) | fail)) only [admQ, lq8, aFill, AK.cls, implies_true, if_true, if_false, seval, -List.reduceReplicate, u32R, hw, hk, hkT]
    refine hX (i + 1) _ _ ?_ (by omega) ⟨by omega, rfl⟩
    rw [S8.rnds, hr]; rfl
   ·obtain rfl : i = 64 := by omega
    simp -implicitDefEqProofs (disch := (first | omega | (simp only [lq8] <;> omega) | fail)) only [admQ, lq8, aFill, AK.cls, implies_true, if_true, if_false, seval, -List.reduceReplicate, u32R]
    subst hr
    subst hW
    refine ⟨rfl, .app [] _ _⟩
end Go.Proofs.YtoegmnnecanhfaaGreatDoor
end
section
namespace Go.Proofs.YtoegmnnecanhfaaGreatDoor
open Go Go.Adm
set_option linter.unusedSimpArgs false
set_option linter.unusedVariables false
set_option maxRecDepth 100000
def Low (m0 : Nat) (m m' : Mem) : Prop := m.length ≤ m'.length ∧ ∀ q, q < m0 → m'[q]? = m[q]?
theorem Low.trans {m0 : Nat} {a b c : Mem} (h : Low m0 a b) (k : Low m0 b c) : Low m0 a c := ⟨Nat.le_trans h.1 k.1, fun q hq => (k.2 q hq).trans (h.2 q hq)⟩
theorem Low.kept {m0 : Nat} {m m' M : Mem} {Y : List Nat} (h : Low m0 m m') (hk : Kept Y M m) (hM : M.length ≤ m0) : Kept Y M m' :=
 ⟨Nat.le_trans hk.len h.1, fun q h1 h2 => (h.2 q (by omega)).trans (hk.eq q h1 h2)⟩
theorem Low.of_kept {m0 : Nat} {m m' : Mem} {Y : List Nat} (h : Kept Y m m') (hY : ∀ q ∈ Y, m0 ≤ q) (hm : m0 ≤ m.length) : Low m0 m m' :=
 ⟨h.len, fun q hq => h.eq q (by omega) fun hm => by have := hY q hm; omega⟩
theorem Low.of_all {m0 : Nat} {m m' : Mem} (h : ∀ (Y : List Nat) (M : Mem), Kept Y M m → M.length ≤ m0 → Kept Y M m') (hm : m0 ≤ m.length) (hl : m.length ≤ m'.length) : Low m0 m m' := by
 have hk : Kept [] (m.take m0) m := by
  refine ⟨by simp; omega, fun q hq _ => ?_⟩
  simp only [List.length_take] at hq
  rw [List.getElem?_take_of_lt (by omega)]
 have := h _ _ hk (by simp; omega)
 refine ⟨hl, fun q hq => ?_⟩
 rw [this.eq q (by simp; omega) (by simp), List.getElem?_take_of_lt hq]
theorem Low.row {m0 : Nat} {m m' : Mem} (h : Low m0 m m') {b : Nat} {c : List AV} (hr : rowOf m b = some c) (hb : b < m0) : rowOf m' b = some c := rowOf_at hr (h.2 b hb)
theorem Low.rd {m0 : Nat} {m m' : Mem} (h : Low m0 m m') {x : AV} {l : List B8} (hr : RdB m x l) (hb : ∀ b ∈ blkOf x, b < m0) : RdB m' x l := hr.at_ fun b hm => h.2 b (hb b hm)
theorem Low.less {m0 m1 : Nat} {m m' : Mem} (h : Low m0 m m') (h1 : m1 ≤ m0) : Low m1 m m' := ⟨h.1, fun q hq => h.2 q (by omega)⟩
structure Dig (m0 : Nat) (m : Mem) (h : Nat) (M : List B8) : Prop where
 row : ∃ x, own m h = some ((S8.first.takes M (M.length / 64)).cells ++ [x, .int .i64 M.length]) ∧ GrB m0 m x (M.drop (64 * (M.length / 64))) ∧ h ∉ blkOf x
 low : m0 ≤ h
theorem grb_pushs6 {m0 : Nat} {m : Mem} {x y : AV} {l l2 : List B8} (h : GrB m0 m x l) (hy : RdB m y l2) (hb : l.length + l2.length ≤ 1099511627776) (hm : m0 ≤ m.length) :
  ∃ x' m', aAppend 1 1 x y m = some (x', m') ∧ GrB m0 m' x' (l ++ l2) ∧ Kept (blkOf x) m m' ∧ (∀ (Y : List Nat) (M : Mem), Kept Y M m → M.length ≤ m0 → Kept Y M m') ∧ ∀ b ∈ blkOf x', b ∈ blkOf x ∨ m.length ≤ b := by
 obtain ⟨x', m', h1, h2, h3, h4, h5⟩ := GrA.pushs5 (bytes := 1) h (by omega) hy.elems hy.lenA (by simp) (by simp; omega) hm
 refine ⟨x', m', h1, by simpa [GrB] using h2, h3, h4, ?_⟩
 by_cases hz : l2.length = 0
 ·have e := app_none (m := m) (size := 1) (bytes := 1) (s := x) (x := y) (by rw [hy.lenA, hz]) (by rcases h with ⟨_, rfl | ⟨b, rfl, _⟩⟩ | ⟨b, n, _, _, rfl, _⟩ <;> rfl)
  rw [h1] at e; cases e; exact fun b hb => .inl hb
 ·exact fun b hb => .inr (h5 (by omega) b hb)
theorem gr_one {sz m0 : Nat} {m : Mem} {x : AV} {c : List AV} (h : GrA sz m0 m x c) : cellsV x = [x] ∧ x.solid = true := by
 rcases h with ⟨_, rfl | ⟨b, rfl, _⟩⟩ | ⟨b, n, _, _, rfl, _⟩ <;> exact ⟨rfl, rfl⟩
theorem S8.cells_eq (s : S8) : s.cells = [b32 s.a, b32 s.b, b32 s.c, b32 s.d, b32 s.e, b32 s.f, b32 s.g, b32 s.h] := rfl
theorem takes_more (s : S8) (M B : List B8) : s.takes (M ++ B) (M.length / 64) = s.takes M (M.length / 64) := takes_congr _ (by
 rw [List.take_append_of_le_length (by omega)])
theorem drop_more (M B : List B8) : (M ++ B).drop (64 * (M.length / 64)) = M.drop (64 * (M.length / 64)) ++ B := List.drop_append_of_le_length (by omega)
theorem grb_drop {m0 : Nat} {m : Mem} {x : AV} {T : List B8} (g : GrB m0 m x T) {k : Nat} (hk : k ≤ T.length) :
  ∃ z, pSlice 1 true false false [x, .int .i64 (k : Int)] = some z ∧ RdB m z (T.drop k) ∧ ∀ b ∈ blkOf z, b ∈ blkOf x := by
 have hr := g.rd
 rcases g with ⟨h0, rfl | ⟨b, rfl, h⟩⟩ | ⟨b, n, h1, h2, rfl, h4, h5⟩
 ·obtain rfl : T = [] := by simpa using h0
  obtain rfl : k = 0 := by simpa using hk
  exact ⟨.nils, rfl, hr, fun _ h => h⟩
 ·obtain rfl : T = [] := by simpa using h0
  obtain rfl : k = 0 := by simpa using hk
  exact ⟨.sl b 0 0 0 0, rfl, hr, fun _ h => h⟩
 ·have e : T.length = n := by simpa using h2
  subst e
  refine ⟨.sl b (0 + k) (T.length - k) (T.length - k) 1, ?_, hr.drop hk, fun _ h => h⟩
  simp only [pSlice, bounds, bnd, or_true, if_true, Option.bind_some, Option.map_some]
  rw [if_pos (show (0 : Int) ≤ (k : Int) ∧ (k : Int) ≤ (T.length : Int) from ⟨by omega, by omega⟩)]
  simp only [Option.map_some, Int.toNat_natCast, Nat.mul_one]
  rfl
theorem ans_shanew (m : Mem) : Ans Tryz.prog 76 [] m fun r m' => r = .ptr m.length 0 ∧ Kept [] m m' ∧ Dig m.length m' m.length [] := by
 refine ans_ret mixed ok76 ?_
 simp -implicitDefEqProofs (disch := (first | omega | (simp only [lq8] <;> omega) | fail)) only [admQ, lq8, aFill, AK.cls, implies_true, if_true, if_false, seval, -List.reduceReplicate, c76, r76]
 exact ⟨.app _ _ _, ⟨⟨.nils, by rw [own_app_at0]; rfl, .nils .., by simp [blkOf]⟩, Nat.le_refl _⟩⟩
theorem ans_shaadd {m0 : Nat} {m : Mem} {h : Nat} {M B : List B8} {y : AV} (hd : Dig m0 m h M) (hK : rowOf m 0 = some (wds kT)) (h0 : 0 < m0) (hB : RdB m y B) (hy : ∀ b ∈ blkOf y, b < m0) (hlen : M.length + B.length ≤ 1000000000) :
  Ans Tryz.prog 77 [.ptr h 0, y] m fun r m' => r = .tup [] ∧ Low m0 m m' ∧ Dig m0 m' h (M ++ B) := by
 refine ans_ret mixed ok77 ?_
 obtain ⟨x, ho, hx, hnx⟩ := hd.row
 have hlo := own_lt ho
 generalize hs : S8.first.takes M (M.length / 64) = s at ho
 have hc : s.cells = [b32 s.a, b32 s.b, b32 s.c, b32 s.d, b32 s.e, b32 s.f, b32 s.g, b32 s.h] := rfl
 rw [hc] at ho
 simp -implicitDefEqProofs (disch := (first | omega | (simp only [lq8] <;> omega) | fail)) only [admQ, lq8, aFill, AK.cls, implies_true, if_true, if_false, seval, -List.reduceReplicate, c77, r77, rowOf_own ho, ho, hB.len, own_set hlo, rowOf_own (own_set hlo _), Nat.reduceAdd]
 have hh := hd.low
 have hny : h ∉ blkOf y := fun hm => by have := hy h hm; omega
 generalize hm1 : List.set m h (Blk.row _ false) = m1
 have k0 : Kept [h] m m1 := by subst hm1; exact .set1 _ _ _
 have o1 := own_set hlo [b32 s.a, b32 s.b, b32 s.c, b32 s.d, b32 s.e, b32 s.f, b32 s.g, b32 s.h, x, .int .i64 ↑(M.length + B.length)]
 rw [hm1] at o1
 have l1 : m1.length = m.length := by subst hm1; simp
 clear hm1
 obtain ⟨x1, m2, e1, g1, k1, a1, n1⟩ := grb_pushs6 (hx.kept k0 (by simp only [List.mem_singleton]; rintro b hb rfl; exact hnx hb)) (hB.kept k0 (by rintro b o n cap s rfl; simpa [blkOf, eq_comm] using hny)) (by simp; omega) (by omega)
 refine someW_eq e1 ?_
 have o2 := k1.own o1 hnx
 have hx1 : h ∉ blkOf x1 := fun hm => (n1 h hm).elim hnx (fun h' => by omega)
 simp -implicitDefEqProofs (disch := (first | omega | (simp only [lq8] <;> omega) | fail)) only [admQ, lq8, aFill, AK.cls, implies_true, if_true, if_false, seval, -List.reduceReplicate, rowOf_own o2, o2, (gr_one g1).1, (gr_one g1).2]
 have w2 : Low m0 m m2 := (Low.of_kept k0 (by simpa using hh) (by omega)).trans (.of_all a1 (by omega) k1.len)
 have hl2 := own_lt o2
 generalize hm3 : List.set m2 h (Blk.row _ false) = m3
 have k3 : Kept [h] m2 m3 := by subst hm3; exact .set1 _ _ _
 have o3 := own_set hl2 [b32 s.a, b32 s.b, b32 s.c, b32 s.d, b32 s.e, b32 s.f, b32 s.g, b32 s.h, x1, .int .i64 ↑(M.length + B.length)]
 rw [hm3] at o3
 clear hm3
 have w3 : Low m0 m m3 := w2.trans (.of_kept k3 (by simpa using hh) (by have := w2.1; omega))
 replace g1 := g1.kept k3 (by simp only [List.mem_singleton]; rintro b hb rfl; exact hx1 hb)
 rw [← drop_more] at g1
 generalize hq : M.length / 64 = q at *
 generalize hT : (M ++ B).drop (64 * q) = T at *
 have hTl : T.length = M.length + B.length - 64 * q := by rw [← hT]; simp
 have hq64 : 64 * q ≤ M.length := by omega
 refine LoopW.on (fun i : Nat => [(0, .ptr h 0), (4, .int .i64 ((64 * i : Nat) : Int))]) (fun i => T.length - 64 * i)
  (fun i m' => 64 * i ≤ T.length ∧ Low m0 m m' ∧ own m' h = some ((S8.first.takes (M ++ B) (q + i)).cells ++ [x1, .int .i64 ↑(M.length + B.length)]) ∧ GrB m0 m' x1 T) ?_ 0 _ _ rfl ⟨by omega, w3, ?_, g1⟩
 ·rintro i m' X ⟨hi, w, o, g⟩ hX
  generalize hr : S8.first.takes (M ++ B) (q + i) = r at o
  rw [S8.cells_eq] at o
  have hlo' := own_lt o
  by_cases hlt : 64 * i + 64 ≤ T.length
  ·obtain ⟨b, n, rfl, hn0, hn, hb, hb0⟩ := g.sl (by intro e; have : T = [] := List.map_eq_nil_iff.mp e; simp [this] at hlt)
   rw [List.length_map, Nat.mul_one] at hn
   subst hn
   simp -implicitDefEqProofs (disch := (first | omega | (simp only [lq8] <;> omega) | fail)) only [admQ, lq8, aFill, AK.cls, implies_true, if_true, if_false, seval, -List.reduceReplicate, rowOf_own o, o, own_set hlo', Nat.reduceAdd]
   rw [show 64 * i + 64 - 64 * i = 64 by omega]
   have hrd := (g.rd.drop (k := 64 * i) (by omega)).take (k := 64) (by omega)
   rw [Nat.zero_add] at hrd
   refine (ans_shatake r (w.row hK h0) hrd (by simp; omega)).mono ?_
   rintro _ m4 ⟨rfl, k4⟩
   have o4 := k4.own o (by simp)
   have hl4 := own_lt o4
   simp -implicitDefEqProofs (disch := (first | omega | (simp only [lq8] <;> omega) | fail)) only [admQ, lq8, aFill, AK.cls, implies_true, if_true, if_false, seval, -List.reduceReplicate, rowOf_own o4, o4, S8.cells_eq, rowOf_own o, Nat.reduceAdd]
   have hml : m0 ≤ m'.length := by omega
   have hml4 := k4.len
   refine hX (i + 1) _ _ rfl (by omega) ⟨by omega, w.trans ((Low.of_kept k4 (by simp) hml).trans (.of_kept (.set1 _ h _) (by simpa using hh) (by omega))), ?_, (g.kept0 k4).kept (.set1 _ h _) (by simp only [List.mem_singleton]; rintro b' hb' rfl; exact hx1 hb')⟩
   rw [own_set hl4, ← Nat.add_assoc, S8.takes, hr, show (M ++ B).drop (64 * (q + i)) = T.drop (64 * i) by rw [← hT, List.drop_drop, Nat.mul_add]]
   rfl
  ·have hrow := fun e => (Kept.app [] m' e).row (rowOf_own o) (by simp)
   obtain ⟨z, hz, hzr, hzb⟩ := grb_drop g hi
   simp -implicitDefEqProofs (disch := (first | omega | (simp only [lq8] <;> omega) | fail)) only [admQ, lq8, aFill, AK.cls, implies_true, if_true, if_false, seval, -List.reduceReplicate, rowOf_own o, o, g.len, hrow, hz]
   have gz : GrB m0 (m' ++ [Blk.row [] false]) (.sl m'.length 0 0 0 0) [] := .zero (by rw [own_app_at0]; rfl)
   obtain ⟨x2, m5, e5, g5, k5, a5, n5⟩ := grb_pushs6 gz (hzr.app _) (by simp; omega) (by simp; omega)
   refine someW_eq e5 ?_
   have o5 := k5.own ((Kept.app [] m' _).own o (by simp)) (by simp [blkOf]; omega)
   have hl5 := own_lt o5
   have hx2 : h ∉ blkOf x2 := fun hm => (n5 h hm).elim (by simp [blkOf]; omega) (by simp; omega)
   simp -implicitDefEqProofs (disch := (first | omega | (simp only [lq8] <;> omega) | fail)) only [admQ, lq8, aFill, AK.cls, implies_true, if_true, if_false, seval, -List.reduceReplicate, rowOf_own o5, o5, (gr_one g5).1, (gr_one g5).2]
   have hml : m0 ≤ m'.length := by omega
   have hml5 := k5.len
   simp only [List.length_append, List.length_singleton] at hml5
   have hqi : (M ++ B).length / 64 = q + i := by simp only [List.length_append]; omega
   refine ⟨w.trans ((Low.of_kept (.app [] m' _) (by simp) hml).trans ((Low.of_all a5 (by simp; omega) k5.len).trans (.of_kept (.set1 _ h _) (by simpa using hh) (by omega)))), ⟨⟨x2, ?_, ?_, hx2⟩, hh⟩⟩
   ·rw [own_set hl5, hqi, hr, List.length_append]; rfl
   ·rw [hqi, show (M ++ B).drop (64 * (q + i)) = T.drop (64 * i) by rw [← hT, List.drop_drop, Nat.mul_add]]
    exact g5.kept (.set1 _ h _) (by simp only [List.mem_singleton]; rintro b' hb' rfl; exact hx2 hb')
 ·rw [o3, Nat.add_zero, ← hq, takes_more, hq, hs]; rfl
end Go.Proofs.YtoegmnnecanhfaaGreatDoor
end
section
namespace Go.Proofs.YtoegmnnecanhfaaGreatDoor
open Go Go.Adm
set_option linter.unusedSimpArgs false
set_option linter.unusedVariables false
set_option maxRecDepth 100000
def shaTail (M : List B8) : List B8 := M.drop (64 * (M.length / 64))
theorem shaTail_len (M : List B8) : (shaTail M).length = M.length % 64 := by simp [shaTail]; omega
theorem ans_shasum {m0 : Nat} {m : Mem} {h : Nat} {M : List B8} (hd : Dig m0 m h M) (hK : rowOf m 0 = some (wds kT)) (hlen : M.length ≤ 1000000000) :
  Ans Tryz.prog 78 [.ptr h 0] m fun r m' => r = .agg (bys (shaB M)) ∧ Kept [] m m' := by
 refine ans_ret mixed ok78 ?_
 obtain ⟨x, ho, hx, hnx⟩ := hd.row
 have hlo := own_lt ho
 rw [← shaTail] at hx
 generalize hs : S8.first.takes M (M.length / 64) = s at ho
 rw [S8.cells_eq] at ho
 have hrow := fun e => (Kept.app [] m e).row (rowOf_own ho) (by simp)
 have hhm : h < m.length := hlo
 simp -implicitDefEqProofs (disch := (first | omega | (simp only [lq8] <;> omega) | fail)) only [admQ, lq8, aFill, AK.cls, implies_true, if_true, if_false, seval, -List.reduceReplicate, c78, r78, hrow]
 have hA : (m ++ [Blk.row (bys (List.replicate 32 0#8)) false]).length = m.length + 1 := by simp
 have oA : own (m ++ [Blk.row (bys (List.replicate 32 0#8)) false]) m.length = some (bys (List.replicate 32 0#8)) := by rw [own_app_at0]; rfl
 have kA : Kept [] m (m ++ [Blk.row (bys (List.replicate 32 0#8)) false]) := .app _ _ _
 rw [show m ++ [Blk.row (bys (List.replicate 32 0#8)) false, Blk.row [] false] = (m ++ [Blk.row (bys (List.replicate 32 0#8)) false]) ++ [Blk.row [] false] by simp]
 generalize m ++ [Blk.row (bys (List.replicate 32 0#8)) false] = A at hA oA kA
 have gz : GrB A.length (A ++ [Blk.row [] false]) (.sl (m.length + 1) 0 0 0 0) [] := .zero (by rw [← hA, own_app_at0]; rfl)
 have hxr : RdB (A ++ [Blk.row [] false]) x (shaTail M) := (hx.rd.kept0 kA).app _
 have htl := shaTail_len M
 obtain ⟨x1, m2, e1, g1, k1, a1, n1⟩ := grb_pushs6 gz hxr (by simp; omega) (by simp)
 refine someW_eq e1 ?_
 have w1 : Low A.length A m2 := (Low.of_kept (.app [] A _) (by simp) (Nat.le_refl _)).trans (.of_all a1 (by simp) k1.len)
 rw [List.nil_append] at g1
 have lenm2 := w1.1
 clear k1 a1 n1 e1 gz hxr
 simp -implicitDefEqProofs (disch := (first | omega | (simp only [lq8] <;> omega) | fail)) only [admQ, lq8, aFill, AK.cls, implies_true, if_true, if_false, seval, -List.reduceReplicate]
 obtain ⟨x2, m3, e2, g2, k2, a2⟩ := g1.push 0x80#8 (by omega) (by omega)
 refine someW_eq e2 ?_
 have w2 : Low A.length A m3 := w1.trans (.of_all a2 (by omega) k2.len)
 clear e2 a2 k2 g1 w1 lenm2
 simp -implicitDefEqProofs (disch := (first | omega | (simp only [lq8] <;> omega) | fail)) only [admQ, lq8, aFill, AK.cls, implies_true, if_true, if_false, seval, -List.reduceReplicate]
 have w : Low A.length A m3 := w2
 clear w2
 refine LoopW.on (fun t : Nat × AV => [(0, .ptr h 0), (2, .ptr m.length 0), (3, t.2)]) (fun t => padZ M.length - t.1)
  (fun t m' => t.1 ≤ padZ M.length ∧ Low A.length A m' ∧ GrB A.length m' t.2 (shaTail M ++ [0x80#8] ++ List.replicate t.1 0#8)) ?_ (0, x2) _ _ rfl ⟨by omega, w, by simpa using g2⟩
 clear w g2
 rintro ⟨j, x1⟩ m1 X ⟨hj, w, g⟩ hX
 change GrB A.length m1 x1 (shaTail M ++ [0x80#8] ++ List.replicate j 0#8) at g
 simp only at hj
 have hpz : padZ M.length < 64 := Nat.mod_lt _ (by omega)
 have hfl : (shaTail M ++ [0x80#8] ++ List.replicate j 0#8).length = M.length % 64 + 1 + j := by simp [htl]; omega
 by_cases hlt : j < padZ M.length
 ·have hne : (M.length % 64 + 1 + j) % 64 ≠ 56 := by unfold padZ at *; omega
  simp -implicitDefEqProofs (disch := (first | omega | (simp only [lq8] <;> omega) | fail)) only [admQ, lq8, aFill, AK.cls, implies_true, if_true, if_false, seval, -List.reduceReplicate, g.len, hfl]
  obtain ⟨x2, m2, e2, g2, k2, a2⟩ := g.push 0#8 (by omega) (by have := w.1; omega)
  refine someW_eq e2 ?_
  simp -implicitDefEqProofs (disch := (first | omega | (simp only [lq8] <;> omega) | fail)) only [admQ, lq8, aFill, AK.cls, implies_true, if_true, if_false, seval, -List.reduceReplicate]
  refine hX (j + 1, x2) _ _ rfl (by simp only; omega) ⟨by simp only; omega, w.trans (.of_all a2 w.1 k2.len), ?_⟩
  rw [List.replicate_succ', ← List.append_assoc]; exact g2
 ·obtain rfl : j = padZ M.length := by omega
  have hne : (M.length % 64 + 1 + padZ M.length) % 64 = 56 := by unfold padZ; omega
  have hrow' := w.row (kA.row (rowOf_own ho) (by simp)) (by omega)
  simp -implicitDefEqProofs (disch := (first | omega | (simp only [lq8] <;> omega) | fail)) only [admQ, lq8, aFill, AK.cls, implies_true, if_true, if_false, seval, -List.reduceReplicate, g.len, hfl, hrow', @w64]
  rw [Nat.mul_comm M.length 8]
  have hv : 8 * M.length < 18446744073709551616 := by omega
  have hpad : ∀ n, n ≤ 8 → True := fun _ _ => trivial
  have hfin : shaTail M ++ [0x80#8] ++ List.replicate (padZ M.length) 0#8 ++ tab 8 (fun i => byV (8 * M.length) (7 - i)) = shaTail M ++ pad M.length := by
   simp [pad, lowB]
  generalize shaTail M ++ [0x80#8] ++ List.replicate (padZ M.length) 0#8 = P at g hfl hfin
  generalize 8 * M.length = v at hv hfin
  clear hX X
  refine LoopW.on (fun t : Nat × AV => [(0, .ptr h 0), (2, .ptr m.length 0), (3, t.2), (4, .int .u64 v), (5, .int .i64 (56 - 8 * (t.1 : Int)))]) (fun t => 8 - t.1)
   (fun t m' => t.1 ≤ 8 ∧ Low A.length A m' ∧ GrB A.length m' t.2 (P ++ tab t.1 (fun i => byV v (7 - i)))) ?_ (0, x1) _ _ rfl ⟨by simp, w, by simpa [tab] using g⟩
  clear w g
  rintro ⟨k, x2⟩ m2 X ⟨hk, w, g⟩ hX
  change GrB A.length m2 x2 (P ++ tab k (fun i => byV v (7 - i))) at g
  simp only at hk
  by_cases hlt : k < 8
  ·rw [show (56 - 8 * (k : Int)) = ((8 * (7 - k) : Nat) : Int) by omega]
   have hw : IntKind.u8.wrap ((v >>> (8 * (7 - k)) : Nat) : Int) = ((byV v (7 - k)).toNat : Int) := wrap_u8 _
   simp -implicitDefEqProofs (disch := (first | omega | (simp only [lq8] <;> omega) | fail)) only [admQ, lq8, aFill, AK.cls, implies_true, if_true, if_false, seval, -List.reduceReplicate, fdiv_nat, hw]
   obtain ⟨x3, m3, e3, g3, k3, a3⟩ := g.push (byV v (7 - k)) (by simp [tab_len]; omega) (by have := w.1; omega)
   refine someW_eq e3 ?_
   simp -implicitDefEqProofs (disch := (first | omega | (simp only [lq8] <;> omega) | fail)) only [admQ, lq8, aFill, AK.cls, implies_true, if_true, if_false, seval, -List.reduceReplicate]
   rw [show ((8 * (7 - k) : Nat) : Int) - 8 = 56 - 8 * ((k + 1 : Nat) : Int) by omega]
   refine hX (k + 1, x3) _ _ rfl (by simp only; omega) ⟨by simp only; omega, w.trans (.of_all a3 w.1 k3.len), ?_⟩
   show GrB A.length m3 x3 (P ++ tab (k + 1) _)
   rw [tab_succ, ← List.append_assoc]; exact g3
  ·obtain rfl : k = 8 := by omega
   rw [hfin] at g
   have hrow' := w.row (kA.row (rowOf_own ho) (by simp)) (by omega)
   simp -implicitDefEqProofs (disch := (first | omega | (simp only [lq8] <;> omega) | fail)) only [admQ, lq8, aFill, AK.cls, implies_true, if_true, if_false, seval, -List.reduceReplicate, hrow', Nat.reduceAdd]
   clear hX X hrow'
   have hsum : ∀ n, s.takes (shaTail M ++ pad M.length) n = S8.first.takes (M ++ pad M.length) (M.length / 64 + n) := fun n => by
    rw [takes_add, takes_more, drop_more, hs]; rfl
   have hFl : (shaTail M ++ pad M.length).length = M.length % 64 + (padZ M.length + 9) := by rw [List.length_append, htl, pad_len]
   have hFp : (pad M.length).length = padZ M.length + 9 := pad_len _
   generalize shaTail M ++ pad M.length = F at g hsum hFl
   have hF0 : F ≠ [] := by rintro rfl; simp at hFl
   have hF64 : F.length % 64 = 0 := by rw [hFl]; omega
   obtain ⟨b, n, rfl, hn0, hn, hb, hb0⟩ := g.sl (by simpa using hF0)
   rw [List.length_map, Nat.mul_one] at hn
   subst hn
   have hbl := own_lt hb
   have hA2 := w.1
   rw [← S8.cells_eq]
   refine LoopW.on (fun i : Nat => [(2, .ptr m.length 0), (3, .sl b (64 * i) (F.length - 64 * i) (F.length - 64 * i) 1), (6, .ptr m2.length 0)]) (fun i => F.length - 64 * i)
    (fun i m' => 64 * i ≤ F.length ∧ Low A.length A m' ∧ own m' m2.length = some (s.takes F i).cells ∧ rowOf m' b = some (bys F)) ?_ 0 _ _ rfl ⟨by omega, w.trans (.of_kept (.app [] _ _) (by simp) hA2), by rw [own_app_at0]; rfl, (Kept.app [] m2 _).row (rowOf_own hb) (by simp)⟩
   clear w g hb
   rintro i m' X ⟨hi, w, o, rb⟩ hX
   by_cases hlt : 64 * i < F.length
   ·generalize hr : s.takes F i = r at o
    rw [S8.cells_eq] at o
    have hlo' := own_lt o
    have hrd := ((RdB.row F.length 1 rb (Nat.le_refl _)).drop (k := 64 * i) hi).take (k := 64) (by omega)
    rw [Nat.zero_add] at hrd
    simp -implicitDefEqProofs (disch := (first | omega | (simp only [lq8] <;> omega) | fail)) only [admQ, lq8, aFill, AK.cls, implies_true, if_true, if_false, seval, -List.reduceReplicate, rowOf_own o, o]
    refine (ans_shatake r (w.row (kA.row hK (by simp)) (by omega)) hrd (by simp; omega)).mono ?_
    rintro _ m4 ⟨rfl, k4⟩
    have o4 := k4.own o (by simp)
    have hl4 := own_lt o4
    simp -implicitDefEqProofs (disch := (first | omega | (simp only [lq8] <;> omega) | fail)) only [admQ, lq8, aFill, AK.cls, implies_true, if_true, if_false, seval, -List.reduceReplicate, rowOf_own o4, o4, S8.cells_eq, rowOf_own o, Nat.reduceAdd]
    rw [show F.length - 64 * i - 64 = F.length - 64 * (i + 1) by omega]
    have hml4 := k4.len
    have hw1 := w.1
    refine hX (i + 1) _ _ rfl (by omega) ⟨by omega, w.trans ((Low.of_kept k4 (by simp) hw1).trans (.of_kept (.set1 _ m2.length _) (by simpa using hA2) (by omega))), ?_, (Kept.set1 _ m2.length _).row (k4.row rb (by simp)) (by simp; omega)⟩
    rw [own_set hl4, S8.takes, hr]; rfl
   ·have hFi : F.length = 64 * i := by omega
    have hres : (s.takes F i).out = shaB M := by
     rw [hsum, shaB]
     congr 2
     omega
    generalize s.takes F i = r at o hres
    simp -implicitDefEqProofs (disch := (first | omega | (simp only [lq8] <;> omega) | fail)) only [admQ, lq8, aFill, AK.cls, implies_true, if_true, if_false, seval, -List.reduceReplicate]
    clear hX X
    have hl6 := own_lt o
    have hw1 := w.1
    rw [← tab_const, ← upTo_zero 32 (fun j => (gw r.l (j / 4) >>> (24 - 8 * (j % 4))).setWidth 8) (fun _ => 0#8)] 
    refine LoopW.on (fun i : Nat => [(2, .ptr m.length 0), (6, .ptr m2.length 0), (7, .ptr m'.length 0), (54, .int .i64 i)]) (fun i => 32 - i)
     (fun i M' => i ≤ 32 ∧ Low A.length A M' ∧ own M' m2.length = some r.cells ∧ own M' m'.length = some (bys (upTo 32 (fun j => (gw r.l (j / 4) >>> (24 - 8 * (j % 4))).setWidth 8) (fun _ => 0#8) i))) ?_ 0 _ _ rfl ⟨by omega, w.trans (.of_kept (.app [] m' _) (by simp) hw1), (Kept.app [] m' _).own o (by simp), by rw [own_app_at0]; rfl⟩
    clear w o
    rintro j M' X ⟨hj, w, o, op⟩ hX
    by_cases hlt : j < 32
    ·have hu := upTo_set (n := 32) (i := j) (f := fun j => (gw r.l (j / 4) >>> (24 - 8 * (j % 4))).setWidth 8) (g := fun _ => 0#8)
     have hca : r.cells[j / 4]? = some (b32 (gw r.l (j / 4))) := wds_at (show j / 4 < 8 by omega)
     have hlp := own_lt op
     simp -implicitDefEqProofs (disch := (first | omega | (simp only [lq8] <;> omega) | fail)) only [admQ, lq8, aFill, AK.cls, implies_true, if_true, if_false, seval, -List.reduceReplicate, rowOf_own o, op, hca, u32R, splice_byte, hu]
     have hlm := w.1
     refine hX (j + 1) _ _ rfl (by omega) ⟨by omega, w.trans (.of_kept (.set1 _ m'.length _) (by simpa using hw1) (by omega)), (Kept.set1 _ m'.length _).own o (by simp; omega), own_set hlp _⟩
    ·obtain rfl : j = 32 := by omega
     rw [upTo_all] at op
     have oA' : own M' m.length = some (bys (List.replicate 32 0#8)) := by unfold own at *; rw [w.2 _ (by omega)]; exact oA
     have hdef : r.out = tab 32 fun j => (gw r.l (j / 4) >>> (24 - 8 * (j % 4))).setWidth 8 := rfl
     rw [← hdef, hres] at op
     have hsl := shaB_len M
     simp -implicitDefEqProofs (disch := (first | omega | (simp only [lq8] <;> omega) | fail)) only [admQ, lq8, aFill, AK.cls, implies_true, if_true, if_false, seval, -List.reduceReplicate, rowOf_own op, op, oA', own_set (own_lt oA'), rowOf_own (own_set (own_lt oA') _)]
     exact (w.kept kA (by omega)).write (.inr (Nat.le_refl _)) _
end Go.Proofs.YtoegmnnecanhfaaGreatDoor
end
section
namespace Go.Proofs.YtoegmnnecanhfaaGreatDoor
open Go Go.Adm
set_option linter.unusedSimpArgs false
set_option linter.unusedVariables false
set_option maxRecDepth 100000
def lq9 := And.intro @lenB (@shaB_len)
theorem ans_shaof {m : Mem} {y : AV} {B : List B8} (hK : rowOf m 0 = some (wds kT)) (hB : RdB m y B) (hlen : B.length ≤ 1000000000) :
  Ans Tryz.prog 96 [y] m fun r m' => r = .agg (bys (shaB B)) ∧ Kept [] m m' := by
 refine ans_ret mixed ok96 ?_
 have h0 := rowOf_lt hK
 simp -implicitDefEqProofs (disch := (first | omega | (simp only [lq9] <;> omega) | fail)) only [admQ, lq9, aFill, AK.cls, implies_true, if_true, if_false, seval, -List.reduceReplicate, c96, r96]
 have hA : (m ++ [Blk.row (bys (List.replicate 32 0#8)) false]).length = m.length + 1 := by simp
 have oA : own (m ++ [Blk.row (bys (List.replicate 32 0#8)) false]) m.length = some (bys (List.replicate 32 0#8)) := by rw [own_app_at0]; rfl
 have kA : Kept [] m (m ++ [Blk.row (bys (List.replicate 32 0#8)) false]) := .app _ _ _
 generalize m ++ [Blk.row (bys (List.replicate 32 0#8)) false] = A at hA oA kA
 refine (ans_shanew _).mono ?_
 rintro _ m1 ⟨rfl, k1, d1⟩
 simp -implicitDefEqProofs (disch := (first | omega | (simp only [lq9] <;> omega) | fail)) only [admQ, lq9, aFill, AK.cls, implies_true, if_true, if_false, seval, -List.reduceReplicate]
 refine (ans_shaadd d1 ((kA.trans k1).row hK (by simp)) (by omega) ((hB.kept0 kA).kept0 k1) (fun b hb => by have := hB.blk_lt b hb; omega) (by simpa using hlen)).mono ?_
 rintro _ m2 ⟨rfl, w2, d2⟩
 rw [List.nil_append] at d2
 have w2' : Low A.length A m2 := ⟨Nat.le_trans k1.len w2.1, fun q hq => (w2.2 q hq).trans (k1.eq q hq (by simp))⟩
 simp -implicitDefEqProofs (disch := (first | omega | (simp only [lq9] <;> omega) | fail)) only [admQ, lq9, aFill, AK.cls, implies_true, if_true, if_false, seval, -List.reduceReplicate]
 refine (ans_shasum d2 (w2.row ((kA.trans k1).row hK (by simp)) (by omega)) (by simpa using hlen)).mono ?_
 rintro _ m3 ⟨rfl, k3⟩
 have w3 : Low A.length A m3 := w2'.trans (.of_kept k3 (by simp) w2'.1)
 have oA' : own m3 m.length = some (bys (List.replicate 32 0#8)) := by unfold own at *; rw [w3.2 _ (by omega)]; exact oA
 have hsl := shaB_len B
 simp -implicitDefEqProofs (disch := (first | omega | (simp only [lq9] <;> omega) | fail)) only [admQ, lq9, aFill, AK.cls, implies_true, if_true, if_false, seval, -List.reduceReplicate, oA', own_set (own_lt oA'), rowOf_own (own_set (own_lt oA') _)]
 exact (w3.kept kA (by omega)).write (.inr (Nat.le_refl _)) _
def keyB (key : List B8) : List B8 := if 64 < key.length then shaB key ++ List.replicate 32 0#8 else key ++ List.replicate (64 - key.length) 0#8
theorem keyB_len (key : List B8) : (keyB key).length = 64 := by unfold keyB; split <;> simp [shaB_len] <;> omega
def blkX (key : List B8) (x : B8) : List B8 := tab 64 fun i => gb (keyB key) i ^^^ x
theorem blkX_len (key : List B8) (x : B8) : (blkX key x).length = 64 := tab_len _ _
def macB (key b : List B8) : List B8 := shaB (blkX key 92#8 ++ shaB (blkX key 54#8 ++ b))
theorem macB_len (key b : List B8) : (macB key b).length = 32 := shaB_len _
theorem splice_front {L : List B8} {n : Nat} (h : L.length ≤ n) : splice (bys (List.replicate n 0#8)) 0 (bys L) = bys (L ++ List.replicate (n - L.length) 0#8) := by
 simp [splice, List.map_append]
theorem ans_macblk {m : Mem} {y : AV} {key : List B8} (x : B8) (hK : rowOf m 0 = some (wds kT)) (hB : RdB m y key) (hlen : key.length ≤ 1000000000) :
  Ans Tryz.prog 75 [y, b8 x] m fun r m' => r = .agg (bys (blkX key x)) ∧ Kept [] m m' := by
 refine ans_ret mixed ok75 ?_
 simp -implicitDefEqProofs (disch := (first | omega | (simp only [lq9] <;> omega) | fail)) only [admQ, lq9, aFill, AK.cls, implies_true, if_true, if_false, seval, -List.reduceReplicate, p75, r75]
 have hk0 := Kept.app [] m [Blk.row (bys (List.replicate 64 0#8)) false, Blk.row (bys (List.replicate 64 0#8)) false]
 have o4 : own (m ++ [Blk.row (bys (List.replicate 64 0#8)) false, Blk.row (bys (List.replicate 64 0#8)) false]) m.length = some (bys (List.replicate 64 0#8)) := by rw [own_app_at0]; rfl
 have o5 : own (m ++ [Blk.row (bys (List.replicate 64 0#8)) false, Blk.row (bys (List.replicate 64 0#8)) false]) (m.length + 1) = some (bys (List.replicate 64 0#8)) := by rw [own_app_at]; rfl
 generalize m ++ [Blk.row (bys (List.replicate 64 0#8)) false, Blk.row (bys (List.replicate 64 0#8)) false] = A at hk0 o4 o5
 have hl5 := own_lt o5
 refine wp_join2 [1, 4, 5] (fun _ : Unit => [(1, b8 x), (4, .ptr m.length 0), (5, .ptr (m.length + 1) 0)])
  (fun _ M => Kept [] m M ∧ own M m.length = some (bys (List.replicate 64 0#8)) ∧ own M (m.length + 1) = some (bys (keyB key))) rfl ?_ ?_
 ·by_cases hlt : 64 < key.length
  ·simp -implicitDefEqProofs (disch := (first | omega | (simp only [lq9] <;> omega) | fail)) only [admQ, lq9, aFill, AK.cls, implies_true, if_true, if_false, seval, -List.reduceReplicate, c75_1, joins, hB.len]
   refine (ans_shaof (hk0.row hK (by simp)) (hB.kept0 hk0) hlen).mono ?_
   rintro _ m1 ⟨rfl, k1⟩
   have o4' := k1.own o4 (by simp)
   have o5' := k1.own o5 (by simp)
   have hsl := shaB_len key
   have hcp := copy_row (o := 0) (ld := 64) (cap := 64) (s := 0) (m := m1 ++ [Blk.row (bys (shaB key)) false]) (.row (l := shaB key) 32 0 (by rw [rowOf_own (c := bys (shaB key))]; rw [own_app_at0]; rfl) (by omega)) (own_app o5' _) (by simp) (by omega)
   rw [hsl] at hcp
   simp -implicitDefEqProofs (disch := (first | omega | (simp only [lq9] <;> omega) | fail)) only [admQ, lq9, aFill, AK.cls, implies_true, if_true, if_false, seval, -List.reduceReplicate, hcp, joins]
   have hl1 := own_lt o5'
   refine ⟨(), ((hk0.trans k1).more_app _).write (.inr (by omega)) _, own_set_ne' (own_app o4' _) (by omega) _, ?_⟩
   rw [own_set (by simp; omega), splice_front (by omega), hsl, keyB, if_pos hlt]
  ·simp -implicitDefEqProofs (disch := (first | omega | (simp only [lq9] <;> omega) | fail)) only [admQ, lq9, aFill, AK.cls, implies_true, if_true, if_false, seval, -List.reduceReplicate, c75_1, joins, hB.len]
   rw [copy_row (hB.kept0 hk0) o5 (by simp) (by omega)]
   simp -implicitDefEqProofs (disch := (first | omega | (simp only [lq9] <;> omega) | fail)) only [admQ, lq9, aFill, AK.cls, implies_true, if_true, if_false, seval, -List.reduceReplicate, joins]
   refine ⟨(), hk0.write (.inr (by omega)) _, own_set_ne' o4 (by omega) _, ?_⟩
   rw [own_set hl5, splice_front (by omega), keyB, if_neg hlt]
 ·rintro _ M ⟨k, q4, q5⟩
  simp -implicitDefEqProofs (disch := (first | omega | (simp only [lq9] <;> omega) | fail)) only [admQ, lq9, aFill, AK.cls, implies_true, if_true, if_false, seval, -List.reduceReplicate, c75_2]
  have hkl := keyB_len key
  refine LoopW.on (fun i : Nat => [(1, b8 x), (4, .ptr m.length 0), (5, .ptr (m.length + 1) 0), (19, .int .i64 i)]) (fun i => 64 - i)
   (fun i M => i ≤ 64 ∧ Kept [] m M ∧ own M m.length = some (bys (List.replicate 64 0#8)) ∧ own M (m.length + 1) = some (bys (upTo 64 (fun j => gb (keyB key) j ^^^ x) (gb (keyB key)) i))) ?_ 0 _ _ rfl ⟨by omega, k, q4, by rw [upTo_zero, tab_gb hkl]; exact q5⟩
  clear k q4 q5 hk0 o4 o5 hl5
  rintro i M X ⟨hi, k, q4, q5⟩ hX
  have hlM := own_lt q5
  by_cases hlt : i < 64
  ·have hu := upTo_set (n := 64) (i := i) (f := fun j => gb (keyB key) j ^^^ x) (g := gb (keyB key))
   simp -implicitDefEqProofs (disch := (first | omega | (simp only [lq9] <;> omega) | fail)) only [admQ, lq9, aFill, AK.cls, implies_true, if_true, if_false, seval, -List.reduceReplicate, rowOf_own q5, q5, splice_byte, hu]
   refine hX (i + 1) _ _ rfl (by omega) ⟨by omega, k.write (.inr (by omega)) _, own_set_ne' q4 (by omega) _, own_set hlM _⟩
  ·obtain rfl : i = 64 := by omega
   rw [upTo_all, ← blkX] at q5
   have hbl := blkX_len key x
   simp -implicitDefEqProofs (disch := (first | omega | (simp only [lq9] <;> omega) | fail)) only [admQ, lq9, aFill, AK.cls, implies_true, if_true, if_false, seval, -List.reduceReplicate, rowOf_own q5, q4, own_set (own_lt q4), rowOf_own (own_set (own_lt q4) _)]
   exact k.write (.inr (Nat.le_refl _)) _
end Go.Proofs.YtoegmnnecanhfaaGreatDoor
end
section
namespace Go.Proofs.YtoegmnnecanhfaaGreatDoor
open Go Go.Adm
set_option linter.unusedSimpArgs false
set_option linter.unusedVariables false
set_option maxRecDepth 100000
def lq10 := And.intro @lenB (And.intro @shaB_len (@macB_len))
theorem ans_macof {m : Mem} {x y : AV} {key B : List B8} (hK : rowOf m 0 = some (wds kT)) (hx : RdB m x key) (hB : RdB m y B) (hkl : key.length ≤ 1000000000) (hlen : B.length ≤ 900000000) :
  Ans Tryz.prog 47 [x, y] m fun r m' => r = .agg (bys (macB key B)) ∧ Kept [] m m' := by
 refine ans_ret mixed ok47 ?_
 have h0 := rowOf_lt hK
 simp -implicitDefEqProofs (disch := (first | omega | (simp only [lq10] <;> omega) | fail)) only [admQ, lq10, aFill, AK.cls, implies_true, if_true, if_false, seval, -List.reduceReplicate, c47, r47]
 have k0 := Kept.app [] m [Blk.row (bys (List.replicate 32 0#8)) false]
 have o0 : own (m ++ [Blk.row (bys (List.replicate 32 0#8)) false]) m.length = some (bys (List.replicate 32 0#8)) := by rw [own_app_at0]; rfl
 generalize m ++ [Blk.row (bys (List.replicate 32 0#8)) false] = A0 at k0 o0
 refine (ans_macblk 54#8 (k0.row hK (by simp)) (hx.kept0 k0) hkl).mono ?_
 rintro _ m1 ⟨rfl, k1⟩
 simp -implicitDefEqProofs (disch := (first | omega | (simp only [lq10] <;> omega) | fail)) only [admQ, lq10, aFill, AK.cls, implies_true, if_true, if_false, seval, -List.reduceReplicate]
 refine (ans_macblk 92#8 ((k0.trans k1).row hK (by simp)) (hx.kept0 (k0.trans k1)) hkl).mono ?_
 rintro _ m2 ⟨rfl, k2⟩
 have li := blkX_len key 54#8
 have lo := blkX_len key 92#8
 simp -implicitDefEqProofs (disch := (first | omega | (simp only [lq10] <;> omega) | fail)) only [admQ, lq10, aFill, AK.cls, implies_true, if_true, if_false, seval, -List.reduceReplicate]
 have kA := (k0.trans (k1.trans k2)).more_app [Blk.row (bys (blkX key 54#8)) false, Blk.row (bys (blkX key 92#8)) false]
 have oA := (k2.more_app [Blk.row (bys (blkX key 54#8)) false, Blk.row (bys (blkX key 92#8)) false]).own (k1.own o0 (by simp)) (by simp)
 have rI : RdB (m2 ++ [Blk.row (bys (blkX key 54#8)) false, Blk.row (bys (blkX key 92#8)) false]) (.sl m2.length 0 64 64 0) (blkX key 54#8) := by
  have := RdB.row (m := m2 ++ [Blk.row (bys (blkX key 54#8)) false, Blk.row (bys (blkX key 92#8)) false]) (b := m2.length) (l := blkX key 54#8) 64 0 (by rw [rowOf_app_at0]; rfl) (by omega)
  rwa [li] at this
 have rO : RdB (m2 ++ [Blk.row (bys (blkX key 54#8)) false, Blk.row (bys (blkX key 92#8)) false]) (.sl (m2.length + 1) 0 64 64 0) (blkX key 92#8) := by
  have := RdB.row (m := m2 ++ [Blk.row (bys (blkX key 54#8)) false, Blk.row (bys (blkX key 92#8)) false]) (b := m2.length + 1) (l := blkX key 92#8) 64 0 (by rw [rowOf_app_at]; rfl) (by omega)
  rwa [lo] at this
 have hAl : (m2 ++ [Blk.row (bys (blkX key 54#8)) false, Blk.row (bys (blkX key 92#8)) false]).length = m2.length + 2 := by simp
 have hl0 := own_lt oA
 generalize m2 ++ [Blk.row (bys (blkX key 54#8)) false, Blk.row (bys (blkX key 92#8)) false] = A at kA oA rI rO hAl hl0
 refine (ans_shanew _).mono ?_
 rintro _ m3 ⟨rfl, k3, d3⟩
 simp -implicitDefEqProofs (disch := (first | omega | (simp only [lq10] <;> omega) | fail)) only [admQ, lq10, aFill, AK.cls, implies_true, if_true, if_false, seval, -List.reduceReplicate]
 have w3 : Low A.length A m3 := .of_kept k3 (by simp) (Nat.le_refl _)
 refine (ans_shaadd d3 ((kA.trans k3).row hK (by simp)) (by omega) (w3.rd rI (by simp [blkOf]; omega)) (by simp [blkOf]; omega) (by simp; omega)).mono ?_
 rintro _ m4 ⟨rfl, w4, d4⟩
 replace w4 := w3.trans w4
 rw [List.nil_append] at d4
 simp -implicitDefEqProofs (disch := (first | omega | (simp only [lq10] <;> omega) | fail)) only [admQ, lq10, aFill, AK.cls, implies_true, if_true, if_false, seval, -List.reduceReplicate]
 have hym : ∀ b ∈ blkOf y, b < A.length := fun b hb => by have := hB.blk_lt b hb; have := kA.len; omega
 refine (ans_shaadd d4 (w4.row (kA.row hK (by simp)) (by omega)) (by omega) (w4.rd (hB.kept0 kA) hym) hym (by omega)).mono ?_
 rintro _ m5 ⟨rfl, w5, d5⟩
 replace w5 := w4.trans w5
 simp -implicitDefEqProofs (disch := (first | omega | (simp only [lq10] <;> omega) | fail)) only [admQ, lq10, aFill, AK.cls, implies_true, if_true, if_false, seval, -List.reduceReplicate]
 refine (ans_shasum d5 (w5.row (kA.row hK (by simp)) (by omega)) (by rw [List.length_append]; omega)).mono ?_
 rintro _ m6 ⟨rfl, k6⟩
 have w6 : Low A.length A m6 := w5.trans (.of_kept k6 (by simp) w5.1)
 generalize hs : shaB (blkX key 54#8 ++ B) = S
 have hS : S.length = 32 := by rw [← hs]; exact shaB_len _
 simp -implicitDefEqProofs (disch := (first | omega | (simp only [lq10] <;> omega) | fail)) only [admQ, lq10, aFill, AK.cls, implies_true, if_true, if_false, seval, -List.reduceReplicate]
 have w7 : Low A.length A (m6 ++ [Blk.row (bys S) false]) := w6.trans (.of_kept (.app [] _ _) (by simp) w6.1)
 have rS : RdB (m6 ++ [Blk.row (bys S) false]) (.sl m6.length 0 32 32 0) S := by
  have := RdB.row (m := m6 ++ [Blk.row (bys S) false]) (b := m6.length) (l := S) 32 0 (by rw [rowOf_app_at0]; rfl) (by omega)
  rwa [hS] at this
 have hBl : (m6 ++ [Blk.row (bys S) false]).length = m6.length + 1 := by simp
 generalize m6 ++ [Blk.row (bys S) false] = C at w7 rS hBl
 have hw6 := w6.1
 refine (ans_shanew _).mono ?_
 rintro _ m8 ⟨rfl, k8, d8⟩
 have w8 : Low C.length C m8 := .of_kept k8 (by simp) (Nat.le_refl _)
 simp -implicitDefEqProofs (disch := (first | omega | (simp only [lq10] <;> omega) | fail)) only [admQ, lq10, aFill, AK.cls, implies_true, if_true, if_false, seval, -List.reduceReplicate]
 have rO8 := (w8.rd (w7.rd rO (by simp [blkOf]; omega)) (by simp [blkOf]; omega))
 refine (ans_shaadd d8 (w8.row (w7.row (kA.row hK (by simp)) (by omega)) (by omega)) (by omega) rO8 (by simp [blkOf]; omega) (by simp; omega)).mono ?_
 rintro _ m9 ⟨rfl, w9, d9⟩
 replace w9 := w8.trans w9
 rw [List.nil_append] at d9
 simp -implicitDefEqProofs (disch := (first | omega | (simp only [lq10] <;> omega) | fail)) only [admQ, lq10, aFill, AK.cls, implies_true, if_true, if_false, seval, -List.reduceReplicate]
 refine (ans_shaadd d9 (w9.row (w7.row (kA.row hK (by simp)) (by omega)) (by omega)) (by omega) (w9.rd rS (by simp [blkOf]; omega)) (by simp [blkOf]; omega) (by omega)).mono ?_
 rintro _ m10 ⟨rfl, w10, d10⟩
 replace w10 := w9.trans w10
 simp -implicitDefEqProofs (disch := (first | omega | (simp only [lq10] <;> omega) | fail)) only [admQ, lq10, aFill, AK.cls, implies_true, if_true, if_false, seval, -List.reduceReplicate]
 refine (ans_shasum d10 (w10.row (w7.row (kA.row hK (by simp)) (by omega)) (by omega)) (by rw [List.length_append]; omega)).mono ?_
 rintro _ m11 ⟨rfl, k11⟩
 have w11 : Low A.length A m11 := (w7.trans (w10.less (by omega))).trans (.of_kept k11 (by simp) (by have := w10.1; omega))
 have oR : own m11 m.length = some (bys (List.replicate 32 0#8)) := by unfold own at *; rw [w11.2 _ (by omega)]; exact oA
 have hml := shaB_len (blkX key 92#8 ++ S)
 simp -implicitDefEqProofs (disch := (first | omega | (simp only [lq10] <;> omega) | fail)) only [admQ, lq10, aFill, AK.cls, implies_true, if_true, if_false, seval, -List.reduceReplicate, oR, own_set (own_lt oR), rowOf_own (own_set (own_lt oR) _)]
 refine ⟨by rw [macB, hs], (w11.kept kA (by omega)).write (.inr (Nat.le_refl _)) _⟩
def strB (s : ByteArray) : List B8 := s.data.toList.map UInt8.toBitVec
theorem strCells_bys (s : ByteArray) : strCells s = bys (strB s) := by
 simp only [strCells, strB, bys, List.map_map]; rfl
theorem strB_len (s : ByteArray) : (strB s).length = s.size := by rw [strB, List.length_map, Array.length_toList]; rfl
theorem ans_macderive {m : Mem} {x : AV} {key : List B8} (s : ByteArray) (hK : rowOf m 0 = some (wds kT)) (hx : RdB m x key) (hkl : key.length ≤ 1000000000) (hlen : s.size ≤ 1000) :
  Ans Tryz.prog 24 [x, .str s] m fun r m' => r = .agg (bys (macB key (strB s))) ∧ Kept [] m m' := by
 refine ans_ret mixed ok24 ?_
 simp -implicitDefEqProofs (disch := (first | omega | (simp only [lq10] <;> omega) | fail)) only [admQ, lq10, aFill, AK.cls, implies_true, if_true, if_false, seval, -List.reduceReplicate, c24, r24, opW_s2b, opDW_s2b, mkS2b, strCells_bys]
 have k0 := Kept.app [] m [Blk.row (bys (List.replicate 32 0#8)) false, Blk.row (bys (strB s)) false]
 have o0 : own (m ++ [Blk.row (bys (List.replicate 32 0#8)) false, Blk.row (bys (strB s)) false]) m.length = some (bys (List.replicate 32 0#8)) := by rw [own_app_at0]; rfl
 have o1 : own (m ++ [Blk.row (bys (List.replicate 32 0#8)) false, Blk.row (bys (strB s)) false]) (m.length + 1) = some (bys (strB s)) := by rw [own_app_at]; rfl
 generalize m ++ [Blk.row (bys (List.replicate 32 0#8)) false, Blk.row (bys (strB s)) false] = A0 at k0 o0 o1
 have hr := RdB.row (l := strB s) s.size 1 (rowOf_own o1) (by rw [strB_len]; omega)
 rw [strB_len] at hr
 refine (ans_macof (k0.row hK (by simp)) (hx.kept0 k0) hr hkl (by rw [strB_len]; omega)).mono ?_
 rintro _ m1 ⟨rfl, k1⟩
 have o0' := k1.own o0 (by simp)
 have hml := macB_len key (strB s)
 simp -implicitDefEqProofs (disch := (first | omega | (simp only [lq10] <;> omega) | fail)) only [admQ, lq10, aFill, AK.cls, implies_true, if_true, if_false, seval, -List.reduceReplicate, o0', own_set (own_lt o0'), rowOf_own (own_set (own_lt o0') _)]
 exact (k0.trans k1).write (.inr (Nat.le_refl _)) _
def orX (a b : List B8) : Nat → B8
 | 0 => 0#8
 | i + 1 => orX a b i ||| (gb a i ^^^ gb b i)
theorem orX_zero (a b : List B8) : ∀ n, orX a b n = 0#8 ↔ ∀ i, i < n → gb a i = gb b i := by
 intro n
 induction n with
 | zero => simp [orX]
 | succ n ih =>
  have e : ∀ x y : B8, x ||| y = 0#8 ↔ x = 0#8 ∧ y = 0#8 := by intro x y; exact BitVec.or_eq_zero_iff
  have e2 : ∀ x y : B8, x ^^^ y = 0#8 ↔ x = y := by intro x y; exact BitVec.xor_eq_zero_iff
  rw [orX, e, ih, e2]
  constructor
  ·rintro ⟨h1, h2⟩ i hi
   by_cases hin : i = n
   ·subst hin; exact h2
   ·exact h1 i (by omega)
  ·intro h
   exact ⟨fun i hi => h i (by omega), h n (by omega)⟩
theorem ans_macsame {m : Mem} {a b : List B8} (ha : a.length = 32) (hb : b.length = 32) :
  Ans Tryz.prog 142 [.agg (bys a), .agg (bys b)] m fun r m' => r = .bool (a == b) ∧ Kept [] m m' := by
 refine ans_ret mixed ok142 ?_
 simp -implicitDefEqProofs (disch := (first | omega | (simp only [lq10] <;> omega) | fail)) only [admQ, lq10, aFill, AK.cls, implies_true, if_true, if_false, seval, -List.reduceReplicate, c142, r142]
 refine LoopW.on (fun i : Nat => [(2, .ptr m.length 0), (3, .ptr (m.length + 1) 0), (5, b8 (orX a b i)), (7, .int .i64 i)]) (fun i => 32 - i)
  (fun i M => i ≤ 32 ∧ M = m ++ [.row (bys a) false, .row (bys b) false]) ?_ 0 _ _ rfl ⟨by omega, rfl⟩
 rintro i M X ⟨hi, rfl⟩ hX
 by_cases hlt : i < 32
 ·simp -implicitDefEqProofs (disch := (first | omega | (simp only [lq10] <;> omega) | fail)) only [admQ, lq10, aFill, AK.cls, implies_true, if_true, if_false, seval, -List.reduceReplicate]
  refine hX (i + 1) _ _ rfl (by omega) ⟨by omega, rfl⟩
 ·obtain rfl : i = 32 := by omega
  simp -implicitDefEqProofs (disch := (first | omega | (simp only [lq10] <;> omega) | fail)) only [admQ, lq10, aFill, AK.cls, implies_true, if_true, if_false, seval, -List.reduceReplicate, beql_u8]
  refine ⟨?_, .app _ _ _⟩
  congr 1
  rw [Bool.eq_iff_iff, beq_iff_eq, beq_iff_eq, orX_zero]
  exact ⟨fun h => gb_ext (by omega) (fun i hi => h i (by omega)), fun h i _ => by rw [h]⟩
end Go.Proofs.YtoegmnnecanhfaaGreatDoor
end
section
namespace Go.Proofs.YtoegmnnecanhfaaGreatDoor
open Go Go.Adm
set_option linter.unusedSimpArgs false
set_option linter.unusedVariables false
set_option maxRecDepth 100000
theorem fdiv_pow (v k : Nat) : ((v : Nat) : Int).fdiv (2 ^ Nat.min k IntKind.i64.bits) = ((v >>> Nat.min k 64 : Nat) : Int) := by
 have e : (2 : Int) ^ Nat.min k IntKind.i64.bits = ((2 ^ Nat.min k 64 : Nat) : Int) := by simp [IntKind.bits]
 rw [e, Int.fdiv_eq_ediv_of_nonneg _ (Int.natCast_nonneg _), Nat.shiftRight_eq_div_pow, ← Int.natCast_ediv]
def lq11 := And.intro @lenB (@lowB_len)
theorem ans_seeight (v : Nat) (hv : v < 4611686018427387904) (m : Mem) : Ans Tryz.prog 146 [.int .i64 v] m fun r m' => Kept [] m m' ∧ GrB m.length m' r (lowB v 8) := by
 refine ans_ret mixed ok146 ?_
 simp -implicitDefEqProofs (disch := (first | omega | (simp only [lq11] <;> omega) | fail)) only [admQ, lq11, aFill, AK.cls, implies_true, if_true, if_false, seval, -List.reduceReplicate, c146, r146]
 refine LoopW.on (fun t : Nat × AV => [(0, .int .i64 v), (3, t.2), (4, .int .i64 (56 - 8 * (t.1 : Int)))]) (fun t => 8 - t.1)
  (fun t M => t.1 ≤ 8 ∧ Kept [] m M ∧ GrB m.length M t.2 (tab t.1 (fun i => byV v (7 - i)))) ?_ (0, .nils) _ _ rfl ⟨by simp, .refl _ _, .nils ..⟩
 rintro ⟨k, x⟩ M X ⟨hk, kk, g⟩ hX
 change GrB m.length M x (tab k (fun i => byV v (7 - i))) at g
 simp only at hk
 by_cases hlt : k < 8
 ·rw [show (56 - 8 * (k : Int)) = ((8 * (7 - k) : Nat) : Int) by omega]
  have hw : IntKind.u8.wrap ((v >>> (8 * (7 - k)) : Nat) : Int) = ((byV v (7 - k)).toNat : Int) := wrap_u8 _
  have hmin : Nat.min (8 * (7 - k)) 64 = 8 * (7 - k) := Nat.min_eq_left (by omega)
  simp -implicitDefEqProofs (disch := (first | omega | (simp only [lq11] <;> omega) | fail)) only [admQ, lq11, aFill, AK.cls, implies_true, if_true, if_false, seval, -List.reduceReplicate, fdiv_pow, hmin, hw]
  obtain ⟨x3, m3, e3, g3, k3, a3⟩ := g.push (byV v (7 - k)) (by simp [tab_len]; omega) kk.len
  refine someW_eq e3 ?_
  simp -implicitDefEqProofs (disch := (first | omega | (simp only [lq11] <;> omega) | fail)) only [admQ, lq11, aFill, AK.cls, implies_true, if_true, if_false, seval, -List.reduceReplicate]
  rw [show ((8 * (7 - k) : Nat) : Int) - 8 = 56 - 8 * ((k + 1 : Nat) : Int) by omega]
  refine hX (k + 1, x3) _ _ rfl (by simp only; omega) ⟨by simp only; omega, a3 _ _ kk (Nat.le_refl _), ?_⟩
  show GrB m.length m3 x3 (tab (k + 1) _)
  rw [tab_succ]; exact g3
 ·obtain rfl : k = 8 := by omega
  simp -implicitDefEqProofs (disch := (first | omega | (simp only [lq11] <;> omega) | fail)) only [admQ, lq11, aFill, AK.cls, implies_true, if_true, if_false, seval, -List.reduceReplicate]
  exact ⟨kk, g⟩
def placedP (e n : Int) : Prop := (0 ≤ e ∧ e ≤ 1099511627776) ∧ 0 ≤ n ∧ n ≤ 1099511627776
instance (e n : Int) : Decidable (placedP e n) := by unfold placedP; infer_instance
theorem ans_seplaced {m : Mem} {p : Nat} {e n : Int} (hp : rowOf m p = some [.int .i64 e, .int .i64 n]) : Ans Tryz.prog 141 [.sl p 0 2 2 0] m fun r m' => r = .bool (decide (placedP e n)) ∧ m' = m := by
 refine ans_ret mixed ok141 ?_
 simp -implicitDefEqProofs (disch := (first | omega | (simp only [lq11] <;> omega) | fail)) only [admQ, lq11, aFill, AK.cls, implies_true, if_true, if_false, seval, -List.reduceReplicate, c141, r141]
 refine LoopW.on (fun i : Nat => [(5, .sl p 0 2 2 0), (6, .int .i64 2), (7, .int .i64 i)]) (fun i => 2 - i) (fun i M => i ≤ 2 ∧ M = m ∧ (1 ≤ i → 0 ≤ e ∧ e ≤ 1099511627776) ∧ (2 ≤ i → 0 ≤ n ∧ n ≤ 1099511627776)) ?_ 0 _ _ rfl ⟨by omega, rfl, by omega, by omega⟩
 rintro i M X ⟨hi, rfl, h1, h2⟩ hX
 rcases (show i = 0 ∨ i = 1 ∨ i = 2 by omega) with rfl | rfl | rfl
 ·by_cases ha : e < 0
  ·have hno : ¬ placedP e n := by unfold placedP; omega
   simp -implicitDefEqProofs (disch := (first | omega | (simp only [lq11] <;> omega) | fail)) only [admQ, lq11, aFill, AK.cls, implies_true, if_true, if_false, seval, -List.reduceReplicate, hp, decide_eq_false hno, dec_t ha]
  ·by_cases hb : e > 1099511627776
   ·have hno : ¬ placedP e n := by unfold placedP; omega
    simp -implicitDefEqProofs (disch := (first | omega | (simp only [lq11] <;> omega) | fail)) only [admQ, lq11, aFill, AK.cls, implies_true, if_true, if_false, seval, -List.reduceReplicate, hp, decide_eq_false hno, dec_f ha, dec_t hb]
   ·simp -implicitDefEqProofs (disch := (first | omega | (simp only [lq11] <;> omega) | fail)) only [admQ, lq11, aFill, AK.cls, implies_true, if_true, if_false, seval, -List.reduceReplicate, hp, dec_f ha, dec_f hb]
    exact hX 1 _ _ rfl (by omega) ⟨by omega, rfl, by omega, by omega⟩
 ·have he := h1 (by omega)
  by_cases ha : n < 0
  ·have hno : ¬ placedP e n := by unfold placedP; omega
   simp -implicitDefEqProofs (disch := (first | omega | (simp only [lq11] <;> omega) | fail)) only [admQ, lq11, aFill, AK.cls, implies_true, if_true, if_false, seval, -List.reduceReplicate, hp, decide_eq_false hno, dec_t ha]
  ·by_cases hb : n > 1099511627776
   ·have hno : ¬ placedP e n := by unfold placedP; omega
    simp -implicitDefEqProofs (disch := (first | omega | (simp only [lq11] <;> omega) | fail)) only [admQ, lq11, aFill, AK.cls, implies_true, if_true, if_false, seval, -List.reduceReplicate, hp, decide_eq_false hno, dec_f ha, dec_t hb]
   ·simp -implicitDefEqProofs (disch := (first | omega | (simp only [lq11] <;> omega) | fail)) only [admQ, lq11, aFill, AK.cls, implies_true, if_true, if_false, seval, -List.reduceReplicate, hp, dec_f ha, dec_f hb]
    exact hX 2 _ _ rfl (by omega) ⟨by omega, rfl, by omega, by omega⟩
 ·have he := h1 (by omega)
  have hn := h2 (by omega)
  have hyes : placedP e n := ⟨he, hn⟩
  simp -implicitDefEqProofs (disch := (first | omega | (simp only [lq11] <;> omega) | fail)) only [admQ, lq11, aFill, AK.cls, implies_true, if_true, if_false, seval, -List.reduceReplicate, decide_eq_true hyes]
def RdL (m : Mem) (xs : List AV) (ls : List (List B8)) : Prop := xs.length = ls.length ∧ ∀ (i : Nat) (l : List B8), ls[i]? = some l → ∃ x, xs[i]? = some x ∧ RdB m x l
theorem RdL.nil (m : Mem) : RdL m [] [] := ⟨rfl, fun i l h => by simp at h⟩
theorem RdL.cons {m : Mem} {x : AV} {l : List B8} {xs : List AV} {ls : List (List B8)} (h : RdB m x l) (hs : RdL m xs ls) : RdL m (x :: xs) (l :: ls) := by
 refine ⟨by simp [hs.1], fun i l' hl => ?_⟩
 cases i with
 | zero => cases hl; exact ⟨x, rfl, h⟩
 | succ i => exact hs.2 i l' (by simpa using hl)
theorem flat_take {ls : List (List B8)} {i : Nat} {l : List B8} (h : ls[i]? = some l) : (ls.take (i + 1)).flatten = (ls.take i).flatten ++ l := by
 rw [List.take_add_one, h]; simp
theorem flat_len {ls : List (List B8)} (i : Nat) : (ls.take i).flatten.length ≤ ls.flatten.length := by
 have : ls.flatten = (ls.take i).flatten ++ (ls.drop i).flatten := by rw [← List.flatten_append, List.take_append_drop]
 rw [this, List.length_append]; omega
theorem ans_sejoin {m : Mem} {p k : Nat} {xs : List AV} {ls : List (List B8)} (hp : rowOf m p = some xs) (hr : RdL m xs ls) (hk : ls.length = k) (hb : k ≤ 1000 ∧ ls.flatten.length ≤ 900000000) :
  Ans Tryz.prog 145 [.sl p 0 k k 0] m fun r m' => Kept [] m m' ∧ GrB m.length m' r ls.flatten := by
 refine ans_ret mixed ok145 ?_
 simp -implicitDefEqProofs (disch := (first | omega | (simp only [lq11] <;> omega) | fail)) only [admQ, lq11, aFill, AK.cls, implies_true, if_true, if_false, seval, -List.reduceReplicate, c145, r145]
 refine LoopW.on (fun t : Nat × AV => [(3, t.2), (6, .sl p 0 k k 0), (7, .int .i64 k), (8, .int .i64 t.1)]) (fun t => k - t.1) (fun t M => t.1 ≤ k ∧ Kept [] m M ∧ GrB m.length M t.2 (ls.take t.1).flatten) ?_ (0, .nils) _ _ rfl ⟨by simp, .refl _ _, .nils ..⟩
 rintro ⟨i, x⟩ M X ⟨hi, kk, g⟩ hX
 change GrB m.length M x (ls.take i).flatten at g
 simp only at hi
 by_cases hlt : i < k
 ·obtain ⟨l, hl⟩ : ∃ l, ls[i]? = some l := ⟨_, List.getElem?_eq_getElem (by omega)⟩
  obtain ⟨y, hy, hyr⟩ := hr.2 i l hl
  have hrow := kk.row hp (by simp)
  have hcat := flat_take hl
  have h1 := flat_len (ls := ls) (i + 1)
  rw [hcat, List.length_append] at h1
  simp -implicitDefEqProofs (disch := (first | omega | (simp only [lq11] <;> omega) | fail)) only [admQ, lq11, aFill, AK.cls, implies_true, if_true, if_false, seval, -List.reduceReplicate, hrow, hy]
  obtain ⟨x3, m3, e3, g3, k3, a3⟩ := g.pushs (hyr.kept0 kk) (by omega) kk.len
  refine someW_eq e3 ?_
  simp -implicitDefEqProofs (disch := (first | omega | (simp only [lq11] <;> omega) | fail)) only [admQ, lq11, aFill, AK.cls, implies_true, if_true, if_false, seval, -List.reduceReplicate]
  refine hX (i + 1, x3) _ _ rfl (by simp only; omega) ⟨by simp only; omega, a3 _ _ kk (Nat.le_refl _), ?_⟩
  show GrB m.length m3 x3 (ls.take (i + 1)).flatten
  rw [hcat]; exact g3
 ·obtain rfl : i = k := by omega
  rw [List.take_of_length_le (by omega)] at g
  simp -implicitDefEqProofs (disch := (first | omega | (simp only [lq11] <;> omega) | fail)) only [admQ, lq11, aFill, AK.cls, implies_true, if_true, if_false, seval, -List.reduceReplicate]
  exact ⟨kk, g⟩
end Go.Proofs.YtoegmnnecanhfaaGreatDoor
end
section
namespace Go.Proofs.YtoegmnnecanhfaaGreatDoor
open Go Go.Adm
set_option linter.unusedSimpArgs false
set_option linter.unusedVariables false
set_option maxRecDepth 100000
def encS : ByteArray := ⟨#[101, 110, 99, 114, 121, 112, 116]⟩
def authS : ByteArray := ⟨#[97, 117, 116, 104, 101, 110, 116, 105, 99, 97, 116, 101]⟩
def encK (key : List B8) : List B8 := (macB key (strB encS)).take 16
def authK (key : List B8) : List B8 := macB key (strB authS)
theorem encK_len (key : List B8) : (encK key).length = 16 := by simp [encK, macB_len]
theorem authK_len (key : List B8) : (authK key).length = 32 := macB_len _ _
def tagB (key head : List B8) (e n : Int) (b : List B8) : List B8 := macB (authK key) [lowB head.length 8, head, lowB e.toNat 8, lowB n.toNat 8, b].flatten
theorem tagB_len (key head : List B8) (e n : Int) (b : List B8) : (tagB key head e n b).length = 32 := macB_len _ _
def turnB (key : List B8) (e n : Int) (b : List B8) : List B8 := xorB (expand (encK key)) 11 (e64 e) (e64 n) b
theorem turnB_len (key : List B8) (e n : Int) (b : List B8) : (turnB key e n b).length = b.length := xorB_len _ _ _ _ _
def sealB (key head : List B8) (e n : Int) (b : List B8) : List B8 := turnB key e n b ++ tagB key head e n (turnB key e n b)
theorem rd_one {m : Mem} {x : AV} {l : List B8} (h : RdB m x l) : cellsV x = [x] ∧ x.solid = true := by
 rcases h with ⟨rfl, _⟩ | ⟨b, o, cap, s, c, rfl, _⟩ <;> exact ⟨rfl, rfl⟩
structure SBox (m : Mem) (x c kb k : Nat) (key : List B8) : Prop where
 hd : rowOf m x = some [.ptr c 0, .sl k 0 32 32 0]
 au : rowOf m k = some (bys (authK key))
 ci : Ciph m c kb 11 (expand (encK key))
 kT : rowOf m 0 = some (wds kT)
theorem SBox.kept {X : List Nat} {m m' : Mem} {x c kb k : Nat} {key : List B8} (h : SBox m x c kb k key) (hk : Kept X m m') (hX : x ∉ X ∧ c ∉ X ∧ kb ∉ X ∧ k ∉ X ∧ 0 ∉ X) : SBox m' x c kb k key :=
 ⟨hk.row h.hd hX.1, hk.row h.au hX.2.2.2.1, h.ci.kept hk hX.2.1 hX.2.2.1, hk.row h.kT hX.2.2.2.2⟩
theorem SBox.kept0 {m m' : Mem} {x c kb k : Nat} {key : List B8} (h : SBox m x c kb k key) (hk : Kept [] m m') : SBox m' x c kb k key := h.kept hk (by simp)
def lq12 := And.intro @lenB (And.intro @lowB_len (@macB_len))
theorem ans_senew {m : Mem} {y : AV} {key : List B8} (hK : rowOf m 0 = some (wds kT)) (hy : RdB m y key) (hkl : key.length ≤ 1000000000) :
  Ans Tryz.prog 7 [y] m fun r m' => ∃ x c kb k, r = .ptr x 0 ∧ Kept [] m m' ∧ (m.length ≤ x ∧ m.length ≤ c ∧ m.length ≤ kb ∧ m.length ≤ k) ∧ SBox m' x c kb k key := by
 refine ans_ret mixed ok7 ?_
 simp -implicitDefEqProofs (disch := (first | omega | (simp only [lq12] <;> omega) | fail)) only [admQ, lq12, aFill, AK.cls, implies_true, if_true, if_false, seval, -List.reduceReplicate, c7, r7]
 refine (ans_macderive encS hK hy hkl (by decide)).mono ?_
 rintro _ m1 ⟨rfl, k1⟩
 simp -implicitDefEqProofs (disch := (first | omega | (simp only [lq12] <;> omega) | fail)) only [admQ, lq12, aFill, AK.cls, implies_true, if_true, if_false, seval, -List.reduceReplicate]
 refine (ans_macderive authS (k1.row hK (by simp)) (hy.kept0 k1) hkl (by decide)).mono ?_
 rintro _ m2 ⟨rfl, k2⟩
 have h1 := macB_len key (strB encS)
 have h2 := macB_len key (strB authS)
 simp -implicitDefEqProofs (disch := (first | omega | (simp only [lq12] <;> omega) | fail)) only [admQ, lq12, aFill, AK.cls, implies_true, if_true, if_false, seval, -List.reduceReplicate]
 have kA := (k1.trans k2).more_app [Blk.row (bys (macB key (strB encS))) false, Blk.row (bys (macB key (strB authS))) false]
 have rE : RdB (m2 ++ [Blk.row (bys (macB key (strB encS))) false, Blk.row (bys (macB key (strB authS))) false]) (.sl m2.length 0 16 32 0) (encK key) := by
  have := RdB.row (m := m2 ++ [Blk.row (bys (macB key (strB encS))) false, Blk.row (bys (macB key (strB authS))) false]) (b := m2.length) (l := macB key (strB encS)) 32 0 (by rw [rowOf_app_at0]; rfl) (by omega)
  rw [h1] at this
  exact this.take (k := 16) (by omega)
 have rA : rowOf (m2 ++ [Blk.row (bys (macB key (strB encS))) false, Blk.row (bys (macB key (strB authS))) false]) (m2.length + 1) = some (bys (authK key)) := by rw [rowOf_app_at]; rfl
 have hAl : (m2 ++ [Blk.row (bys (macB key (strB encS))) false, Blk.row (bys (macB key (strB authS))) false]).length = m2.length + 2 := by simp
 generalize m2 ++ [Blk.row (bys (macB key (strB encS))) false, Blk.row (bys (macB key (strB authS))) false] = A at kA rE rA hAl
 have hel := encK_len key
 refine (ans_new rE (.inl hel)).mono ?_
 rintro _ m3 ⟨c, kb, rfl, k3, hc, hkb, ci⟩
 rw [hel] at ci
 simp -implicitDefEqProofs (disch := (first | omega | (simp only [lq12] <;> omega) | fail)) only [admQ, lq12, aFill, AK.cls, implies_true, if_true, if_false, seval, -List.reduceReplicate]
 have hlA := kA.len
 have hl1 := (k1.trans k2).len
 have hl3 := k3.len
 refine ⟨_, c, kb, m2.length + 1, rfl, (kA.trans k3).more_app _, ⟨by omega, by omega, by omega, by omega⟩, ⟨by rw [rowOf_app_at0]; rfl, (k3.more_app _).row rA (by simp), ci.app _, ((kA.trans k3).more_app _).row hK (by simp)⟩⟩
theorem ans_sesum {m : Mem} {x : AV} {y : AV} {B : List B8} (hK : rowOf m 0 = some (wds kT)) (hB : RdB m y B) (hlen : B.length ≤ 1000000000) :
  Ans Tryz.prog 140 [x, y] m fun r m' => r = .agg (bys (shaB B)) ∧ Kept [] m m' := by
 refine ans_ret mixed ok140 ?_
 have h0 := rowOf_lt hK
 simp -implicitDefEqProofs (disch := (first | omega | (simp only [lq12] <;> omega) | fail)) only [admQ, lq12, aFill, AK.cls, implies_true, if_true, if_false, seval, -List.reduceReplicate, c140, r140]
 have k0 := Kept.app [] m [Blk.row (bys (List.replicate 32 0#8)) false]
 have o0 : own (m ++ [Blk.row (bys (List.replicate 32 0#8)) false]) m.length = some (bys (List.replicate 32 0#8)) := by rw [own_app_at0]; rfl
 generalize m ++ [Blk.row (bys (List.replicate 32 0#8)) false] = A0 at k0 o0
 refine (ans_shaof (k0.row hK (by simp)) (hB.kept0 k0) hlen).mono ?_
 rintro _ m1 ⟨rfl, k1⟩
 have o1 := k1.own o0 (by simp)
 have hs := shaB_len B
 simp -implicitDefEqProofs (disch := (first | omega | (simp only [lq12] <;> omega) | fail)) only [admQ, lq12, aFill, AK.cls, implies_true, if_true, if_false, seval, -List.reduceReplicate, o1, own_set (own_lt o1), rowOf_own (own_set (own_lt o1) _)]
 exact (k0.trans k1).write (.inr (Nat.le_refl _)) _
theorem ans_setag {m : Mem} {x c kb k : Nat} {key head b : List B8} {hx bx : AV} {e n : Int} (hs : SBox m x c kb k key) (hh : RdB m hx head) (hb : RdB m bx b) (he : placedP e n) (hl : head.length ≤ 100000000 ∧ b.length ≤ 100000000) :
  Ans Tryz.prog 143 [.ptr x 0, .int .i64 e, .int .i64 n, hx, bx] m fun r m' => r = .agg (bys (tagB key head e n b)) ∧ Kept [] m m' := by
 refine ans_ret mixed ok143 ?_
 obtain ⟨⟨e0, e1⟩, n0, n1⟩ := he
 obtain ⟨e, rfl⟩ := Int.eq_ofNat_of_zero_le e0
 obtain ⟨n, rfl⟩ := Int.eq_ofNat_of_zero_le n0
 have hd := fun e => (Kept.app [] m e).row hs.hd (by simp)
 simp -implicitDefEqProofs (disch := (first | omega | (simp only [lq12] <;> omega) | fail)) only [admQ, lq12, aFill, AK.cls, implies_true, if_true, if_false, seval, -List.reduceReplicate, c143, r143, hd, hh.len]
 have k0 := Kept.app [] m [Blk.row (bys (List.replicate 32 0#8)) false]
 have o0 : own (m ++ [Blk.row (bys (List.replicate 32 0#8)) false]) m.length = some (bys (List.replicate 32 0#8)) := by rw [own_app_at0]; rfl
 have hA0 : (m ++ [Blk.row (bys (List.replicate 32 0#8)) false]).length = m.length + 1 := by simp
 generalize m ++ [Blk.row (bys (List.replicate 32 0#8)) false] = A at k0 o0 hA0
 refine (ans_seeight head.length (by omega) _).mono ?_
 rintro r1 m1 ⟨k1, g1⟩
 simp -implicitDefEqProofs (disch := (first | omega | (simp only [lq12] <;> omega) | fail)) only [admQ, lq12, aFill, AK.cls, implies_true, if_true, if_false, seval, -List.reduceReplicate, (k0.trans k1).row hs.hd (by simp)]
 refine (ans_seeight e (by omega) _).mono ?_
 rintro r2 m2 ⟨k12, g2⟩
 have k2 := k1.trans k12
 simp -implicitDefEqProofs (disch := (first | omega | (simp only [lq12] <;> omega) | fail)) only [admQ, lq12, aFill, AK.cls, implies_true, if_true, if_false, seval, -List.reduceReplicate, (k0.trans k2).row hs.hd (by simp)]
 refine (ans_seeight n (by omega) _).mono ?_
 rintro r3 m3 ⟨k23, g3⟩
 have k3 := k2.trans k23
 simp -implicitDefEqProofs (disch := (first | omega | (simp only [lq12] <;> omega) | fail)) only [admQ, lq12, aFill, AK.cls, implies_true, if_true, if_false, seval, -List.reduceReplicate, (k0.trans k3).row hs.hd (by simp), (gr_one g1).1, (gr_one g1).2, (gr_one g2).1, (gr_one g2).2, (gr_one g3).1, (gr_one g3).2, (rd_one hh).1, (rd_one hh).2, (rd_one hb).1, (rd_one hb).2]
 have kB := k3.more_app [Blk.row [r1, hx, r2, r3, bx] false]
 have rB : rowOf (m3 ++ [Blk.row [r1, hx, r2, r3, bx] false]) m3.length = some [r1, hx, r2, r3, bx] := by rw [rowOf_app_at0]; rfl
 have rl : RdL (m3 ++ [Blk.row [r1, hx, r2, r3, bx] false]) [r1, hx, r2, r3, bx] [lowB head.length 8, head, lowB e 8, lowB n 8, b] := by
  exact .cons ((g1.rd.kept0 (k12.trans k23)).app _) (.cons ((hh.kept0 (k0.trans k3)).app _) (.cons ((g2.rd.kept0 k23).app _) (.cons (g3.rd.app _) (.cons ((hb.kept0 (k0.trans k3)).app _) (.nil _)))))
 generalize m3 ++ [Blk.row [r1, hx, r2, r3, bx] false] = C at kB rB rl
 refine (ans_sejoin (k := 5) rB rl rfl ⟨by omega, by simp [lowB_len]; omega⟩).mono ?_
 rintro r m4 ⟨k4, g4⟩
 replace k4 := kB.trans k4
 have hs4 := hs.kept0 (k0.trans k4)
 simp -implicitDefEqProofs (disch := (first | omega | (simp only [lq12] <;> omega) | fail)) only [admQ, lq12, aFill, AK.cls, implies_true, if_true, if_false, seval, -List.reduceReplicate, hs4.hd]
 have hak := authK_len key
 have rk := RdB.row (m := m4) (l := authK key) 32 0 hs4.au (by omega)
 rw [hak] at rk
 refine (ans_macof hs4.kT rk g4.rd (by omega) (by simp [lowB_len]; omega)).mono ?_
 rintro _ m5 ⟨rfl, k5⟩
 have o5 := (k4.trans k5).own o0 (by simp)
 have hml := macB_len (authK key) [lowB head.length 8, head, lowB e 8, lowB n 8, b].flatten
 simp -implicitDefEqProofs (disch := (first | omega | (simp only [lq12] <;> omega) | fail)) only [admQ, lq12, aFill, AK.cls, implies_true, if_true, if_false, seval, -List.reduceReplicate, o5, own_set (own_lt o5), rowOf_own (own_set (own_lt o5) _), (hs4.kept0 k5).hd]
 exact ⟨rfl, (k0.trans (k4.trans k5)).write (.inr (Nat.le_refl _)) _⟩
end Go.Proofs.YtoegmnnecanhfaaGreatDoor
end
section
namespace Go.Proofs.YtoegmnnecanhfaaGreatDoor
open Go Go.Adm
set_option linter.unusedSimpArgs false
set_option linter.unusedVariables false
set_option maxRecDepth 100000
def lq13 := And.intro @lenB (And.intro @lowB_len (And.intro @macB_len (And.intro @tagB_len (@turnB_len))))
theorem ans_seseal {m : Mem} {x c kb k : Nat} {key head b : List B8} {hx bx : AV} {e n : Int} (hs : SBox m x c kb k key) (hh : RdB m hx head) (hb : RdB m bx b) (hl : head.length ≤ 100000 ∧ b.length ≤ 100000) :
  Ans Tryz.prog 139 [.ptr x 0, .int .i64 e, .int .i64 n, hx, bx] m fun r m' => Kept [] m m' ∧ (placedP e n → GrB m.length m' r (sealB key head e n b)) ∧ (¬ placedP e n → r = .nils) := by
 refine ans_ret mixed ok139 ?_
 have hd := fun e => (Kept.app [] m e).row hs.hd (by simp)
 simp -implicitDefEqProofs (disch := (first | omega | (simp only [lq13] <;> omega) | fail)) only [admQ, lq13, aFill, AK.cls, implies_true, if_true, if_false, seval, -List.reduceReplicate, c139, r139, hd]
 refine (ans_seplaced (by rw [rowOf_app_at0]; rfl)).mono ?_
 rintro _ _ ⟨rfl, rfl⟩
 by_cases hp : placedP e n
 ·simp -implicitDefEqProofs (disch := (first | omega | (simp only [lq13] <;> omega) | fail)) only [admQ, lq13, aFill, AK.cls, implies_true, if_true, if_false, seval, -List.reduceReplicate, decide_eq_true hp, hd, Bool.not_true]
  have k0 := Kept.app [] m [Blk.row [.int .i64 e, .int .i64 n] false]
  generalize m ++ [Blk.row [.int .i64 e, .int .i64 n] false] = A at k0
  refine (ans_ctrxor (hs.kept0 k0).ci e n (hb.kept0 k0) hl.2).mono ?_
  rintro _ m1 ⟨p, rfl, k1, hp1, o1⟩
  have hk1 := k0.trans k1
  change own m1 p = some (bys (turnB key e n b)) at o1
  have htl := turnB_len key e n b
  have rt := RdB.row (m := m1) (b := p) (l := turnB key e n b) b.length 0 (rowOf_own o1) (by omega)
  rw [htl] at rt
  simp -implicitDefEqProofs (disch := (first | omega | (simp only [lq13] <;> omega) | fail)) only [admQ, lq13, aFill, AK.cls, implies_true, if_true, if_false, seval, -List.reduceReplicate]
  refine (ans_setag (hs.kept0 hk1) (hh.kept0 hk1) rt hp ⟨by omega, by omega⟩).mono ?_
  rintro _ m2 ⟨rfl, k2⟩
  have hgl := tagB_len key head e n (turnB key e n b)
  simp -implicitDefEqProofs (disch := (first | omega | (simp only [lq13] <;> omega) | fail)) only [admQ, lq13, aFill, AK.cls, implies_true, if_true, if_false, seval, -List.reduceReplicate]
  have k2' := hk1.trans k2
  have kC := k2'.more_app [Blk.row (bys (tagB key head e n (turnB key e n b))) false, Blk.row [.sl p 0 b.length b.length 0, .sl m2.length 0 32 32 0] false]
  have rT : RdB (m2 ++ [Blk.row (bys (tagB key head e n (turnB key e n b))) false, Blk.row [.sl p 0 b.length b.length 0, .sl m2.length 0 32 32 0] false]) (.sl m2.length 0 32 32 0) (tagB key head e n (turnB key e n b)) := by
   have := RdB.row (m := m2 ++ [Blk.row (bys (tagB key head e n (turnB key e n b))) false, Blk.row [.sl p 0 b.length b.length 0, .sl m2.length 0 32 32 0] false]) (b := m2.length) (l := tagB key head e n (turnB key e n b)) 32 0 (by rw [rowOf_app_at0]; rfl) (by omega)
   rwa [hgl] at this
  refine (ans_sejoin (k := 2) (ls := [turnB key e n b, tagB key head e n (turnB key e n b)]) (by rw [rowOf_app_at]; rfl) (.cons ((rt.kept0 k2).app _) (.cons rT (.nil _))) rfl ⟨by omega, by simp [htl, hgl]; omega⟩).mono ?_
  rintro r m3 ⟨k3, g3⟩
  simp -implicitDefEqProofs (disch := (first | omega | (simp only [lq13] <;> omega) | fail)) only [admQ, lq13, aFill, AK.cls, implies_true, if_true, if_false, seval, -List.reduceReplicate]
  have hlC := kC.len
  refine ⟨kC.trans k3, fun _ => ?_, fun h => absurd hp h⟩
  have e1 : [turnB key e n b, tagB key head e n (turnB key e n b)].flatten = sealB key head e n b := by simp [sealB]
  rw [e1] at g3
  exact g3.low hlC
 ·simp -implicitDefEqProofs (disch := (first | omega | (simp only [lq13] <;> omega) | fail)) only [admQ, lq13, aFill, AK.cls, implies_true, if_true, if_false, seval, -List.reduceReplicate, decide_eq_false hp, Bool.not_false]
  exact ⟨.app _ _ _, fun h => absurd h hp⟩
def openP (key head : List B8) (e n : Int) (s : List B8) : Prop := placedP e n ∧ 32 ≤ s.length ∧ tagB key head e n (s.take (s.length - 32)) = s.drop (s.length - 32)
theorem ans_seopen {m : Mem} {x c kb k : Nat} {key head b : List B8} {hx bx : AV} {e n : Int} (hs : SBox m x c kb k key) (hh : RdB m hx head) (hb : RdB m bx b) (hl : head.length ≤ 100000 ∧ b.length ≤ 100000) :
  Ans Tryz.prog 138 [.ptr x 0, .int .i64 e, .int .i64 n, hx, bx] m fun r m' => Kept [] m m' ∧ (openP key head e n b → ∃ p, m.length ≤ p ∧ r = .tup [.sl p 0 (b.length - 32) (b.length - 32) 0, .bool true] ∧ own m' p = some (bys (turnB key e n (b.take (b.length - 32))))) ∧ (¬ openP key head e n b → r = .tup [.nils, .bool false]) := by
 refine ans_ret mixed ok138 ?_
 have hd := fun e => (Kept.app [] m e).row hs.hd (by simp)
 simp -implicitDefEqProofs (disch := (first | omega | (simp only [lq13] <;> omega) | fail)) only [admQ, lq13, aFill, AK.cls, implies_true, if_true, if_false, seval, -List.reduceReplicate, c138, r138, hd, hb.len]
 refine (ans_seplaced (by rw [rowOf_app_at0]; rfl)).mono ?_
 rintro _ _ ⟨rfl, rfl⟩
 by_cases hp : placedP e n
 ·simp -implicitDefEqProofs (disch := (first | omega | (simp only [lq13] <;> omega) | fail)) only [admQ, lq13, aFill, AK.cls, implies_true, if_true, if_false, seval, -List.reduceReplicate, decide_eq_true hp, hd, Bool.not_true]
  have k0 := Kept.app [] m [Blk.row [.int .i64 e, .int .i64 n] false]
  generalize m ++ [Blk.row [.int .i64 e, .int .i64 n] false] = A at k0
  by_cases h32 : b.length < 32
  ·have hno : ¬ openP key head e n b := fun h => by have := h.2.1; omega
   simp -implicitDefEqProofs (disch := (first | omega | (simp only [lq13] <;> omega) | fail)) only [admQ, lq13, aFill, AK.cls, implies_true, if_true, if_false, seval, -List.reduceReplicate]
   exact ⟨k0, fun h => absurd h hno⟩
  ·rw [show (b.length : Int) - 32 = ((b.length - 32 : Nat) : Int) by omega]
   obtain ⟨q, o, cap, sl, cc, rfl, hrow, hat, hlen, hcap, hsl, htk⟩ := hb.cons (i := 0) (by omega)
   have hbA := hb.kept0 k0
   have hrA := k0.row hrow (by simp)
   simp -implicitDefEqProofs (disch := (first | omega | (simp only [lq13] <;> omega) | fail)) only [admQ, lq13, aFill, AK.cls, implies_true, if_true, if_false, seval, -List.reduceReplicate]
   refine (ans_setag (hs.kept0 k0) (hh.kept0 k0) (hbA.take (k := b.length - 32) (by omega)) hp ⟨by omega, by simp; omega⟩).mono ?_
   rintro _ m1 ⟨rfl, k1⟩
   have hr1 := k1.row hrA (by simp)
   have hcut : List.take 32 (List.drop (o + (b.length - 32)) cc) = bys (b.drop (b.length - 32)) := by
    show _ = (b.drop (b.length - 32)).map b8
    have h4 : b.map b8 = List.take b.length (List.drop o cc) := htk.symm
    rw [List.map_drop, h4, List.drop_take, List.drop_drop, show b.length - (b.length - 32) = 32 by omega]
   have hdl : (b.drop (b.length - 32)).length = 32 := by simp; omega
   simp -implicitDefEqProofs (disch := (first | omega | (simp only [lq13] <;> omega) | fail)) only [admQ, lq13, aFill, AK.cls, implies_true, if_true, if_false, seval, -List.reduceReplicate, hr1, hrA, hcut]
   refine (ans_macsame (tagB_len _ _ _ _ _) hdl).mono ?_
   rintro _ m2 ⟨rfl, k2⟩
   have K2 := k0.trans (k1.trans k2)
   by_cases hok : tagB key head e n (b.take (b.length - 32)) = b.drop (b.length - 32)
   ·have hyes : openP key head e n b := ⟨hp, by omega, hok⟩
    have hb2 := hb.kept0 K2
    simp -implicitDefEqProofs (disch := (first | omega | (simp only [lq13] <;> omega) | fail)) only [admQ, lq13, aFill, AK.cls, implies_true, if_true, if_false, seval, -List.reduceReplicate, beq_iff_eq.mpr hok, Bool.not_true, (hs.kept0 K2).hd, k2.row hr1 (by simp), hcut]
    have h8 : (b.take (b.length - 32)).length = b.length - 32 := by simp
    refine (ans_ctrxor (hs.kept0 K2).ci e n (hb2.take (k := b.length - 32) (by omega)) (by omega)).mono ?_
    rintro _ m3 ⟨p, rfl, k3, hp3, o3⟩
    simp -implicitDefEqProofs (disch := (first | omega | (simp only [lq13] <;> omega) | fail)) only [admQ, lq13, aFill, AK.cls, implies_true, if_true, if_false, seval, -List.reduceReplicate]
    rw [h8]
    have hl2 := K2.len
    exact ⟨K2.trans k3, fun _ => ⟨p, by omega, rfl, o3⟩, fun h => absurd hyes h⟩
   ·have hno : ¬ openP key head e n b := fun h => hok h.2.2
    simp -implicitDefEqProofs (disch := (first | omega | (simp only [lq13] <;> omega) | fail)) only [admQ, lq13, aFill, AK.cls, implies_true, if_true, if_false, seval, -List.reduceReplicate, beq_eq_false_iff_ne.mpr hok, Bool.not_false, k2.row hr1 (by simp), hcut]
    exact ⟨K2, fun h => absurd h hno⟩
 ·have hno : ¬ openP key head e n b := fun h => hp h.1
  simp -implicitDefEqProofs (disch := (first | omega | (simp only [lq13] <;> omega) | fail)) only [admQ, lq13, aFill, AK.cls, implies_true, if_true, if_false, seval, -List.reduceReplicate, decide_eq_false hp, Bool.not_false]
  exact ⟨.app _ _ _, fun h => absurd h hno⟩
end Go.Proofs.YtoegmnnecanhfaaGreatDoor
end
section
namespace Go.Proofs.YtoegmnnecanhfaaGreatDoor
open Go Go.Adm
set_option linter.unusedSimpArgs false
set_option linter.unusedVariables false
set_option maxRecDepth 100000
theorem turnB_back (key : List B8) (e n : Int) (b : List B8) : turnB key e n (turnB key e n b) = b := by
 apply gb_ext (by rw [turnB_len, turnB_len])
 intro i hi
 rw [turnB_len, turnB_len] at hi
 unfold turnB xorB
 rw [gb_tab _ (by rw [tab_len]; exact hi), gb_tab _ hi]
 generalize ksAt _ _ _ _ i = z
 rw [BitVec.xor_assoc, BitVec.xor_self, BitVec.xor_zero]
theorem sealB_len (key head : List B8) (e n : Int) (b : List B8) : (sealB key head e n b).length = b.length + 32 := by rw [sealB, List.length_append, turnB_len, tagB_len]
theorem sealB_take (key head : List B8) (e n : Int) (b : List B8) : (sealB key head e n b).take ((sealB key head e n b).length - 32) = turnB key e n b := by
 rw [sealB_len, sealB, Nat.add_sub_cancel]
 exact List.take_left' (turnB_len _ _ _ _)
theorem sealB_drop (key head : List B8) (e n : Int) (b : List B8) : (sealB key head e n b).drop ((sealB key head e n b).length - 32) = tagB key head e n (turnB key e n b) := by
 rw [sealB_len, sealB, Nat.add_sub_cancel]
 exact List.drop_left' (turnB_len _ _ _ _)
theorem openP_seal {key head : List B8} {e n : Int} (b : List B8) (h : placedP e n) : openP key head e n (sealB key head e n b) :=
 ⟨h, by rw [sealB_len]; omega, by rw [sealB_take, sealB_drop]⟩
end Go.Proofs.YtoegmnnecanhfaaGreatDoor
end
section
namespace Go.Proofs.YtoegmnnecanhfaaGreatDoor
open Go Go.Adm
set_option linter.unusedSimpArgs false
set_option linter.unusedVariables false
set_option maxRecDepth 100000
theorem ans_rsrot (x : W32) (n : Nat) (hn : n ≤ 32) (m : Mem) : Ans Tryz.prog 117 [.int .u64 n, b32 x] m fun r m' => r = b32 (rotR x n) ∧ m' = m := by
 refine ans_ret mixed ok117 ?_
 simp -implicitDefEqProofs (disch := (first | omega | (simp only [lq8] <;> omega) | fail)) only [admQ, lq8, aFill, AK.cls, implies_true, if_true, if_false, seval, -List.reduceReplicate, c117, r117, u32R, @w64]
 rfl
theorem ans_rswords {m : Mem} {x : AV} {B : List B8} (hB : RdB m x B) (h64 : B.length = 64) :
  Ans Tryz.prog 116 [x] m fun r m' => Kept [] m m' ∧ GrA 1 m.length m' r (wds (wS B 64)) := by
 refine ans_ret mixed ok116 ?_
 obtain ⟨b, o, cap, sl, c, rfl, hrow, hat, hlen, hcap, hsl, _⟩ := hB.cons (i := 0) (by omega)
 rw [h64] at hat hlen hcap
 rw [show B.length = 64 from h64]
 simp -implicitDefEqProofs (disch := (first | omega | (simp only [lq8] <;> omega) | fail)) only [admQ, lq8, aFill, AK.cls, implies_true, if_true, if_false, seval, -List.reduceReplicate, c116, r116]
 refine LoopW.on (fun t : Nat × AV => [(0, .sl b o 64 cap sl), (3, t.2), (4, .int .i64 t.1)]) (fun t => 16 - t.1) (fun t M => t.1 ≤ 16 ∧ Kept [] m M ∧ GrA 1 m.length M t.2 (wds (wS B t.1))) ?_ (0, .nils) _ _ rfl ⟨by simp, .refl _ _, .nils ..⟩
 rintro ⟨i, y⟩ M X ⟨hi, kk, g⟩ hX
 change GrA 1 m.length M y (wds (wS B i)) at g
 simp only at hi
 by_cases hlt : i < 16
 ·have hr := kk.row hrow (by simp)
  simp -implicitDefEqProofs (disch := (first | omega | (simp only [lq8] <;> omega) | fail)) only [admQ, lq8, aFill, AK.cls, implies_true, if_true, if_false, seval, -List.reduceReplicate, u32R, hr, hat]
  obtain ⟨x3, m3, e3, g3, k3, a3⟩ := g.push (bytes := 4) (by omega) (l := [b32 (wd0 B i)]) rfl (by simp [wS_len]; omega) kk.len
  refine someW_eq e3 ?_
  simp -implicitDefEqProofs (disch := (first | omega | (simp only [lq8] <;> omega) | fail)) only [admQ, lq8, aFill, AK.cls, implies_true, if_true, if_false, seval, -List.reduceReplicate]
  refine hX (i + 1, x3) _ _ rfl (by simp only; omega) ⟨by simp only; omega, a3 _ _ kk (Nat.le_refl _), ?_⟩
  show GrA 1 m.length m3 x3 (wds (wS B (i + 1)))
  rw [wS, if_pos hlt, wds, List.map_append]; exact g3
 ·obtain rfl : i = 16 := by omega
  simp -implicitDefEqProofs (disch := (first | omega | (simp only [lq8] <;> omega) | fail)) only [admQ, lq8, aFill, AK.cls, implies_true, if_true, if_false, seval, -List.reduceReplicate]
  clear hX X
  refine LoopW.on (fun t : Nat × AV => [(3, t.2), (5, .int .i64 t.1)]) (fun t => 64 - t.1) (fun t M => 16 ≤ t.1 ∧ t.1 ≤ 64 ∧ Kept [] m M ∧ GrA 1 m.length M t.2 (wds (wS B t.1))) ?_ (16, y) _ _ rfl ⟨by simp, by simp, kk, g⟩
  clear kk g hi hlt M y
  rintro ⟨i, y⟩ M X ⟨h16, hi, kk, g⟩ hX
  change GrA 1 m.length M y (wds (wS B i)) at g
  simp only at hi h16
  have hwl : (wds (wS B i)).length = i := by rw [wds_len, wS_len]
  by_cases hlt : i < 64
  ·obtain ⟨q, n, rfl, hn0, hn, hq, hq0⟩ := g.sl (by intro e; rw [e] at hwl; simp at hwl; omega)
   obtain rfl : n = i := by omega
   have hw : ∀ j, j < n → (wds (wS B n))[j]? = some (b32 (gw (wS B n) j)) := fun j hj => wds_at (by rw [wS_len]; exact hj)
   simp -implicitDefEqProofs (disch := (first | omega | (simp only [lq8] <;> omega) | fail)) only [admQ, lq8, aFill, AK.cls, implies_true, if_true, if_false, seval, -List.reduceReplicate, u32R, rowOf_own hq, hw]
   refine (ans_rsrot _ 17 (by omega) _).mono ?_
   rintro _ _ ⟨rfl, rfl⟩
   simp -implicitDefEqProofs (disch := (first | omega | (simp only [lq8] <;> omega) | fail)) only [admQ, lq8, aFill, AK.cls, implies_true, if_true, if_false, seval, -List.reduceReplicate, u32R, rowOf_own hq, hw]
   refine (ans_rsrot _ 19 (by omega) _).mono ?_
   rintro _ _ ⟨rfl, rfl⟩
   simp -implicitDefEqProofs (disch := (first | omega | (simp only [lq8] <;> omega) | fail)) only [admQ, lq8, aFill, AK.cls, implies_true, if_true, if_false, seval, -List.reduceReplicate, u32R, rowOf_own hq, hw]
   refine (ans_rsrot _ 7 (by omega) _).mono ?_
   rintro _ _ ⟨rfl, rfl⟩
   simp -implicitDefEqProofs (disch := (first | omega | (simp only [lq8] <;> omega) | fail)) only [admQ, lq8, aFill, AK.cls, implies_true, if_true, if_false, seval, -List.reduceReplicate, u32R, rowOf_own hq, hw]
   refine (ans_rsrot _ 18 (by omega) _).mono ?_
   rintro _ _ ⟨rfl, rfl⟩
   simp -implicitDefEqProofs (disch := (first | omega | (simp only [lq8] <;> omega) | fail)) only [admQ, lq8, aFill, AK.cls, implies_true, if_true, if_false, seval, -List.reduceReplicate, u32R, rowOf_own hq, hw]
   obtain ⟨x3, m3, e3, g3, k3, a3⟩ := g.push (bytes := 4) (by omega) (l := [b32 (wdN (wS B n) n)]) rfl (by simp [wS_len]; omega) kk.len
   refine someW_eq e3 ?_
   simp -implicitDefEqProofs (disch := (first | omega | (simp only [lq8] <;> omega) | fail)) only [admQ, lq8, aFill, AK.cls, implies_true, if_true, if_false, seval, -List.reduceReplicate]
   refine hX (n + 1, x3) _ _ rfl (by simp only; omega) ⟨by simp only; omega, by simp only; omega, a3 _ _ kk (Nat.le_refl _), ?_⟩
   show GrA 1 m.length m3 x3 (wds (wS B (n + 1)))
   rw [wS, if_neg (by omega), wds, List.map_append]; exact g3
  ·obtain rfl : i = 64 := by omega
   simp -implicitDefEqProofs (disch := (first | omega | (simp only [lq8] <;> omega) | fail)) only [admQ, lq8, aFill, AK.cls, implies_true, if_true, if_false, seval, -List.reduceReplicate]
   exact ⟨kk, g⟩
def St8 (m : Mem) (x : AV) (s : S8) : Prop := ∃ b cap z, x = .sl b 0 8 cap z ∧ rowOf m b = some s.cells ∧ 8 ≤ cap
theorem St8.kept0 {m m' : Mem} {x : AV} {s : S8} (h : St8 m x s) (hk : Kept [] m m') : St8 m' x s :=
 let ⟨b, cap, z, h1, h2, h3⟩ := h
 ⟨b, cap, z, h1, hk.row h2 (by simp), h3⟩
theorem St8.elems {m : Mem} {x : AV} {s : S8} (h : St8 m x s) : Adm.elems 1 8 x m = some s.cells ∧ Adm.lenA x = some 8 := by
 obtain ⟨b, cap, z, rfl, h2, h3⟩ := h
 refine ⟨?_, rfl⟩
 unfold Adm.elems
 simp only [h2, Option.bind_some]
 rfl
theorem St8.of_gr {m0 : Nat} {m : Mem} {x : AV} {s : S8} (g : GrA 1 m0 m x s.cells) : St8 m x s := by
 obtain ⟨b, n, rfl, _, hn, hb, _⟩ := g.sl (by simp [S8.cells_eq])
 rw [S8.cells_len] at hn
 obtain rfl : n = 8 := by omega
 exact ⟨b, 8, 1, rfl, rowOf_own hb, Nat.le_refl _⟩
theorem rnd_cells (r : S8) (k w : W32) : (r.rnd k w).cells = [b32 (r.t1 k w + (rotR r.a 2 ^^^ rotR r.a 13 ^^^ rotR r.a 22) + (r.a &&& r.b ^^^ r.a &&& r.c ^^^ r.b &&& r.c)), b32 r.a, b32 r.b, b32 r.c, b32 (r.d + r.t1 k w), b32 r.e, b32 r.f, b32 r.g] := by
 rw [S8.cells_eq, S8.rnd, S8.t2, BitVec.add_assoc]
theorem add_gw (s r : S8) {i : Nat} (h : i < 8) : gw s.l i + gw r.l i = gw (s.add r).l i := by
 rcases (show i = 0 ∨ i = 1 ∨ i = 2 ∨ i = 3 ∨ i = 4 ∨ i = 5 ∨ i = 6 ∨ i = 7 by omega) with rfl | rfl | rfl | rfl | rfl | rfl | rfl | rfl <;> rfl
theorem take_gw {l : List W32} {i : Nat} (h : i < l.length) : l.take (i + 1) = l.take i ++ [gw l i] := by
 rw [List.take_add_one]; simp [gw, h]
set_option maxHeartbeats 2000000 in
theorem ans_rstake (s : S8) {m : Mem} {x y : AV} {B : List B8} (hK : rowOf m 1 = some (wds kT)) (hx : St8 m x s) (hB : RdB m y B) (h64 : B.length = 64) :
  Ans Tryz.prog 111 [x, y] m fun r m' => Kept [] m m' ∧ GrA 1 m.length m' r (s.take B).cells := by
 refine ans_ret mixed ok111 ?_
 simp -implicitDefEqProofs (disch := (first | omega | (simp only [lq8] <;> omega) | fail)) only [admQ, lq8, aFill, AK.cls, implies_true, if_true, if_false, seval, -List.reduceReplicate, c111, r111]
 refine (ans_rswords hB h64).mono ?_
 rintro w m1 ⟨k1, g1⟩
 have hw64 : (wds (wS B 64)).length = 64 := by rw [wds_len, wS_len]
 obtain ⟨q, n, rfl, hn0, hn, hq, hq0⟩ := g1.sl (by intro e; rw [e] at hw64; simp at hw64)
 obtain rfl : n = 64 := by omega
 simp -implicitDefEqProofs (disch := (first | omega | (simp only [lq8] <;> omega) | fail)) only [admQ, lq8, aFill, AK.cls, implies_true, if_true, if_false, seval, -List.reduceReplicate]
 have gz : GrA 1 m.length (m1 ++ [Blk.row [] false]) (.sl m1.length 0 0 0 0) [] := .zero (by rw [own_app_at0]; rfl)
 have hx1 := (hx.kept0 k1).kept0 (.app [] m1 [Blk.row [] false])
 have hl1 := k1.len
 obtain ⟨x2, m2, e2, g2, k2, a2⟩ := gz.pushs (bytes := 4) (by omega) hx1.elems.1 hx1.elems.2 (by rw [S8.cells_len]) (by simp) (by simp; omega)
 refine someW_eq e2 ?_
 have K2 := a2 _ _ (k1.more_app [Blk.row [] false]) (Nat.le_refl _)
 have hq2 : rowOf m2 q = some (wds (wS B 64)) := k2.row ((Kept.app [] m1 _).row (rowOf_own hq) (by simp)) (by have := own_lt hq; simp [blkOf]; omega)
 rw [List.nil_append] at g2
 have hx2 : St8 m2 x2 s := .of_gr g2
 have hK2 := K2.row hK (by simp)
 have hxs := hx.kept0 K2
 clear e2 a2 k2 gz hx1 g1 hq hq0 hl1
 simp -implicitDefEqProofs (disch := (first | omega | (simp only [lq8] <;> omega) | fail)) only [admQ, lq8, aFill, AK.cls, implies_true, if_true, if_false, seval, -List.reduceReplicate]
 have hkT : ∀ j, j < 64 → (wds kT)[j]? = some (b32 (gw kT j)) := fun j hj => wds_at hj
 have hw : ∀ j, j < 64 → (wds (wS B 64))[j]? = some (b32 (gw (wS B 64) j)) := fun j hj => wds_at (by rw [wS_len]; exact hj)
 refine LoopW.on (fun t : Nat × AV => [(0, x), (5, .sl q 0 64 64 1), (6, t.2), (7, .int .i64 t.1)]) (fun t => 64 - t.1) (fun t M => t.1 ≤ 64 ∧ Kept [] m2 M ∧ St8 M t.2 (s.rnds (wS B 64) t.1)) ?_ (0, x2) _ _ rfl ⟨by simp, .refl _ _, hx2⟩
 rintro ⟨i, z⟩ M X ⟨hi, kk, h8⟩ hX
 change St8 M z (s.rnds (wS B 64) i) at h8
 simp only at hi
 generalize hr : s.rnds (wS B 64) i = r at h8
 by_cases hlt : i < 64
 ·obtain ⟨b, cap, sz, rfl, hrow, hcap⟩ := h8
  rw [S8.cells_eq] at hrow
  have hqM := kk.row hq2 (by simp)
  have hKM := kk.row hK2 (by simp)
  simp -implicitDefEqProofs (disch := (first | omega | (simp only [lq8] <;> omega) | fail)) only [admQ, lq8, aFill, AK.cls, implies_true, if_true, if_false, seval, -List.reduceReplicate, u32R, hrow, hqM, hKM, hw, hkT]
  refine (ans_rsrot _ 6 (by omega) _).mono ?_
  rintro _ _ ⟨rfl, rfl⟩
  simp -implicitDefEqProofs (disch := (first | omega | (simp only [lq8] <;> omega) | fail)) only [admQ, lq8, aFill, AK.cls, implies_true, if_true, if_false, seval, -List.reduceReplicate, u32R, hrow, hqM, hKM, hw, hkT]
  refine (ans_rsrot _ 11 (by omega) _).mono ?_
  rintro _ _ ⟨rfl, rfl⟩
  simp -implicitDefEqProofs (disch := (first | omega | (simp only [lq8] <;> omega) | fail)) only [admQ, lq8, aFill, AK.cls, implies_true, if_true, if_false, seval, -List.reduceReplicate, u32R, hrow, hqM, hKM, hw, hkT]
  refine (ans_rsrot _ 25 (by omega) _).mono ?_
  rintro _ _ ⟨rfl, rfl⟩
  simp -implicitDefEqProofs (disch := (first | omega | (simp only [lq8] <;> omega) | fail)) only [admQ, lq8, aFill, AK.cls, implies_true, if_true, if_false, seval, -List.reduceReplicate, u32R, hrow, hqM, hKM, hw, hkT]
  refine (ans_rsrot _ 2 (by omega) _).mono ?_
  rintro _ _ ⟨rfl, rfl⟩
  simp -implicitDefEqProofs (disch := (first | omega | (simp only [lq8] <;> omega) | fail)) only [admQ, lq8, aFill, AK.cls, implies_true, if_true, if_false, seval, -List.reduceReplicate, u32R, hrow, hqM, hKM, hw, hkT]
  refine (ans_rsrot _ 13 (by omega) _).mono ?_
  rintro _ _ ⟨rfl, rfl⟩
  simp -implicitDefEqProofs (disch := (first | omega | (simp only [lq8] <;> omega) | fail)) only [admQ, lq8, aFill, AK.cls, implies_true, if_true, if_false, seval, -List.reduceReplicate, u32R, hrow, hqM, hKM, hw, hkT]
  refine (ans_rsrot _ 22 (by omega) _).mono ?_
  rintro _ _ ⟨rfl, rfl⟩
  simp -implicitDefEqProofs (disch := (first | omega | (simp only [lq8] <;> omega) | fail)) only [admQ, lq8, aFill, AK.cls, implies_true, if_true, if_false, seval, -List.reduceReplicate, u32R, hrow, hqM, hKM, hw, hkT]
  refine hX (i + 1, .sl _ 0 8 8 0) _ _ rfl (by simp only; omega) ⟨by simp only; omega, kk.more_app _, _, 8, 0, rfl, ?_, Nat.le_refl _⟩
  simp only
  rw [rowOf_app_at0, S8.rnds, hr, rnd_cells]; rfl
 ·obtain rfl : i = 64 := by omega
  simp -implicitDefEqProofs (disch := (first | omega | (simp only [lq8] <;> omega) | fail)) only [admQ, lq8, aFill, AK.cls, implies_true, if_true, if_false, seval, -List.reduceReplicate]
  clear hX X
  have KM := K2.trans kk
  have hsM := hxs.kept0 kk
  clear hK hx hB k1 hw64 K2 hq2 hx2 hK2 hxs hkT hw kk hi hlt
  have htk : s.take B = s.add r := by rw [S8.take, hr]
  rw [htk]
  clear htk hr
  have hsl : ∀ j, j < 8 → (wds s.l)[j]? = some (b32 (gw s.l j)) := fun j hj => wds_at (show j < 8 from hj)
  have hrl : ∀ j, j < 8 → (wds r.l)[j]? = some (b32 (gw r.l j)) := fun j hj => wds_at (show j < 8 from hj)
  refine LoopW.on (fun t : Nat × AV => [(0, x), (6, z), (13, t.2), (14, .int .i64 t.1)]) (fun t => 8 - t.1) (fun t N => t.1 ≤ 8 ∧ Kept [] M N ∧ Kept [] m N ∧ GrA 1 M.length N t.2 (wds ((s.add r).l.take t.1))) ?_ (0, .nils) _ _ rfl ⟨by simp, .refl _ _, KM, .nils ..⟩
  rintro ⟨i, v⟩ N X ⟨hi, kN, kmN, g⟩ hX
  change GrA 1 M.length N v (wds ((s.add r).l.take i)) at g
  simp only at hi
  have hal : (s.add r).l.length = 8 := rfl
  by_cases hlt : i < 8
  ·obtain ⟨b1, c1, z1, rfl, hr1, hc1⟩ := hsM.kept0 kN
   obtain ⟨b2, c2, z2, rfl, hr2, hc2⟩ := h8.kept0 kN
   rw [S8.cells] at hr1 hr2
   simp -implicitDefEqProofs (disch := (first | omega | (simp only [lq8] <;> omega) | fail)) only [admQ, lq8, aFill, AK.cls, implies_true, if_true, if_false, seval, -List.reduceReplicate, u32R, hr1, hr2, hsl, hrl]
   obtain ⟨x3, m3, e3, g3, k3, a3⟩ := g.push (bytes := 4) (by omega) (l := [b32 (gw s.l i + gw r.l i)]) rfl (by simp; omega) kN.len
   refine someW_eq e3 ?_
   simp -implicitDefEqProofs (disch := (first | omega | (simp only [lq8] <;> omega) | fail)) only [admQ, lq8, aFill, AK.cls, implies_true, if_true, if_false, seval, -List.reduceReplicate]
   refine hX (i + 1, x3) _ _ rfl (by simp only; omega) ⟨by simp only; omega, a3 _ _ kN (Nat.le_refl _), a3 _ _ kmN KM.len, ?_⟩
   show GrA 1 M.length m3 x3 (wds ((s.add r).l.take (i + 1)))
   rw [take_gw (by omega), wds, List.map_append, ← add_gw _ _ hlt]; exact g3
  ·obtain rfl : i = 8 := by omega
   simp -implicitDefEqProofs (disch := (first | omega | (simp only [lq8] <;> omega) | fail)) only [admQ, lq8, aFill, AK.cls, implies_true, if_true, if_false, seval, -List.reduceReplicate]
   exact ⟨kmN, g.low KM.len⟩
end Go.Proofs.YtoegmnnecanhfaaGreatDoor
end
section
namespace Go.Proofs.YtoegmnnecanhfaaGreatDoor
open Go Go.Adm
set_option linter.unusedSimpArgs false
set_option linter.unusedVariables false
set_option maxRecDepth 100000
theorem take_gb2 {l : List B8} {i : Nat} (h : i < l.length) : l.take (i + 1) = l.take i ++ [gb l i] := by
 rw [List.take_add_one]; simp [gb, h]
theorem ans_rsrows {m : Mem} {x : AV} {l : List B8} (hx : RdB m x l) (hl : l.length ≤ 1000000000) :
  Ans Tryz.prog 109 [x] m fun r m' => Kept [] m m' ∧ GrB m.length m' r (l ++ pad l.length) := by
 refine ans_ret mixed ok109 ?_
 simp -implicitDefEqProofs (disch := (first | omega | (simp only [lq8] <;> omega) | fail)) only [admQ, lq8, aFill, AK.cls, implies_true, if_true, if_false, seval, -List.reduceReplicate, c109, r109]
 refine LoopW.on (fun t : Nat × AV => [(0, x), (3, t.2), (4, .int .i64 t.1)]) (fun t => l.length - t.1) (fun t M => t.1 ≤ l.length ∧ Kept [] m M ∧ GrB m.length M t.2 (l.take t.1)) ?_ (0, .nils) _ _ rfl ⟨by simp, .refl _ _, .nils ..⟩
 rintro ⟨i, y⟩ M X ⟨hi, kk, g⟩ hX
 change GrB m.length M y (l.take i) at g
 simp only at hi
 by_cases hlt : i < l.length
 ·have hlen := hx.len
  obtain ⟨b, o, cap, s, c, rfl, hrow, hat, _⟩ := hx.cons hlt
  have hr := kk.row hrow (by simp)
  have e := hat i hlt
  simp -implicitDefEqProofs (disch := (first | omega | (simp only [lq8] <;> omega) | fail)) only [admQ, lq8, aFill, AK.cls, implies_true, if_true, if_false, seval, -List.reduceReplicate, hlen, hr, e]
  obtain ⟨x3, m3, e3, g3, k3, a3⟩ := g.push (gb l i) (by simp; omega) kk.len
  refine someW_eq e3 ?_
  simp -implicitDefEqProofs (disch := (first | omega | (simp only [lq8] <;> omega) | fail)) only [admQ, lq8, aFill, AK.cls, implies_true, if_true, if_false, seval, -List.reduceReplicate]
  refine hX (i + 1, x3) _ _ rfl (by simp only; omega) ⟨by simp only; omega, a3 _ _ kk (Nat.le_refl _), ?_⟩
  show GrB m.length m3 x3 (l.take (i + 1))
  rw [take_gb2 hlt]; exact g3
 ·obtain rfl : i = l.length := by omega
  rw [List.take_length] at g
  simp -implicitDefEqProofs (disch := (first | omega | (simp only [lq8] <;> omega) | fail)) only [admQ, lq8, aFill, AK.cls, implies_true, if_true, if_false, seval, -List.reduceReplicate, hx.len]
  clear hX X
  obtain ⟨x3, m3, e3, g3, k3, a3⟩ := g.push 0x80#8 (by omega) kk.len
  refine someW_eq e3 ?_
  have kk3 := a3 _ _ kk (Nat.le_refl _)
  simp -implicitDefEqProofs (disch := (first | omega | (simp only [lq8] <;> omega) | fail)) only [admQ, lq8, aFill, AK.cls, implies_true, if_true, if_false, seval, -List.reduceReplicate]
  clear e3 k3 a3 kk g hlt hi
  refine LoopW.on (fun t : Nat × AV => [(0, x), (3, t.2)]) (fun t => padZ l.length - t.1)
   (fun t m' => t.1 ≤ padZ l.length ∧ Kept [] m m' ∧ GrB m.length m' t.2 (l ++ [0x80#8] ++ List.replicate t.1 0#8)) ?_ (0, x3) _ _ rfl ⟨by omega, kk3, by simpa using g3⟩
  clear kk3 g3 M m3
  rintro ⟨j, x1⟩ M X ⟨hj, kk, g⟩ hX
  change GrB m.length M x1 (l ++ [0x80#8] ++ List.replicate j 0#8) at g
  simp only at hj
  have hpz : padZ l.length < 64 := Nat.mod_lt _ (by omega)
  have hfl : (l ++ [0x80#8] ++ List.replicate j 0#8).length = l.length + 1 + j := by simp; omega
  by_cases hlt : j < padZ l.length
  ·have hne : (l.length + 1 + j) % 64 ≠ 56 := by unfold padZ at *; omega
   simp -implicitDefEqProofs (disch := (first | omega | (simp only [lq8] <;> omega) | fail)) only [admQ, lq8, aFill, AK.cls, implies_true, if_true, if_false, seval, -List.reduceReplicate, g.len, hfl]
   obtain ⟨x2, m2, e2, g2, k2, a2⟩ := g.push 0#8 (by omega) kk.len
   refine someW_eq e2 ?_
   simp -implicitDefEqProofs (disch := (first | omega | (simp only [lq8] <;> omega) | fail)) only [admQ, lq8, aFill, AK.cls, implies_true, if_true, if_false, seval, -List.reduceReplicate]
   refine hX (j + 1, x2) _ _ rfl (by simp only; omega) ⟨by simp only; omega, a2 _ _ kk (Nat.le_refl _), ?_⟩
   rw [List.replicate_succ', ← List.append_assoc]; exact g2
  ·obtain rfl : j = padZ l.length := by omega
   have hne : (l.length + 1 + padZ l.length) % 64 = 56 := by unfold padZ; omega
   simp -implicitDefEqProofs (disch := (first | omega | (simp only [lq8] <;> omega) | fail)) only [admQ, lq8, aFill, AK.cls, implies_true, if_true, if_false, seval, -List.reduceReplicate, g.len, hfl, hx.len, @w64]
   rw [Nat.mul_comm l.length 8]
   have hv : 8 * l.length < 18446744073709551616 := by omega
   have hfin : l ++ [0x80#8] ++ List.replicate (padZ l.length) 0#8 ++ tab 8 (fun i => byV (8 * l.length) (7 - i)) = l ++ pad l.length := by
    simp [pad, lowB]
   generalize l ++ [0x80#8] ++ List.replicate (padZ l.length) 0#8 = P at g hfl hfin
   generalize 8 * l.length = v at hv hfin
   clear hX X
   refine LoopW.on (fun t : Nat × AV => [(3, t.2), (5, .int .u64 v), (6, .int .i64 (7 - (t.1 : Int)))]) (fun t => 8 - t.1)
    (fun t m' => t.1 ≤ 8 ∧ Kept [] m m' ∧ GrB m.length m' t.2 (P ++ tab t.1 (fun i => byV v (7 - i)))) ?_ (0, x1) _ _ rfl ⟨by simp, kk, by simpa [tab] using g⟩
   clear kk g
   rintro ⟨k, x2⟩ m2 X ⟨hk, kk, g⟩ hX
   change GrB m.length m2 x2 (P ++ tab k (fun i => byV v (7 - i))) at g
   simp only at hk
   by_cases hlt : k < 8
   ·rw [show (7 - (k : Int)) = ((7 - k : Nat) : Int) by omega]
    have hw : IntKind.u8.wrap ((v >>> (8 * (7 - k)) : Nat) : Int) = ((byV v (7 - k)).toNat : Int) := wrap_u8 _
    simp -implicitDefEqProofs (disch := (first | omega | (simp only [lq8] <;> omega) | fail)) only [admQ, lq8, aFill, AK.cls, implies_true, if_true, if_false, seval, -List.reduceReplicate, fdiv_nat, hw, @w64]
    obtain ⟨x3, m3, e3, g3, k3, a3⟩ := g.push (byV v (7 - k)) (by simp [tab_len]; omega) kk.len
    refine someW_eq e3 ?_
    simp -implicitDefEqProofs (disch := (first | omega | (simp only [lq8] <;> omega) | fail)) only [admQ, lq8, aFill, AK.cls, implies_true, if_true, if_false, seval, -List.reduceReplicate]
    rw [show ((7 - k : Nat) : Int) - 1 = 7 - ((k + 1 : Nat) : Int) by omega]
    refine hX (k + 1, x3) _ _ rfl (by simp only; omega) ⟨by simp only; omega, a3 _ _ kk (Nat.le_refl _), ?_⟩
    show GrB m.length m3 x3 (P ++ tab (k + 1) _)
    rw [tab_succ, ← List.append_assoc]; exact g3
   ·obtain rfl : k = 8 := by omega
    rw [hfin] at g
    simp -implicitDefEqProofs (disch := (first | omega | (simp only [lq8] <;> omega) | fail)) only [admQ, lq8, aFill, AK.cls, implies_true, if_true, if_false, seval, -List.reduceReplicate]
    exact ⟨kk, g⟩
theorem ans_rsfirst (m : Mem) : Ans Tryz.prog 110 [] m fun r m' => Kept [] m m' ∧ St8 m' r S8.first := by
 refine ans_ret mixed ok110 ?_
 simp -implicitDefEqProofs (disch := (first | omega | (simp only [lq8] <;> omega) | fail)) only [admQ, lq8, aFill, AK.cls, implies_true, if_true, if_false, seval, -List.reduceReplicate, c110, r110]
 exact ⟨.app _ _ _, m.length, 8, 0, rfl, by rw [rowOf_app_at0]; rfl, Nat.le_refl _⟩
theorem ans_rsof {m : Mem} {x : AV} {l : List B8} (hK : rowOf m 1 = some (wds kT)) (hx : RdB m x l) (hl : l.length ≤ 900000000) :
  Ans Tryz.prog 88 [x] m fun r m' => r = .agg (bys (shaB l)) ∧ Kept [] m m' := by
 refine ans_ret mixed ok88 ?_
 simp -implicitDefEqProofs (disch := (first | omega | (simp only [lq8] <;> omega) | fail)) only [admQ, lq8, aFill, AK.cls, implies_true, if_true, if_false, seval, -List.reduceReplicate, c88, r88]
 have k0 := Kept.app [] m [Blk.row (bys (List.replicate 32 0#8)) false]
 have o0 : own (m ++ [Blk.row (bys (List.replicate 32 0#8)) false]) m.length = some (bys (List.replicate 32 0#8)) := by rw [own_app_at0]; rfl
 generalize m ++ [Blk.row (bys (List.replicate 32 0#8)) false] = A at k0 o0
 refine (ans_rsrows (hx.kept0 k0) (by omega)).mono ?_
 rintro y m1 ⟨k1, g1⟩
 simp -implicitDefEqProofs (disch := (first | omega | (simp only [lq8] <;> omega) | fail)) only [admQ, lq8, aFill, AK.cls, implies_true, if_true, if_false, seval, -List.reduceReplicate]
 refine (ans_rsfirst _).mono ?_
 rintro z m2 ⟨k2, h8⟩
 simp -implicitDefEqProofs (disch := (first | omega | (simp only [lq8] <;> omega) | fail)) only [admQ, lq8, aFill, AK.cls, implies_true, if_true, if_false, seval, -List.reduceReplicate]
 have hpl := pad_len l.length
 have hpm := pad_mod l.length
 have hpz : padZ l.length < 64 := Nat.mod_lt _ (by omega)
 have hFl : (l ++ pad l.length).length = l.length + (pad l.length).length := List.length_append ..
 have hres : ∀ n, n = (l.length + (pad l.length).length) / 64 → (S8.first.takes (l ++ pad l.length) n).out = shaB l := by rintro n rfl; rfl
 have hA : ∀ n, 64 * n = (l ++ pad l.length).length → (S8.first.takes (l ++ pad l.length) n).out = shaB l := fun n hn => hres n (by omega)
 clear hres
 have gF := g1.kept0 k2
 have KA := k0.trans (k1.trans k2)
 have o2 := (k1.trans k2).own o0 (by simp)
 have hFn : (l ++ pad l.length).length % 64 = 0 := by omega
 have hF0 : 0 < (l ++ pad l.length).length := by omega
 have hFb : (l ++ pad l.length).length ≤ 1000000000 := by omega
 clear g1 k0 o0 k1 k2 hpl hpm hFl
 generalize l ++ pad l.length = F at gF hA hFn hF0 hFb
 obtain ⟨b, n, rfl, hn0, hn, hb, hb0⟩ := gF.sl (by intro e; have : F = [] := List.map_eq_nil_iff.mp e; simp [this] at hF0)
 rw [List.length_map, Nat.mul_one] at hn
 subst hn
 refine LoopW.on (fun t : Nat × AV => [(2, .ptr m.length 0), (3, .sl b 0 F.length F.length 1), (4, t.2), (5, .int .i64 ((64 * t.1 : Nat) : Int))]) (fun t => F.length - 64 * t.1)
  (fun t M => 64 * t.1 ≤ F.length ∧ Kept [] m2 M ∧ St8 M t.2 (S8.first.takes F t.1)) ?_ (0, z) _ _ rfl ⟨by simp, .refl _ _, h8⟩
 rintro ⟨i, z⟩ M X ⟨hi, kk, h8⟩ hX
 change St8 M z (S8.first.takes F i) at h8
 simp only at hi
 by_cases hlt : 64 * i < F.length
 ·have hrd := ((RdB.row F.length 1 (kk.row (rowOf_own hb) (by simp)) (Nat.le_refl _)).drop (k := 64 * i) (by omega)).take (k := 64) (by omega)
  rw [Nat.zero_add] at hrd
  simp -implicitDefEqProofs (disch := (first | omega | (simp only [lq8] <;> omega) | fail)) only [admQ, lq8, aFill, AK.cls, implies_true, if_true, if_false, seval, -List.reduceReplicate]
  rw [show 64 * i + 64 - 64 * i = 64 by omega]
  refine (ans_rstake _ ((KA.trans kk).row hK (by simp)) h8 hrd (by simp; omega)).mono ?_
  rintro z3 m3 ⟨k3, g3⟩
  simp -implicitDefEqProofs (disch := (first | omega | (simp only [lq8] <;> omega) | fail)) only [admQ, lq8, aFill, AK.cls, implies_true, if_true, if_false, seval, -List.reduceReplicate]
  exact hX (i + 1, z3) _ _ rfl (by simp only; omega) ⟨by simp only; omega, kk.trans k3, .of_gr g3⟩
 ·have hq := hA i (by omega)
  generalize S8.first.takes F i = r at h8 hq
  simp -implicitDefEqProofs (disch := (first | omega | (simp only [lq8] <;> omega) | fail)) only [admQ, lq8, aFill, AK.cls, implies_true, if_true, if_false, seval, -List.reduceReplicate]
  clear hX X
  have kM := KA.trans kk
  have oM := kk.own o2 (by simp)
  have hrl : ∀ j, j < 32 → (r.cells)[j / 4]? = some (b32 (gw r.l (j / 4))) := fun j hj => wds_at (show j / 4 < 8 by omega)
  obtain ⟨b1, c1, z1, rfl, hr1, hc1⟩ := h8
  have hb1 := rowOf_lt hr1
  rw [← tab_const, ← upTo_zero 32 (fun j => (gw r.l (j / 4) >>> (24 - 8 * (j % 4))).setWidth 8) (fun _ => 0#8)]
  refine LoopW.on (fun i : Nat => [(2, .ptr m.length 0), (4, .sl b1 0 8 c1 z1), (6, .ptr M.length 0), (7, .int .i64 i)]) (fun i => 32 - i)
   (fun i M' => i ≤ 32 ∧ Kept [] M M' ∧ own M' M.length = some (bys (upTo 32 (fun j => (gw r.l (j / 4) >>> (24 - 8 * (j % 4))).setWidth 8) (fun _ => 0#8) i))) ?_ 0 _ _ rfl ⟨by omega, .app _ _ _, by rw [own_app_at0]; rfl⟩
  rintro j M' X ⟨hj, w, op⟩ hX
  have hrM := w.row hr1 (by simp)
  by_cases hlt : j < 32
  ·have hu := upTo_set (n := 32) (i := j) (f := fun j => (gw r.l (j / 4) >>> (24 - 8 * (j % 4))).setWidth 8) (g := fun _ => 0#8)
   have hca := hrl j hlt
   have hlp := own_lt op
   simp -implicitDefEqProofs (disch := (first | omega | (simp only [lq8] <;> omega) | fail)) only [admQ, lq8, aFill, AK.cls, implies_true, if_true, if_false, seval, -List.reduceReplicate, hrM, op, hca, u32R, @w64, splice_byte, hu]
   refine hX (j + 1) _ _ rfl (by omega) ⟨by omega, w.write (.inr (Nat.le_refl _)) _, own_set hlp _⟩
  ·obtain rfl : j = 32 := by omega
   rw [upTo_all] at op
   have oA' := w.own oM (by simp)
   have hdef : r.out = tab 32 fun j => (gw r.l (j / 4) >>> (24 - 8 * (j % 4))).setWidth 8 := rfl
   rw [← hdef, hq] at op
   have hsl := shaB_len l
   simp -implicitDefEqProofs (disch := (first | omega | (simp only [lq8] <;> omega) | fail)) only [admQ, lq8, aFill, AK.cls, implies_true, if_true, if_false, seval, -List.reduceReplicate, rowOf_own op, op, oA', own_set (own_lt oA'), rowOf_own (own_set (own_lt oA') _)]
   exact (kM.trans w).write (.inr (Nat.le_refl _)) _
end Go.Proofs.YtoegmnnecanhfaaGreatDoor
end
section
namespace Go.Proofs.YtoegmnnecanhfaaGreatDoor
open Go Go.Adm
set_option linter.unusedSimpArgs false
set_option linter.unusedVariables false
set_option maxRecDepth 100000
def keyK (key : List B8) : List B8 := if 64 < key.length then shaB key else key
theorem keyK_le (key : List B8) : (keyK key).length ≤ 64 := by
 unfold keyK; split
 ·rw [shaB_len]; omega
 ·omega
theorem keyB_K (key : List B8) : keyB key = keyK key ++ List.replicate (64 - (keyK key).length) 0#8 := by
 unfold keyB keyK; split
 ·rw [shaB_len]
 ·rfl
theorem ans_rsblk {m : Mem} {y : AV} {key : List B8} (x : B8) (hK : rowOf m 1 = some (wds kT)) (hB : RdB m y key) (hlen : key.length ≤ 900000000) :
  Ans Tryz.prog 98 [y, b8 x] m fun r m' => Kept [] m m' ∧ GrB m.length m' r (blkX key x) := by
 refine ans_ret mixed ok98 ?_
 simp -implicitDefEqProofs (disch := (first | omega | (simp only [lq10] <;> omega) | fail)) only [admQ, lq10, aFill, AK.cls, implies_true, if_true, if_false, seval, -List.reduceReplicate, p98, r98, hB.len]
 refine LoopW.on (fun t : Nat × AV => [(0, y), (1, b8 x), (5, t.2), (6, .int .i64 t.1)]) (fun t => key.length - t.1) (fun t M => t.1 ≤ key.length ∧ (64 < key.length → t.1 = 0) ∧ Kept [] m M ∧ GrB m.length M t.2 (key.take t.1)) ?_ (0, .nils) _ _ rfl ⟨by simp, fun _ => rfl, .refl _ _, .nils ..⟩
 rintro ⟨i, v⟩ M X ⟨hi, h0, kk, g⟩ hX
 change GrB m.length M v (key.take i) at g
 simp only at hi h0
 have exit : ∀ (w : AV), (64 < key.length → GrB m.length M w []) → (¬ 64 < key.length → GrB m.length M w key) → wpA Tryz.prog c98_1 [(0, y), (1, b8 x), (5, w)] M (seqK Tryz.prog c98_2 (retQ [.tmp 4] fun r m' => Kept [] m m' ∧ GrB m.length m' r (blkX key x))) := by
  intro w gl gs
  clear hX X g h0 hi
  refine wp_joinL [1, 5] (fun v : AV => [(1, b8 x), (5, v)]) (fun v M => Kept [] m M ∧ GrB m.length M v (keyK key)) rfl ?_ ?_
  ·by_cases h64 : 64 < key.length
   ·replace gl := gl h64
    simp -implicitDefEqProofs (disch := (first | omega | (simp only [lq10] <;> omega) | fail)) only [admQ, lq10, aFill, AK.cls, implies_true, if_true, if_false, seval, -List.reduceReplicate, c98_1, joins, hB.len]
    refine (ans_rsof (kk.row hK (by simp)) (hB.kept0 kk) hlen).mono ?_
    rintro _ m1 ⟨rfl, k1⟩
    have hsl := shaB_len key
    have hkK : keyK key = shaB key := by rw [keyK, if_pos h64]
    rw [hkK]
    generalize shaB key = S at hsl
    simp -implicitDefEqProofs (disch := (first | omega | (simp only [lq10] <;> omega) | fail)) only [admQ, lq10, aFill, AK.cls, implies_true, if_true, if_false, seval, -List.reduceReplicate, joins]
    have k0 := (kk.trans k1).more_app [Blk.row (bys S) false]
    have o0 : own (m1 ++ [Blk.row (bys S) false]) m1.length = some (bys S) := by rw [own_app_at0]; rfl
    have g0 := (gl.kept0 k1).kept0 (.app [] m1 [Blk.row (bys S) false])
    have hw : ∀ b ∈ blkOf w, b < m1.length := fun b hb => by have := g0.lt; exact ((gl.kept0 k1).lt b hb)
    generalize m1 ++ [Blk.row (bys S) false] = A at k0 o0 g0
    refine LoopW.on (fun t : Nat × AV => [(1, b8 x), (5, t.2), (7, .ptr m1.length 0), (8, .int .i64 t.1)]) (fun t => 32 - t.1) (fun t M => t.1 ≤ 32 ∧ Kept [] m M ∧ own M m1.length = some (bys S) ∧ m1.length ∉ blkOf t.2 ∧ GrB m.length M t.2 (S.take t.1)) ?_ (0, w) _ _ rfl ⟨by simp, k0, o0, fun h => by have := hw _ h; omega, by simpa using g0⟩
    clear gl gs g0 o0 k0 hw kk k1
    rintro ⟨i, v⟩ M X ⟨hi, kk, o, hnb, g⟩ hX
    change GrB m.length M v (S.take i) at g
    simp only at hi hnb
    by_cases hlt : i < 32
    ·have e : (bys S)[i]? = some (b8 (gb S i)) := bys_at (by omega)
     simp -implicitDefEqProofs (disch := (first | omega | (simp only [lq10] <;> omega) | fail)) only [admQ, lq10, aFill, AK.cls, implies_true, if_true, if_false, seval, -List.reduceReplicate, rowOf_own o, e, joins]
     obtain ⟨x3, m3, e3, g3, k3, a3, n3⟩ := GrA.push5 (bytes := 1) g (by omega) (l := [b8 (gb S i)]) rfl (by simp; omega) kk.len
     refine someW_eq e3 ?_
     simp -implicitDefEqProofs (disch := (first | omega | (simp only [lq10] <;> omega) | fail)) only [admQ, lq10, aFill, AK.cls, implies_true, if_true, if_false, seval, -List.reduceReplicate, joins]
     refine hX (i + 1, x3) _ _ rfl (by simp only; omega) ⟨by simp only; omega, a3 _ _ kk (Nat.le_refl _), k3.own o hnb, fun h => ?_, ?_⟩
     ·have := n3 _ h; have := own_lt o; omega
     ·show GrA 1 m.length m3 x3 (bys (S.take (i + 1)))
      rw [take_gb2 (by omega), bys, List.map_append]; exact g3
    ·obtain rfl : i = 32 := by omega
     rw [List.take_of_length_le (by omega)] at g
     simp -implicitDefEqProofs (disch := (first | omega | (simp only [lq10] <;> omega) | fail)) only [admQ, lq10, aFill, AK.cls, implies_true, if_true, if_false, seval, -List.reduceReplicate, joins]
     exact ⟨v, rfl, kk, g⟩
   ·replace gs := gs h64
    have hkK : keyK key = key := by rw [keyK, if_neg h64]
    rw [hkK]
    simp -implicitDefEqProofs (disch := (first | omega | (simp only [lq10] <;> omega) | fail)) only [admQ, lq10, aFill, AK.cls, implies_true, if_true, if_false, seval, -List.reduceReplicate, c98_1, joins, hB.len]
    exact ⟨w, rfl, kk, gs⟩
  ·clear gl gs kk
   rintro v M ⟨kk, g⟩
   simp -implicitDefEqProofs (disch := (first | omega | (simp only [lq10] <;> omega) | fail)) only [admQ, lq10, aFill, AK.cls, implies_true, if_true, if_false, seval, -List.reduceReplicate, c98_2]
   have hle := keyK_le key
   have hbk := keyB_K key
   have hbl := keyB_len key
   have hfin : blkX key x = tab 64 fun j => gb (keyB key) j ^^^ x := rfl
   rw [hfin]
   clear hfin
   generalize keyB key = Kb at hbk hbl
   generalize keyK key = k at g hle hbk
   refine LoopW.on (fun t : Nat × AV => [(1, b8 x), (5, t.2)]) (fun t => 64 - k.length - t.1) (fun t M => t.1 ≤ 64 - k.length ∧ Kept [] m M ∧ GrB m.length M t.2 (k ++ List.replicate t.1 0#8)) ?_ (0, v) _ _ rfl ⟨by simp, kk, by simpa using g⟩
   clear g kk
   rintro ⟨j, v⟩ M X ⟨hj, kk, g⟩ hX
   change GrB m.length M v (k ++ List.replicate j 0#8) at g
   simp only at hj
   have hgl : (k ++ List.replicate j 0#8).length = k.length + j := by simp
   by_cases hlt : j < 64 - k.length
   ·simp -implicitDefEqProofs (disch := (first | omega | (simp only [lq10] <;> omega) | fail)) only [admQ, lq10, aFill, AK.cls, implies_true, if_true, if_false, seval, -List.reduceReplicate, g.len, hgl]
    obtain ⟨x3, m3, e3, g3, k3, a3⟩ := g.push 0#8 (by omega) kk.len
    refine someW_eq e3 ?_
    simp -implicitDefEqProofs (disch := (first | omega | (simp only [lq10] <;> omega) | fail)) only [admQ, lq10, aFill, AK.cls, implies_true, if_true, if_false, seval, -List.reduceReplicate]
    refine hX (j + 1, x3) _ _ rfl (by simp only; omega) ⟨by simp only; omega, a3 _ _ kk (Nat.le_refl _), ?_⟩
    show GrB m.length m3 x3 (k ++ List.replicate (j + 1) 0#8)
    rw [List.replicate_succ', ← List.append_assoc]; exact g3
   ·obtain rfl : j = 64 - k.length := by omega
    simp -implicitDefEqProofs (disch := (first | omega | (simp only [lq10] <;> omega) | fail)) only [admQ, lq10, aFill, AK.cls, implies_true, if_true, if_false, seval, -List.reduceReplicate, g.len, hgl]
    clear hX X
    rw [← hbk] at g
    obtain ⟨b, n, rfl, hn0, hn, hb, hb0⟩ := g.sl (by intro e; have : Kb = [] := List.map_eq_nil_iff.mp e; simp [this] at hbl)
    rw [List.length_map, Nat.mul_one, hbl] at hn
    subst hn
    refine LoopW.on (fun i : Nat => [(1, b8 x), (5, .sl b 0 64 64 1), (9, .int .i64 i)]) (fun i => 64 - i) (fun i M => i ≤ 64 ∧ Kept [] m M ∧ own M b = some (bys (upTo 64 (fun j => gb Kb j ^^^ x) (gb Kb) i))) ?_ 0 _ _ rfl ⟨by omega, kk, by rw [upTo_zero, tab_gb hbl]; exact hb⟩
    clear g kk hb
    rintro i M X ⟨hi, kk, o⟩ hX
    by_cases hlt : i < 64
    ·have hu := upTo_set (n := 64) (i := i) (f := fun j => gb Kb j ^^^ x) (g := gb Kb)
     have hlo := own_lt o
     simp -implicitDefEqProofs (disch := (first | omega | (simp only [lq10] <;> omega) | fail)) only [admQ, lq10, aFill, AK.cls, implies_true, if_true, if_false, seval, -List.reduceReplicate, rowOf_own o, o, splice_byte, hu]
     exact hX (i + 1) _ _ rfl (by omega) ⟨by omega, kk.write (.inr (by omega)) _, own_set hlo _⟩
    ·obtain rfl : i = 64 := by omega
     rw [upTo_all] at o
     simp -implicitDefEqProofs (disch := (first | omega | (simp only [lq10] <;> omega) | fail)) only [admQ, lq10, aFill, AK.cls, implies_true, if_true, if_false, seval, -List.reduceReplicate]
     exact ⟨kk, .inr ⟨b, 64, by omega, by simp [tab_len], rfl, o, hb0⟩⟩
 by_cases h64 : 64 < key.length
 ·obtain rfl := h0 h64
  have d1 : decide ((0 : Int) < (key.length : Int)) = true := dec_t (by omega)
  simp -implicitDefEqProofs (disch := (first | omega | (simp only [lq10] <;> omega) | fail)) only [admQ, lq10, aFill, AK.cls, implies_true, if_true, if_false, seval, -List.reduceReplicate, d1, hB.len]
  exact exit v (fun _ => by simpa using g) (fun h => absurd h64 h)
 ·by_cases hlt : i < key.length
  ·have d1 : decide ((i : Int) < (key.length : Int)) = true := dec_t (by omega)
   have hl := hB.len
   obtain ⟨b, o, cap, s, c, rfl, hrow, hat, _⟩ := hB.cons hlt
   have hr := kk.row hrow (by simp)
   have e := hat i hlt
   clear exit
   simp -implicitDefEqProofs (disch := (first | omega | (simp only [lq10] <;> omega) | fail)) only [admQ, lq10, aFill, AK.cls, implies_true, if_true, if_false, seval, -List.reduceReplicate, d1, hl, hr, e]
   obtain ⟨x3, m3, e3, g3, k3, a3⟩ := g.push (gb key i) (by simp; omega) kk.len
   refine someW_eq e3 ?_
   simp -implicitDefEqProofs (disch := (first | omega | (simp only [lq10] <;> omega) | fail)) only [admQ, lq10, aFill, AK.cls, implies_true, if_true, if_false, seval, -List.reduceReplicate]
   refine hX (i + 1, x3) _ _ rfl (by simp only; omega) ⟨by simp only; omega, fun h => absurd h h64, a3 _ _ kk (Nat.le_refl _), ?_⟩
   show GrB m.length m3 x3 (key.take (i + 1))
   rw [take_gb2 hlt]; exact g3
  ·obtain rfl : i = key.length := by omega
   rw [List.take_length] at g
   have d1 : decide ((key.length : Int) < (key.length : Int)) = false := dec_f (by omega)
   simp -implicitDefEqProofs (disch := (first | omega | (simp only [lq10] <;> omega) | fail)) only [admQ, lq10, aFill, AK.cls, implies_true, if_true, if_false, seval, -List.reduceReplicate, d1, hB.len]
   exact exit v (fun h => absurd h h64) (fun _ => g)
theorem ans_rsmac {m : Mem} {x y : AV} {key B : List B8} (hK : rowOf m 1 = some (wds kT)) (hx : RdB m x key) (hB : RdB m y B) (hkl : key.length ≤ 900000000) (hlen : B.length ≤ 800000000) :
  Ans Tryz.prog 79 [x, y] m fun r m' => r = .agg (bys (macB key B)) ∧ Kept [] m m' := by
 refine ans_ret mixed ok79 ?_
 simp -implicitDefEqProofs (disch := (first | omega | (simp only [lq10] <;> omega) | fail)) only [admQ, lq10, aFill, AK.cls, implies_true, if_true, if_false, seval, -List.reduceReplicate, c79, r79]
 have k0 := Kept.app [] m [Blk.row (bys (List.replicate 32 0#8)) false]
 have o0 : own (m ++ [Blk.row (bys (List.replicate 32 0#8)) false]) m.length = some (bys (List.replicate 32 0#8)) := by rw [own_app_at0]; rfl
 generalize m ++ [Blk.row (bys (List.replicate 32 0#8)) false] = A at k0 o0
 refine (ans_rsblk 54#8 (k0.row hK (by simp)) (hx.kept0 k0) hkl).mono ?_
 rintro z m1 ⟨k1, g1⟩
 have li := blkX_len key 54#8
 have lo := blkX_len key 92#8
 simp -implicitDefEqProofs (disch := (first | omega | (simp only [lq10] <;> omega) | fail)) only [admQ, lq10, aFill, AK.cls, implies_true, if_true, if_false, seval, -List.reduceReplicate]
 have hl0 := k0.len
 refine LoopW.on (fun t : Nat × AV => [(0, x), (1, y), (4, .ptr m.length 0), (5, t.2), (6, .int .i64 t.1)]) (fun t => B.length - t.1) (fun t M => t.1 ≤ B.length ∧ Kept [] A M ∧ GrB A.length M t.2 (blkX key 54#8 ++ B.take t.1)) ?_ (0, z) _ _ rfl ⟨by simp, k1, by simpa using g1⟩
 rintro ⟨i, v⟩ M X ⟨hi, kk, g⟩ hX
 change GrB A.length M v (blkX key 54#8 ++ B.take i) at g
 simp only at hi
 by_cases hlt : i < B.length
 ·have hl := hB.len
  obtain ⟨b, o, cap, s, c, rfl, hrow, hat, _⟩ := hB.cons hlt
  have hr := (k0.trans kk).row hrow (by simp)
  have e := hat i hlt
  simp -implicitDefEqProofs (disch := (first | omega | (simp only [lq10] <;> omega) | fail)) only [admQ, lq10, aFill, AK.cls, implies_true, if_true, if_false, seval, -List.reduceReplicate, hl, hr, e]
  obtain ⟨x3, m3, e3, g3, k3, a3⟩ := g.push (gb B i) (by simp; omega) kk.len
  refine someW_eq e3 ?_
  simp -implicitDefEqProofs (disch := (first | omega | (simp only [lq10] <;> omega) | fail)) only [admQ, lq10, aFill, AK.cls, implies_true, if_true, if_false, seval, -List.reduceReplicate]
  refine hX (i + 1, x3) _ _ rfl (by simp only; omega) ⟨by simp only; omega, a3 _ _ kk (Nat.le_refl _), ?_⟩
  show GrB A.length m3 x3 (blkX key 54#8 ++ B.take (i + 1))
  rw [take_gb2 hlt, ← List.append_assoc]; exact g3
 ·obtain rfl : i = B.length := by omega
  rw [List.take_length] at g
  simp -implicitDefEqProofs (disch := (first | omega | (simp only [lq10] <;> omega) | fail)) only [admQ, lq10, aFill, AK.cls, implies_true, if_true, if_false, seval, -List.reduceReplicate, hB.len]
  clear hX X hlt hi
  refine (ans_rsof ((k0.trans kk).row hK (by simp)) g.rd (by simp; omega)).mono ?_
  rintro _ m2 ⟨rfl, k2⟩
  generalize hS : shaB (blkX key 54#8 ++ B) = S
  have hSl : S.length = 32 := by rw [← hS]; exact shaB_len _
  simp -implicitDefEqProofs (disch := (first | omega | (simp only [lq10] <;> omega) | fail)) only [admQ, lq10, aFill, AK.cls, implies_true, if_true, if_false, seval, -List.reduceReplicate]
  have K2 := (k0.trans (kk.trans k2)).more_app [Blk.row (bys S) false]
  have o2 := ((kk.trans k2).more_app [Blk.row (bys S) false]).own o0 (by simp)
  have oS : own (m2 ++ [Blk.row (bys S) false]) m2.length = some (bys S) := by rw [own_app_at0]; rfl
  clear k2 g kk k1 g1 k0 o0
  generalize m2 ++ [Blk.row (bys S) false] = C at K2 o2 oS
  refine (ans_rsblk 92#8 (K2.row hK (by simp)) (hx.kept0 K2) hkl).mono ?_
  rintro z m4 ⟨k4, g4⟩
  simp -implicitDefEqProofs (disch := (first | omega | (simp only [lq10] <;> omega) | fail)) only [admQ, lq10, aFill, AK.cls, implies_true, if_true, if_false, seval, -List.reduceReplicate]
  refine LoopW.on (fun t : Nat × AV => [(4, .ptr m.length 0), (5, t.2), (7, .ptr m2.length 0), (8, .int .i64 t.1)]) (fun t => 32 - t.1) (fun t M => t.1 ≤ 32 ∧ Kept [] C M ∧ GrB C.length M t.2 (blkX key 92#8 ++ S.take t.1)) ?_ (0, z) _ _ rfl ⟨by simp, k4, by simpa using g4⟩
  rintro ⟨i, v⟩ M X ⟨hi, kk, g⟩ hX
  change GrB C.length M v (blkX key 92#8 ++ S.take i) at g
  simp only at hi
  have oM := kk.own oS (by simp)
  by_cases hlt : i < 32
  ·have e : (bys S)[i]? = some (b8 (gb S i)) := bys_at (by omega)
   simp -implicitDefEqProofs (disch := (first | omega | (simp only [lq10] <;> omega) | fail)) only [admQ, lq10, aFill, AK.cls, implies_true, if_true, if_false, seval, -List.reduceReplicate, rowOf_own oM, e]
   obtain ⟨x3, m3, e3, g3, k3, a3⟩ := g.push (gb S i) (by simp; omega) kk.len
   refine someW_eq e3 ?_
   simp -implicitDefEqProofs (disch := (first | omega | (simp only [lq10] <;> omega) | fail)) only [admQ, lq10, aFill, AK.cls, implies_true, if_true, if_false, seval, -List.reduceReplicate]
   refine hX (i + 1, x3) _ _ rfl (by simp only; omega) ⟨by simp only; omega, a3 _ _ kk (Nat.le_refl _), ?_⟩
   show GrB C.length m3 x3 (blkX key 92#8 ++ S.take (i + 1))
   rw [take_gb2 (by omega), ← List.append_assoc]; exact g3
  ·obtain rfl : i = 32 := by omega
   rw [List.take_of_length_le (by omega)] at g
   simp -implicitDefEqProofs (disch := (first | omega | (simp only [lq10] <;> omega) | fail)) only [admQ, lq10, aFill, AK.cls, implies_true, if_true, if_false, seval, -List.reduceReplicate]
   refine (ans_rsof ((K2.trans kk).row hK (by simp)) g.rd (by simp; omega)).mono ?_
   rintro _ m5 ⟨rfl, k5⟩
   have oR := (kk.trans k5).own o2 (by simp)
   have hml := shaB_len (blkX key 92#8 ++ S)
   simp -implicitDefEqProofs (disch := (first | omega | (simp only [lq10] <;> omega) | fail)) only [admQ, lq10, aFill, AK.cls, implies_true, if_true, if_false, seval, -List.reduceReplicate, oR, own_set (own_lt oR), rowOf_own (own_set (own_lt oR) _)]
   exact ⟨by rw [macB, hS], (K2.trans (kk.trans k5)).write (.inr (Nat.le_refl _)) _⟩
theorem ans_rsderive {m : Mem} {x : AV} {key : List B8} (s : ByteArray) (hK : rowOf m 1 = some (wds kT)) (hx : RdB m x key) (hkl : key.length ≤ 900000000) (hlen : s.size ≤ 1000) :
  Ans Tryz.prog 50 [x, .str s] m fun r m' => r = .agg (bys (macB key (strB s))) ∧ Kept [] m m' := by
 refine ans_ret mixed ok50 ?_
 simp -implicitDefEqProofs (disch := (first | omega | (simp only [lq10] <;> omega) | fail)) only [admQ, lq10, aFill, AK.cls, implies_true, if_true, if_false, seval, -List.reduceReplicate, c50, r50, opW_s2b, opDW_s2b, mkS2b, strCells_bys]
 have k0 := Kept.app [] m [Blk.row (bys (List.replicate 32 0#8)) false, Blk.row (bys (strB s)) false]
 have o0 : own (m ++ [Blk.row (bys (List.replicate 32 0#8)) false, Blk.row (bys (strB s)) false]) m.length = some (bys (List.replicate 32 0#8)) := by rw [own_app_at0]; rfl
 have o1 : own (m ++ [Blk.row (bys (List.replicate 32 0#8)) false, Blk.row (bys (strB s)) false]) (m.length + 1) = some (bys (strB s)) := by rw [own_app_at]; rfl
 generalize m ++ [Blk.row (bys (List.replicate 32 0#8)) false, Blk.row (bys (strB s)) false] = A0 at k0 o0 o1
 have hr := RdB.row (l := strB s) s.size 1 (rowOf_own o1) (by rw [strB_len]; omega)
 rw [strB_len] at hr
 refine (ans_rsmac (k0.row hK (by simp)) (hx.kept0 k0) hr hkl (by rw [strB_len]; omega)).mono ?_
 rintro _ m1 ⟨rfl, k1⟩
 have o0' := k1.own o0 (by simp)
 have hml := macB_len key (strB s)
 simp -implicitDefEqProofs (disch := (first | omega | (simp only [lq10] <;> omega) | fail)) only [admQ, lq10, aFill, AK.cls, implies_true, if_true, if_false, seval, -List.reduceReplicate, o0', own_set (own_lt o0'), rowOf_own (own_set (own_lt o0') _)]
 exact (k0.trans k1).write (.inr (Nat.le_refl _)) _
end Go.Proofs.YtoegmnnecanhfaaGreatDoor
end
section
namespace Go.Proofs.YtoegmnnecanhfaaGreatDoor
open Go Go.Adm
set_option linter.unusedSimpArgs false
set_option linter.unusedVariables false
set_option maxRecDepth 100000
theorem ans_rseight (v : Nat) (hv : v < 4611686018427387904) (m : Mem) : Ans Tryz.prog 115 [.int .i64 v] m fun r m' => Kept [] m m' ∧ GrB m.length m' r (lowB v 8) := by
 refine ans_ret mixed ok115 ?_
 simp -implicitDefEqProofs (disch := (first | omega | (simp only [lq13] <;> omega) | fail)) only [admQ, lq13, aFill, AK.cls, implies_true, if_true, if_false, seval, -List.reduceReplicate, c115, r115]
 refine LoopW.on (fun t : Nat × AV => [(0, .int .i64 v), (3, t.2), (4, .int .i64 (7 - (t.1 : Int)))]) (fun t => 8 - t.1)
  (fun t M => t.1 ≤ 8 ∧ Kept [] m M ∧ GrB m.length M t.2 (tab t.1 (fun i => byV v (7 - i)))) ?_ (0, .nils) _ _ rfl ⟨by simp, .refl _ _, .nils ..⟩
 rintro ⟨k, x⟩ M X ⟨hk, kk, g⟩ hX
 change GrB m.length M x (tab k (fun i => byV v (7 - i))) at g
 simp only at hk
 by_cases hlt : k < 8
 ·rw [show (7 - (k : Int)) = ((7 - k : Nat) : Int) by omega]
  have hw : IntKind.u8.wrap ((v >>> (8 * (7 - k)) : Nat) : Int) = ((byV v (7 - k)).toNat : Int) := wrap_u8 _
  have hmin : Nat.min (8 * (7 - k)) 64 = 8 * (7 - k) := Nat.min_eq_left (by omega)
  simp -implicitDefEqProofs (disch := (first | omega | (simp only [lq13] <;> omega) | fail)) only [admQ, lq13, aFill, AK.cls, implies_true, if_true, if_false, seval, -List.reduceReplicate, fdiv_pow, hmin, hw, @w64]
  obtain ⟨x3, m3, e3, g3, k3, a3⟩ := g.push (byV v (7 - k)) (by simp [tab_len]; omega) kk.len
  refine someW_eq e3 ?_
  simp -implicitDefEqProofs (disch := (first | omega | (simp only [lq13] <;> omega) | fail)) only [admQ, lq13, aFill, AK.cls, implies_true, if_true, if_false, seval, -List.reduceReplicate]
  rw [show ((7 - k : Nat) : Int) - 1 = 7 - ((k + 1 : Nat) : Int) by omega]
  refine hX (k + 1, x3) _ _ rfl (by simp only; omega) ⟨by simp only; omega, a3 _ _ kk (Nat.le_refl _), ?_⟩
  show GrB m.length m3 x3 (tab (k + 1) _)
  rw [tab_succ]; exact g3
 ·obtain rfl : k = 8 := by omega
  simp -implicitDefEqProofs (disch := (first | omega | (simp only [lq13] <;> omega) | fail)) only [admQ, lq13, aFill, AK.cls, implies_true, if_true, if_false, seval, -List.reduceReplicate]
  exact ⟨kk, g⟩
theorem ans_rsright (e n : Int) (m : Mem) : Ans Tryz.prog 104 [.int .i64 e, .int .i64 n] m fun r m' => r = .bool (decide (placedP e n)) ∧ m' = m := by
 refine ans_ret mixed ok104 ?_
 by_cases h1 : e ≥ 0
 ·by_cases h2 : e ≤ 1099511627776
  ·by_cases h3 : n ≥ 0
   ·by_cases h4 : n ≤ 1099511627776
    ·have hp : placedP e n := ⟨⟨h1, h2⟩, h3, h4⟩
     simp -implicitDefEqProofs (disch := (first | omega | (simp only [lq13] <;> omega) | fail)) only [admQ, lq13, aFill, AK.cls, implies_true, if_true, if_false, seval, -List.reduceReplicate, c104, r104, dec_t h1, dec_t h2, dec_t h3, dec_t h4, decide_eq_true hp]
    ·have hp : ¬ placedP e n := fun h => h4 h.2.2
     simp -implicitDefEqProofs (disch := (first | omega | (simp only [lq13] <;> omega) | fail)) only [admQ, lq13, aFill, AK.cls, implies_true, if_true, if_false, seval, -List.reduceReplicate, c104, r104, dec_t h1, dec_t h2, dec_t h3, dec_f h4, decide_eq_false hp]
   ·have hp : ¬ placedP e n := fun h => h3 h.2.1
    simp -implicitDefEqProofs (disch := (first | omega | (simp only [lq13] <;> omega) | fail)) only [admQ, lq13, aFill, AK.cls, implies_true, if_true, if_false, seval, -List.reduceReplicate, c104, r104, dec_t h1, dec_t h2, dec_f h3, decide_eq_false hp]
  ·have hp : ¬ placedP e n := fun h => h2 h.1.2
   simp -implicitDefEqProofs (disch := (first | omega | (simp only [lq13] <;> omega) | fail)) only [admQ, lq13, aFill, AK.cls, implies_true, if_true, if_false, seval, -List.reduceReplicate, c104, r104, dec_t h1, dec_f h2, decide_eq_false hp]
 ·have hp : ¬ placedP e n := fun h => h1 h.1.1
  simp -implicitDefEqProofs (disch := (first | omega | (simp only [lq13] <;> omega) | fail)) only [admQ, lq13, aFill, AK.cls, implies_true, if_true, if_false, seval, -List.reduceReplicate, c104, r104, dec_f h1, decide_eq_false hp]
structure RBox (m : Mem) (x c : Nat) (key : List B8) : Prop where
 hd : ∃ v, rowOf m x = some [.ptr c 0, v] ∧ RdB m v (authK key)
 ci : RCiph m c 11 (expand (encK key))
 kR : rowOf m 1 = some (wds kT)
theorem RBox.kept0 {m m' : Mem} {x c : Nat} {key : List B8} (h : RBox m x c key) (hk : Kept [] m m') : RBox m' x c key :=
 ⟨let ⟨v, h1, h2⟩ := h.hd; ⟨v, hk.row h1 (by simp), h2.kept0 hk⟩, h.ci.kept0 hk, hk.row h.kR (by simp)⟩
theorem ans_rsnew {m : Mem} {y : AV} {key : List B8} (hK : rowOf m 1 = some (wds kT)) (hy : RdB m y key) (hkl : key.length ≤ 900000000) :
  Ans Tryz.prog 26 [y] m fun r m' => ∃ x c, r = .ptr x 0 ∧ Kept [] m m' ∧ ∀ M : Mem, (∀ q, m.length ≤ q → q < m'.length → M[q]? = m'[q]?) → rowOf M 1 = some (wds kT) → RBox M x c key := by
 refine ans_ret mixed ok26 ?_
 simp -implicitDefEqProofs (disch := (first | omega | (simp only [lq13] <;> omega) | fail)) only [admQ, lq13, aFill, AK.cls, implies_true, if_true, if_false, seval, -List.reduceReplicate, c26, r26]
 refine (ans_rsderive encS hK hy hkl (by decide)).mono ?_
 rintro _ m1 ⟨rfl, k1⟩
 have h1 := macB_len key (strB encS)
 have h2 := macB_len key (strB authS)
 simp -implicitDefEqProofs (disch := (first | omega | (simp only [lq13] <;> omega) | fail)) only [admQ, lq13, aFill, AK.cls, implies_true, if_true, if_false, seval, -List.reduceReplicate]
 have kA := k1.more_app [Blk.row (bys (macB key (strB encS))) false]
 have rE : RdB (m1 ++ [Blk.row (bys (macB key (strB encS))) false]) (.sl m1.length 0 16 32 0) (encK key) := by
  have := RdB.row (m := m1 ++ [Blk.row (bys (macB key (strB encS))) false]) (b := m1.length) (l := macB key (strB encS)) 32 0 (by rw [rowOf_app_at0]; rfl) (by omega)
  rw [h1] at this
  exact this.take (k := 16) (by omega)
 generalize m1 ++ [Blk.row (bys (macB key (strB encS))) false] = A at kA rE
 refine (ans_rsderive authS (kA.row hK (by simp)) (hy.kept0 kA) hkl (by decide)).mono ?_
 rintro _ m2 ⟨rfl, k2⟩
 simp -implicitDefEqProofs (disch := (first | omega | (simp only [lq13] <;> omega) | fail)) only [admQ, lq13, aFill, AK.cls, implies_true, if_true, if_false, seval, -List.reduceReplicate]
 have kB := (kA.trans k2).more_app [Blk.row (bys (macB key (strB authS))) false]
 have oB : own (m2 ++ [Blk.row (bys (macB key (strB authS))) false]) m2.length = some (bys (macB key (strB authS))) := by rw [own_app_at0]; rfl
 have rE2 := (rE.kept0 k2).app [Blk.row (bys (macB key (strB authS))) false]
 generalize m2 ++ [Blk.row (bys (macB key (strB authS))) false] = B at kB oB rE2
 have hel := encK_len key
 refine (ans_rnew rE2 (.inl hel)).mono ?_
 rintro _ m3 ⟨c, rfl, k3, hc, ci⟩
 rw [hel] at ci
 have ci3 := ci m3 (fun _ _ _ => rfl)
 have o3 := k3.own oB (by simp)
 simp -implicitDefEqProofs (disch := (first | omega | (simp only [lq13] <;> omega) | fail)) only [admQ, lq13, aFill, AK.cls, implies_true, if_true, if_false, seval, -List.reduceReplicate]
 have hau : macB key (strB authS) = authK key := rfl
 rw [hau] at o3 h2
 have hal := h2
 have r3 := RdB.row (m := m3) (l := authK key) 32 0 (rowOf_own o3) (by omega)
 rw [hal] at r3
 have gz : GrB (m3 ++ [Blk.row [] false]).length (m3 ++ [Blk.row [] false]) (.sl m3.length 0 0 0 0) [] := .zero (by rw [own_app_at0]; rfl)
 obtain ⟨x4, m4, e4, g4, k4, a4⟩ := gz.pushs (r3.app [Blk.row [] false]) (by simp only [List.length_nil]; omega) (Nat.le_refl _)
 refine someW_eq e4 ?_
 have K4 : Kept [] m3 m4 := by
  have ha : Kept [] m3 (m3 ++ [Blk.row [] false]) := .app _ _ _
  exact ha.trans (a4 _ _ (.refl _ _) (Nat.le_refl _))
 rw [List.nil_append] at g4
 simp -implicitDefEqProofs (disch := (first | omega | (simp only [lq13] <;> omega) | fail)) only [admQ, lq13, aFill, AK.cls, implies_true, if_true, if_false, seval, -List.reduceReplicate, (gr_one g4).1, (gr_one g4).2]
 have kZ := (kB.trans (k3.trans K4))
 refine ⟨_, c, rfl, kZ.more_app _, fun M hM hK' => ?_⟩
 have hmB := kB.len
 have hB3 := k3.len
 have h34 := K4.len
 have hcut : ∀ q, m.length ≤ q → q < m4.length → M[q]? = m4[q]? := fun q h1 h2 => by
  rw [hM q h1 (by omega), List.getElem?_append_left h2]
 have hx : rowOf M m4.length = some [.ptr c 0, x4] := rowOf_at (m := m4 ++ [Blk.row [.ptr c 0, x4] false]) (by rw [rowOf_app_at0]; rfl) (hM _ (by omega) (by omega))
 have hne : bys (authK key) ≠ [] := by intro e; have := congrArg List.length e; simp [hal] at this
 refine ⟨⟨x4, hx, g4.rd.at_ fun b hb => hcut b ?_ (g4.lt b hb)⟩, ci M fun q h1 h2 => ?_, hK'⟩
 ·have := GrA.blk g4 hne b hb
  rw [List.length_append] at this; omega
 ·rw [hcut q (by omega) (by omega)]
  exact K4.eq q h2 (by simp)
theorem ans_rstag {m : Mem} {x c : Nat} {key head b : List B8} {hx bx : AV} {e n : Int} (hs : RBox m x c key) (hh : RdB m hx head) (hb : RdB m bx b) (he : placedP e n) (hl : head.length ≤ 100000000 ∧ b.length ≤ 100000000) :
  Ans Tryz.prog 106 [.ptr x 0, .int .i64 e, .int .i64 n, hx, bx] m fun r m' => r = .agg (bys (tagB key head e n b)) ∧ Kept [] m m' := by
 refine ans_ret mixed ok106 ?_
 obtain ⟨v, hv, hav⟩ := hs.hd
 obtain ⟨⟨e0, e1⟩, n0, n1⟩ := he
 obtain ⟨e, rfl⟩ := Int.eq_ofNat_of_zero_le e0
 obtain ⟨n, rfl⟩ := Int.eq_ofNat_of_zero_le n0
 simp -implicitDefEqProofs (disch := (first | omega | (simp only [lq13] <;> omega) | fail)) only [admQ, lq13, aFill, AK.cls, implies_true, if_true, if_false, seval, -List.reduceReplicate, c106, r106, hh.len]
 have k0 := Kept.app [] m [Blk.row (bys (List.replicate 32 0#8)) false]
 have o0 : own (m ++ [Blk.row (bys (List.replicate 32 0#8)) false]) m.length = some (bys (List.replicate 32 0#8)) := by rw [own_app_at0]; rfl
 generalize m ++ [Blk.row (bys (List.replicate 32 0#8)) false] = A at k0 o0
 refine (ans_rseight head.length (by omega) _).mono ?_
 rintro r1 m1 ⟨k1, g1⟩
 simp -implicitDefEqProofs (disch := (first | omega | (simp only [lq13] <;> omega) | fail)) only [admQ, lq13, aFill, AK.cls, implies_true, if_true, if_false, seval, -List.reduceReplicate]
 obtain ⟨x2, m2, e2, g2, k2, a2⟩ := g1.pushs (hh.kept0 (k0.trans k1)) (by simp [lowB_len]; omega) k1.len
 refine someW_eq e2 ?_
 have K2 := a2 _ _ k1 (Nat.le_refl _)
 simp -implicitDefEqProofs (disch := (first | omega | (simp only [lq13] <;> omega) | fail)) only [admQ, lq13, aFill, AK.cls, implies_true, if_true, if_false, seval, -List.reduceReplicate]
 refine (ans_rseight e (by omega) _).mono ?_
 rintro r3 m3 ⟨k3, g3⟩
 have K3 := K2.trans k3
 have g2' := g2.kept0 k3
 simp -implicitDefEqProofs (disch := (first | omega | (simp only [lq13] <;> omega) | fail)) only [admQ, lq13, aFill, AK.cls, implies_true, if_true, if_false, seval, -List.reduceReplicate]
 obtain ⟨x4, m4, e4, g4, k4, a4⟩ := g2'.pushs g3.rd (by simp [lowB_len]; omega) K3.len
 refine someW_eq e4 ?_
 have K4 := a4 _ _ K3 (Nat.le_refl _)
 simp -implicitDefEqProofs (disch := (first | omega | (simp only [lq13] <;> omega) | fail)) only [admQ, lq13, aFill, AK.cls, implies_true, if_true, if_false, seval, -List.reduceReplicate]
 refine (ans_rseight n (by omega) _).mono ?_
 rintro r5 m5 ⟨k5, g5⟩
 have K5 := K4.trans k5
 have g4' := g4.kept0 k5
 simp -implicitDefEqProofs (disch := (first | omega | (simp only [lq13] <;> omega) | fail)) only [admQ, lq13, aFill, AK.cls, implies_true, if_true, if_false, seval, -List.reduceReplicate]
 obtain ⟨x6, m6, e6, g6, k6, a6⟩ := g4'.pushs g5.rd (by simp [lowB_len]; omega) K5.len
 refine someW_eq e6 ?_
 have K6 := a6 _ _ K5 (Nat.le_refl _)
 have hv6 := (k0.trans K6).row hv (by simp)
 simp -implicitDefEqProofs (disch := (first | omega | (simp only [lq13] <;> omega) | fail)) only [admQ, lq13, aFill, AK.cls, implies_true, if_true, if_false, seval, -List.reduceReplicate, hv6]
 obtain ⟨x7, m7, e7, g7, k7, a7⟩ := g6.pushs (hb.kept0 (k0.trans K6)) (by simp [lowB_len]; omega) K6.len
 refine someW_eq e7 ?_
 have K7 := a7 _ _ K6 (Nat.le_refl _)
 have hv7 := (k0.trans K7).row hv (by simp)
 have hs7 := hs.kept0 (k0.trans K7)
 simp -implicitDefEqProofs (disch := (first | omega | (simp only [lq13] <;> omega) | fail)) only [admQ, lq13, aFill, AK.cls, implies_true, if_true, if_false, seval, -List.reduceReplicate, hv7]
 refine (ans_rsmac hs7.kR (hav.kept0 (k0.trans K7)) g7.rd (by rw [authK_len]; omega) (by simp [lowB_len]; omega)).mono ?_
 rintro _ m8 ⟨rfl, k8⟩
 have K8 := K7.trans k8
 have o8 := K8.own o0 (by simp)
 have hml := macB_len (authK key) (lowB head.length 8 ++ head ++ lowB e 8 ++ lowB n 8 ++ b)
 simp -implicitDefEqProofs (disch := (first | omega | (simp only [lq13] <;> omega) | fail)) only [admQ, lq13, aFill, AK.cls, implies_true, if_true, if_false, seval, -List.reduceReplicate, o8, own_set (own_lt o8), rowOf_own (own_set (own_lt o8) _), (k0.trans K8).row hv (by simp)]
 refine ⟨?_, (k0.trans K8).write (.inr (Nat.le_refl _)) _⟩
 rw [tagB]
 simp
theorem ans_rssum {m : Mem} {x : AV} {y : AV} {B : List B8} (hK : rowOf m 1 = some (wds kT)) (hB : RdB m y B) (hlen : B.length ≤ 900000000) :
  Ans Tryz.prog 65 [x, y] m fun r m' => r = .agg (bys (shaB B)) ∧ Kept [] m m' := by
 refine ans_ret mixed ok65 ?_
 simp -implicitDefEqProofs (disch := (first | omega | (simp only [lq13] <;> omega) | fail)) only [admQ, lq13, aFill, AK.cls, implies_true, if_true, if_false, seval, -List.reduceReplicate, c65, r65]
 have k0 := Kept.app [] m [Blk.row (bys (List.replicate 32 0#8)) false]
 have o0 : own (m ++ [Blk.row (bys (List.replicate 32 0#8)) false]) m.length = some (bys (List.replicate 32 0#8)) := by rw [own_app_at0]; rfl
 generalize m ++ [Blk.row (bys (List.replicate 32 0#8)) false] = A0 at k0 o0
 refine (ans_rsof (k0.row hK (by simp)) (hB.kept0 k0) hlen).mono ?_
 rintro _ m1 ⟨rfl, k1⟩
 have o1 := k1.own o0 (by simp)
 have hs := shaB_len B
 simp -implicitDefEqProofs (disch := (first | omega | (simp only [lq13] <;> omega) | fail)) only [admQ, lq13, aFill, AK.cls, implies_true, if_true, if_false, seval, -List.reduceReplicate, o1, own_set (own_lt o1), rowOf_own (own_set (own_lt o1) _)]
 exact (k0.trans k1).write (.inr (Nat.le_refl _)) _
theorem ans_rsseal {m : Mem} {x c : Nat} {key head b : List B8} {hx bx : AV} {e n : Int} (hs : RBox m x c key) (hh : RdB m hx head) (hb : RdB m bx b) (hl : head.length ≤ 100000 ∧ b.length ≤ 100000) :
  Ans Tryz.prog 86 [.ptr x 0, .int .i64 e, .int .i64 n, hx, bx] m fun r m' => Kept [] m m' ∧ (placedP e n → GrB m.length m' r (sealB key head e n b)) ∧ (¬ placedP e n → r = .nils) := by
 refine ans_ret mixed ok86 ?_
 obtain ⟨v, hv, hav⟩ := hs.hd
 simp -implicitDefEqProofs (disch := (first | omega | (simp only [lq13] <;> omega) | fail)) only [admQ, lq13, aFill, AK.cls, implies_true, if_true, if_false, seval, -List.reduceReplicate, c86, r86]
 refine (ans_rsright e n _).mono ?_
 rintro _ M ⟨rfl, hM⟩
 subst hM
 by_cases hp : placedP e n
 ·simp -implicitDefEqProofs (disch := (first | omega | (simp only [lq13] <;> omega) | fail)) only [admQ, lq13, aFill, AK.cls, implies_true, if_true, if_false, seval, -List.reduceReplicate, decide_eq_true hp, Bool.not_true, hv]
  refine (ans_rctrxor hs.ci e n hb hl.2).mono ?_
  rintro y m1 ⟨k1, g1⟩
  change GrB M.length m1 y (turnB key e n b) at g1
  have htl := turnB_len key e n b
  simp -implicitDefEqProofs (disch := (first | omega | (simp only [lq13] <;> omega) | fail)) only [admQ, lq13, aFill, AK.cls, implies_true, if_true, if_false, seval, -List.reduceReplicate]
  refine (ans_rstag (hs.kept0 k1) (hh.kept0 k1) g1.rd hp ⟨by omega, by omega⟩).mono ?_
  rintro _ m2 ⟨rfl, k2⟩
  have hgl := tagB_len key head e n (turnB key e n b)
  simp -implicitDefEqProofs (disch := (first | omega | (simp only [lq13] <;> omega) | fail)) only [admQ, lq13, aFill, AK.cls, implies_true, if_true, if_false, seval, -List.reduceReplicate]
  have kW := (k1.trans k2).more_app [Blk.row (bys (tagB key head e n (turnB key e n b))) false, Blk.row [] false]
  have gW := (g1.rd.kept0 k2).app [Blk.row (bys (tagB key head e n (turnB key e n b))) false, Blk.row [] false]
  have hW : (m2 ++ [Blk.row (bys (tagB key head e n (turnB key e n b))) false, Blk.row [] false])[m2.length + 1]? = some (.row [] false) := by simp
  have oT : own (m2 ++ [Blk.row (bys (tagB key head e n (turnB key e n b))) false, Blk.row [] false]) m2.length = some (bys (tagB key head e n (turnB key e n b))) := by rw [own_app_at0]; rfl
  have hseal : sealB key head e n b = turnB key e n b ++ tagB key head e n (turnB key e n b) := rfl
  rw [hseal]
  generalize turnB key e n b = TU at *
  generalize tagB key head e n TU = TG at *
  have gz : GrB (m2 ++ [Blk.row (bys TG) false, Blk.row [] false]).length (m2 ++ [Blk.row (bys TG) false, Blk.row [] false]) (.sl (m2.length + 1) 0 0 0 0) [] := .zero (by rw [own_app_at]; rfl)
  generalize m2 ++ [Blk.row (bys TG) false, Blk.row [] false] = W at *
  obtain ⟨x4, m4, e4, g4, k4, a4⟩ := gz.pushs gW (by simp only [List.length_nil]; omega) (Nat.le_refl _)
  refine someW_eq e4 ?_
  have K4 := a4 _ _ (.refl [] _) (Nat.le_refl _)
  rw [List.nil_append] at g4
  have hE : m4[m2.length + 1]? = some (.row [] false) := by rw [K4.eq _ (List.getElem?_eq_some_iff.mp hW).1 (by simp)]; exact hW
  have oT4 := K4.own oT (by simp)
  have rT := RdB.row (m := m4) (l := TG) 32 0 (rowOf_own oT4) (by omega)
  rw [hgl] at rT
  simp -implicitDefEqProofs (disch := (first | omega | (simp only [lq13] <;> omega) | fail)) only [admQ, lq13, aFill, AK.cls, implies_true, if_true, if_false, seval, -List.reduceReplicate, hE, oT4, rowOf_own oT4]
  obtain ⟨x5, m5, e5, g5, k5, a5⟩ := g4.pushs rT (by omega) K4.len
  refine someW_eq e5 ?_
  have K5 := a5 _ _ K4 (Nat.le_refl _)
  have hE5 : m5[m2.length + 1]? = some (.row [] false) := by rw [K5.eq _ (List.getElem?_eq_some_iff.mp hW).1 (by simp)]; exact hW
  simp -implicitDefEqProofs (disch := (first | omega | (simp only [lq13] <;> omega) | fail)) only [admQ, lq13, aFill, AK.cls, implies_true, if_true, if_false, seval, -List.reduceReplicate, hE5]
  exact ⟨kW.trans K5, fun _ => g5.low kW.len, fun h => absurd hp h⟩
 ·simp -implicitDefEqProofs (disch := (first | omega | (simp only [lq13] <;> omega) | fail)) only [admQ, lq13, aFill, AK.cls, implies_true, if_true, if_false, seval, -List.reduceReplicate, decide_eq_false hp, Bool.not_false]
  exact ⟨.refl _ _, fun h => absurd h hp⟩
theorem ans_rsopen {m : Mem} {x c : Nat} {key head b : List B8} {hx bx : AV} {e n : Int} (hs : RBox m x c key) (hh : RdB m hx head) (hb : RdB m bx b) (hl : head.length ≤ 100000 ∧ b.length ≤ 100000) :
  Ans Tryz.prog 93 [.ptr x 0, .int .i64 e, .int .i64 n, hx, bx] m fun r m' => Kept [] m m' ∧ (openP key head e n b → ∃ v, r = .tup [v, .bool true] ∧ GrB m.length m' v (turnB key e n (b.take (b.length - 32)))) ∧ (¬ openP key head e n b → r = .tup [.nils, .bool false]) := by
 refine ans_ret mixed ok93 ?_
 obtain ⟨v, hv, hav⟩ := hs.hd
 simp -implicitDefEqProofs (disch := (first | omega | (simp only [lq13] <;> omega) | fail)) only [admQ, lq13, aFill, AK.cls, implies_true, if_true, if_false, seval, -List.reduceReplicate, c93, r93, hb.len]
 refine (ans_rsright e n _).mono ?_
 rintro _ M ⟨rfl, hM⟩
 subst hM
 by_cases hp : placedP e n
 ·by_cases h32 : b.length < 32
  ·have hno : ¬ openP key head e n b := fun h => by have := h.2.1; omega
   simp -implicitDefEqProofs (disch := (first | omega | (simp only [lq13] <;> omega) | fail)) only [admQ, lq13, aFill, AK.cls, implies_true, if_true, if_false, seval, -List.reduceReplicate, decide_eq_true hp, Bool.not_true, dec_t (show (b.length : Int) - 32 < 0 by omega)]
   exact ⟨.refl _ _, fun h => absurd h hno⟩
  ·rw [show (b.length : Int) - 32 = ((b.length - 32 : Nat) : Int) by omega]
   obtain ⟨q, o, cap, sl, cc, rfl, hrow, hat, hlen, hcap, hsl, htk⟩ := hb.cons (i := 0) (by omega)
   have hrr := hb.drop (k := b.length - 32) (by omega)
   simp -implicitDefEqProofs (disch := (first | omega | (simp only [lq13] <;> omega) | fail)) only [admQ, lq13, aFill, AK.cls, implies_true, if_true, if_false, seval, -List.reduceReplicate, decide_eq_true hp, Bool.not_true, dec_f (show ¬ ((b.length - 32 : Nat) : Int) < 0 by omega)]
   refine (ans_rstag hs hh (hb.take (k := b.length - 32) (by omega)) hp ⟨by omega, by simp; omega⟩).mono ?_
   rintro _ m1 ⟨rfl, k1⟩
   have hgl := tagB_len key head e n (b.take (b.length - 32))
   simp -implicitDefEqProofs (disch := (first | omega | (simp only [lq13] <;> omega) | fail)) only [admQ, lq13, aFill, AK.cls, implies_true, if_true, if_false, seval, -List.reduceReplicate]
   have kA := k1.more_app [Blk.row (bys (tagB key head e n (b.take (b.length - 32)))) false]
   have rT : RdB (m1 ++ [Blk.row (bys (tagB key head e n (b.take (b.length - 32)))) false]) (.sl m1.length 0 32 32 0) (tagB key head e n (b.take (b.length - 32))) := by
    have := RdB.row (m := m1 ++ [Blk.row (bys (tagB key head e n (b.take (b.length - 32)))) false]) (b := m1.length) (l := tagB key head e n (b.take (b.length - 32))) 32 0 (by rw [rowOf_app_at0]; rfl) (by omega)
    rwa [hgl] at this
   generalize hTG : tagB key head e n (b.take (b.length - 32)) = TG at *
   generalize m1 ++ [Blk.row (bys TG) false] = A at kA rT
   refine (ans_samebytes rT (hrr.kept0 kA) (by omega)).mono ?_
   rintro _ MM ⟨rfl, hM⟩
   subst hM
   by_cases hok : TG = b.drop (b.length - 32)
   ·have hyes : openP key head e n b := ⟨hp, by omega, by rw [hTG]; exact hok⟩
    have hvA := kA.row hv (by simp)
    simp -implicitDefEqProofs (disch := (first | omega | (simp only [lq13] <;> omega) | fail)) only [admQ, lq13, aFill, AK.cls, implies_true, if_true, if_false, seval, -List.reduceReplicate, beq_iff_eq.mpr hok, Bool.not_true, hvA]
    refine (ans_rctrxor (hs.kept0 kA).ci e n ((hb.kept0 kA).take (k := b.length - 32) (by omega)) (by simp; omega)).mono ?_
    rintro y m3 ⟨k3, g3⟩
    simp -implicitDefEqProofs (disch := (first | omega | (simp only [lq13] <;> omega) | fail)) only [admQ, lq13, aFill, AK.cls, implies_true, if_true, if_false, seval, -List.reduceReplicate, k3.row hvA (by simp)]
    exact ⟨kA.trans k3, fun _ => ⟨y, rfl, g3.low kA.len⟩, fun h => absurd hyes h⟩
   ·have hno : ¬ openP key head e n b := fun h => hok (by rw [← hTG]; exact h.2.2)
    simp -implicitDefEqProofs (disch := (first | omega | (simp only [lq13] <;> omega) | fail)) only [admQ, lq13, aFill, AK.cls, implies_true, if_true, if_false, seval, -List.reduceReplicate, beq_eq_false_iff_ne.mpr hok, Bool.not_false]
    exact ⟨kA, fun h => absurd h hno⟩
 ·have hno : ¬ openP key head e n b := fun h => hp h.1
  simp -implicitDefEqProofs (disch := (first | omega | (simp only [lq13] <;> omega) | fail)) only [admQ, lq13, aFill, AK.cls, implies_true, if_true, if_false, seval, -List.reduceReplicate, decide_eq_false hp, Bool.not_false]
  exact ⟨.refl _ _, fun h => absurd h hno⟩
end Go.Proofs.YtoegmnnecanhfaaGreatDoor
end
section
namespace Go.Proofs.YtoegmnnecanhfaaGreatDoor
open Go Go.Adm
set_option linter.unusedSimpArgs false
set_option linter.unusedVariables false
set_option maxRecDepth 100000
theorem nw64 {k : Nat} (h : k < 18446744073709551616) : IntKind.u64.wrap (k : Int) = k := by
 rw [wr_u64, BitVec.ofInt_natCast, BitVec.toNat_ofNat, Nat.mod_eq_of_lt h]
def numB (v : Nat) : List B8 := lowB v 8
theorem numB_len (v : Nat) : (numB v).length = 8 := lowB_len _ _
def lq14 := And.intro @lenB (And.intro @lowB_len (@numB_len))
theorem ans_nnumber (v : Nat) (hv : v < 4611686018427387904) (m : Mem) : Ans Tryz.prog 158 [.int .i64 v] m fun r m' => ∃ p, r = .sl p 0 8 8 0 ∧ Kept [] m m' ∧ m.length ≤ p ∧ own m' p = some (bys (numB v)) := by
 refine ans_ret mixed ok158 ?_
 simp -implicitDefEqProofs (disch := (first | omega | (simp only [lq14] <;> omega) | fail)) only [admQ, lq14, aFill, AK.cls, implies_true, if_true, if_false, seval, -List.reduceReplicate, c158, r158]
 have hr : rep 8 [AV.int .u8 0] = bys (upTo 8 (fun i => byV v (7 - i)) (fun _ => 0#8) 0) := by rw [upTo_zero, tab_const]; rfl
 simp -implicitDefEqProofs (disch := (first | omega | (simp only [lq14] <;> omega) | fail)) only [admQ, lq14, aFill, AK.cls, implies_true, if_true, if_false, seval, -List.reduceReplicate, hr]
 refine LoopW.on (fun i : Nat => [(0, .int .i64 v), (3, .sl m.length 0 8 8 0), (7, .int .i64 8), (8, .int .i64 i)]) (fun i => 8 - i)
  (fun i M => i ≤ 8 ∧ M = m ++ [.row (bys (upTo 8 (fun i => byV v (7 - i)) (fun _ => 0#8) i)) false]) ?_ 0 _ _ rfl ⟨by omega, rfl⟩
 rintro i M X ⟨hi, rfl⟩ hX
 by_cases hlt : i < 8
 ·have hw : IntKind.u8.wrap ((v >>> (8 * (7 - i)) : Nat) : Int) = ((byV v (7 - i)).toNat : Int) := wrap_u8 _
  have hu := upTo_set (n := 8) (i := i) (f := fun i => byV v (7 - i)) (g := fun _ => 0#8)
  simp -implicitDefEqProofs (disch := (first | omega | (simp only [lq14] <;> omega) | fail)) only [admQ, lq14, aFill, AK.cls, implies_true, if_true, if_false, seval, -List.reduceReplicate, fdiv_nat, hw, @nw64, splice_byte, hu]
  exact hX (i + 1) _ _ rfl (by omega) ⟨by omega, rfl⟩
 ·obtain rfl : i = 8 := by omega
  rw [upTo_all]
  simp -implicitDefEqProofs (disch := (first | omega | (simp only [lq14] <;> omega) | fail)) only [admQ, lq14, aFill, AK.cls, implies_true, if_true, if_false, seval, -List.reduceReplicate]
  exact ⟨_, rfl, .app _ _ _, Nat.le_refl _, by rw [own_app_at0]; rfl⟩
def within (e : Int) : Prop := 0 ≤ e ∧ e ≤ 1099511627776
instance (e : Int) : Decidable (within e) := by unfold within; infer_instance
theorem ans_nwithin (e : Int) (m : Mem) : Ans Tryz.prog 159 [.int .i64 e] m fun r m' => r = .bool (decide (within e)) ∧ m' = m := by
 refine ans_ret mixed ok159 ?_
 by_cases h1 : e ≥ 0
 ·by_cases h2 : e ≤ 1099511627776
  ·simp -implicitDefEqProofs (disch := (first | omega | (simp only [lq14] <;> omega) | fail)) only [admQ, lq14, aFill, AK.cls, implies_true, if_true, if_false, seval, -List.reduceReplicate, c159, r159, dec_t h1, dec_t h2, dec_t (show within e from ⟨h1, h2⟩)]
  ·simp -implicitDefEqProofs (disch := (first | omega | (simp only [lq14] <;> omega) | fail)) only [admQ, lq14, aFill, AK.cls, implies_true, if_true, if_false, seval, -List.reduceReplicate, c159, r159, dec_t h1, dec_f h2, dec_f (show ¬ within e from fun h => h2 h.2)]
 ·simp -implicitDefEqProofs (disch := (first | omega | (simp only [lq14] <;> omega) | fail)) only [admQ, lq14, aFill, AK.cls, implies_true, if_true, if_false, seval, -List.reduceReplicate, c159, r159, dec_f h1, dec_f (show ¬ within e from fun h => h1 h.1)]
theorem ans_slgrow (n : Nat) (hn : n ≤ 1000000000) (m : Mem) : Ans Tryz.prog 160 [.nils, .int .i64 n] m fun r m' => Kept [] m m' ∧ Room m.length m' r [] n := by
 refine ans_ret mixed ok160 ?_
 by_cases h0 : n = 0
 ·subst h0
  simp -implicitDefEqProofs (disch := (first | omega | (simp only [lq14] <;> omega) | fail)) only [admQ, lq14, aFill, AK.cls, implies_true, if_true, if_false, seval, -List.reduceReplicate, c160, r160, mapR, pCap]
  exact ⟨.refl _ _, .inl ⟨rfl, rfl, rfl⟩⟩
 ·simp -implicitDefEqProofs (disch := (first | omega | (simp only [lq14] <;> omega) | fail)) only [admQ, lq14, aFill, AK.cls, implies_true, if_true, if_false, seval, -List.reduceReplicate, c160, r160, mapR, pCap, aAppendZ]
  refine ⟨.app _ _ _, .inr ⟨by omega, m.length, rfl, ?_, Nat.le_refl _, by simp⟩⟩
  rw [own_app_at0]
  have hr : rep n [AV.int .u8 0] = bys (List.replicate n 0#8) := by rw [← bys_rep]; simp [rep]
  simp [own_c0, hr]
theorem ans_slconcat {m : Mem} {p k : Nat} {xs : List AV} {ls : List (List B8)} (hp : rowOf m p = some xs) (hr : RdL m xs ls) (hk : ls.length = k) (hb : k ≤ 1000 ∧ ls.flatten.length ≤ 900000000) :
  Ans Tryz.prog 157 [.sl p 0 k k 0] m fun r m' => Kept [] m m' ∧ GrB m.length m' r ls.flatten := by
 refine ans_ret mixed ok157 ?_
 simp -implicitDefEqProofs (disch := (first | omega | (simp only [lq14] <;> omega) | fail)) only [admQ, lq14, aFill, AK.cls, implies_true, if_true, if_false, seval, -List.reduceReplicate, c157, r157]
 refine LoopW.on (fun i : Nat => [(0, .sl p 0 k k 0), (3, .int .i64 ((ls.take i).flatten.length : Nat)), (9, .sl p 0 k k 0), (10, .int .i64 k), (11, .int .i64 i)]) (fun i => k - i) (fun i M => i ≤ k ∧ M = m) ?_ 0 _ _ rfl ⟨by omega, rfl⟩
 rintro i M X ⟨hi, rfl⟩ hX
 by_cases hlt : i < k
 ·obtain ⟨l, hl⟩ : ∃ l, ls[i]? = some l := ⟨_, List.getElem?_eq_getElem (by omega)⟩
  obtain ⟨y, hy, hyr⟩ := hr.2 i l hl
  have hcat := flat_take hl
  have h1 := flat_len (ls := ls) (i + 1)
  rw [hcat, List.length_append] at h1
  simp -implicitDefEqProofs (disch := (first | omega | (simp only [lq14] <;> omega) | fail)) only [admQ, lq14, aFill, AK.cls, implies_true, if_true, if_false, seval, -List.reduceReplicate, hp, hy, hyr.len]
  refine hX (i + 1) _ _ ?_ (by omega) ⟨by omega, rfl⟩
  rw [hcat, List.length_append]
  rfl
 ·obtain rfl : i = k := by omega
  rw [List.take_of_length_le (by omega)]
  simp -implicitDefEqProofs (disch := (first | omega | (simp only [lq14] <;> omega) | fail)) only [admQ, lq14, aFill, AK.cls, implies_true, if_true, if_false, seval, -List.reduceReplicate]
  clear hX X
  refine (ans_slgrow _ (by omega) _).mono ?_
  rintro z m1 ⟨k1, g1⟩
  simp -implicitDefEqProofs (disch := (first | omega | (simp only [lq14] <;> omega) | fail)) only [admQ, lq14, aFill, AK.cls, implies_true, if_true, if_false, seval, -List.reduceReplicate]
  refine LoopW.on (fun t : Nat × AV => [(6, t.2), (25, .sl p 0 i i 0), (26, .int .i64 i), (27, .int .i64 t.1)]) (fun t => i - t.1) (fun t N => t.1 ≤ i ∧ Kept [] M N ∧ Room M.length N t.2 (ls.take t.1).flatten ls.flatten.length) ?_ (0, z) _ _ rfl ⟨by simp, k1, g1⟩
  clear k1 g1 hlt hi
  rintro ⟨j, v⟩ N X ⟨hj, kk, g⟩ hX
  change Room M.length N v (ls.take j).flatten _ at g
  simp only at hj
  by_cases hlt : j < i
  ·obtain ⟨l, hl⟩ : ∃ l, ls[j]? = some l := ⟨_, List.getElem?_eq_getElem (by omega)⟩
   obtain ⟨y, hy, hyr⟩ := hr.2 j l hl
   have hrow := kk.row hp (by simp)
   have hcat := flat_take hl
   have h1 := flat_len (ls := ls) (j + 1)
   rw [hcat, List.length_append] at h1
   simp -implicitDefEqProofs (disch := (first | omega | (simp only [lq14] <;> omega) | fail)) only [admQ, lq14, aFill, AK.cls, implies_true, if_true, if_false, seval, -List.reduceReplicate, hrow, hy]
   obtain ⟨x3, m3, e3, g3, k3⟩ := g.push (hyr.kept0 kk) h1
   refine someW_eq e3 ?_
   simp -implicitDefEqProofs (disch := (first | omega | (simp only [lq14] <;> omega) | fail)) only [admQ, lq14, aFill, AK.cls, implies_true, if_true, if_false, seval, -List.reduceReplicate]
   refine hX (j + 1, x3) _ _ rfl (by simp only; omega) ⟨by simp only; omega, kk.upon k3 g.low, ?_⟩
   show Room M.length m3 x3 (ls.take (j + 1)).flatten _
   rw [hcat]; exact g3
  ·obtain rfl : j = i := by omega
   rw [List.take_of_length_le (by omega)] at g
   simp -implicitDefEqProofs (disch := (first | omega | (simp only [lq14] <;> omega) | fail)) only [admQ, lq14, aFill, AK.cls, implies_true, if_true, if_false, seval, -List.reduceReplicate]
   exact ⟨kk, g.all rfl⟩
theorem ans_slequal {m : Mem} {x y : AV} {a b : List B8} (hx : RdB m x a) (hy : RdB m y b) (hl : a.length < 1152921504606846976) : Ans Tryz.prog 156 [x, y] m fun r m' => r = .bool (a == b) ∧ m' = m := by
 refine ans_ret mixed ok156 ?_
 by_cases h : a.length = b.length
 ·have h' : ((a.length : Int) == (b.length : Int)) = true := by rw [h]; simp
  simp -implicitDefEqProofs (disch := (first | omega | (simp only [lq14] <;> omega) | fail)) only [admQ, lq14, aFill, AK.cls, implies_true, if_true, if_false, seval, -List.reduceReplicate, c156, r156, hx.len, hy.len, h', Bool.not_true]
  refine LoopW.on (fun i : Nat => [(0, x), (1, y), (12, .int .i64 a.length), (13, .int .i64 i)]) (fun i => a.length - i) (fun i m' => m' = m ∧ i ≤ a.length ∧ ∀ j, j < i → gb a j = gb b j) ?_ 0 _ _ rfl ⟨rfl, by omega, fun j hj => by omega⟩
  rintro i _ X ⟨rfl, hi, hj⟩ hX
  by_cases hlt : i < a.length
  ·obtain ⟨b1, o1, cap1, s1, c1, rfl, hr1, hg1, hl1, hc1, hs1, ht1⟩ := hx.cons hlt
   obtain ⟨b2, o2, cap2, s2, c2, rfl, hr2, hg2, hl2, hc2, hs2, ht2⟩ := hy.cons (by omega : i < b.length)
   have e1 := hg1 i hlt
   have e2 := hg2 i (by omega)
   cases he : gb a i == gb b i
   ·have hne : (a == b) = false := by
     rw [beq_eq_false_iff_ne]; rintro rfl; simp at he
    simp -implicitDefEqProofs (disch := (first | omega | (simp only [lq14] <;> omega) | fail)) only [admQ, lq14, aFill, AK.cls, implies_true, if_true, if_false, seval, -List.reduceReplicate, hr1, hr2, e1, e2, he, hne, Bool.not_false]
   ·simp -implicitDefEqProofs (disch := (first | omega | (simp only [lq14] <;> omega) | fail)) only [admQ, lq14, aFill, AK.cls, implies_true, if_true, if_false, seval, -List.reduceReplicate, hr1, hr2, e1, e2, he, Bool.not_true]
    refine hX (i + 1) _ _ rfl (by omega) ⟨rfl, by omega, fun j hj2 => ?_⟩
    by_cases hji : j = i
    ·subst hji; simpa using he
    ·exact hj j (by omega)
  ·have he : (a == b) = true := by rw [beq_iff_eq]; exact gb_ext h fun j hj2 => hj j (by omega)
   simp -implicitDefEqProofs (disch := (first | omega | (simp only [lq14] <;> omega) | fail)) only [admQ, lq14, aFill, AK.cls, implies_true, if_true, if_false, seval, -List.reduceReplicate, hx.len, he]
 ·have h' : ((a.length : Int) == (b.length : Int)) = false := by rw [beq_eq_false_iff_ne]; omega
  have he : (a == b) = false := by rw [beq_eq_false_iff_ne]; rintro rfl; exact h rfl
  simp -implicitDefEqProofs (disch := (first | omega | (simp only [lq14] <;> omega) | fail)) only [admQ, lq14, aFill, AK.cls, implies_true, if_true, if_false, seval, -List.reduceReplicate, c156, r156, hx.len, hy.len, h', he, Bool.not_false]
theorem ans_slclone {m : Mem} {x : AV} {l : List B8} (hx : RdB m x l) (hl : l.length ≤ 1000000000) : Ans Tryz.prog 40 [x] m fun r m' => Kept [] m m' ∧ GrB m.length m' r l ∧ ∀ b ∈ blkOf r, m.length ≤ b := by
 refine ans_ret mixed ok40 ?_
 rcases hx with ⟨rfl, rfl⟩ | ⟨b, o, cap, s, c, rfl, h2⟩
 ·simp -implicitDefEqProofs (disch := (first | omega | (simp only [lq14] <;> omega) | fail)) only [admQ, lq14, aFill, AK.cls, implies_true, if_true, if_false, seval, -List.reduceReplicate, c40, r40]
  exact ⟨.refl _ _, .nils .., by simp [blkOf]⟩
 ·have hx : RdB m (.sl b o l.length cap s) l := .inr ⟨b, o, cap, s, c, rfl, h2⟩
  simp -implicitDefEqProofs (disch := (first | omega | (simp only [lq14] <;> omega) | fail)) only [admQ, lq14, aFill, AK.cls, implies_true, if_true, if_false, seval, -List.reduceReplicate, c40, r40]
  have gz : GrB m.length (m ++ [Blk.row [] false]) (.sl m.length 0 0 0 0) [] := .zero (by rw [own_app_at0]; rfl)
  obtain ⟨x4, m4, e4, g4, k4, a4, n4⟩ := GrA.pushs5 (sz := 1) (bytes := 1) gz Nat.one_pos (hx.app [Blk.row [] false]).elems (hx.app [Blk.row [] false]).lenA (by simp) (by simp; omega) (by simp)
  refine someW_eq e4 ?_
  simp -implicitDefEqProofs (disch := (first | omega | (simp only [lq14] <;> omega) | fail)) only [admQ, lq14, aFill, AK.cls, implies_true, if_true, if_false, seval, -List.reduceReplicate]
  refine ⟨a4 _ _ (.app _ _ _) (Nat.le_refl _), by simpa [GrB] using g4, fun q hq => ?_⟩
  by_cases h0 : 0 < l.length
  ·have := n4 h0 q hq; simp at this; omega
  ·have e := app_none (m := m ++ [Blk.row [] false]) (size := 1) (bytes := 1) (s := .sl m.length 0 0 0 0) (x := .sl b o l.length cap s) (congrArg some (show l.length = 0 by omega)) rfl
   rw [e] at e4; cases e4
   simp [blkOf] at hq; omega
end Go.Proofs.YtoegmnnecanhfaaGreatDoor
end
