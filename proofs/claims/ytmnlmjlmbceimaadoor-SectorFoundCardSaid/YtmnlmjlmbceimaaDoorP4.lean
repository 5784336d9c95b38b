/- Texts of this seat, joined (part 4 of 5): an abstract memory for Go programs, this seat's functions as abstract code, and what each of them does. -/
import Derived.Test.YtmnlmjlmbceimaaDoorP3
set_option linter.unusedSimpArgs false
section
/- Digests: one under way. -/
namespace Go.Proofs.YtmnlmjlmbceimaaDoor
open Go Go.Adm
set_option linter.unusedSimpArgs false
set_option linter.unusedVariables false
set_option maxRecDepth 100000
/-- The blocks below m0 are as they were. -/
def Low (m0 : Nat) (m m' : Mem) : Prop := m.length ≤ m'.length ∧ ∀ q, q < m0 → m'[q]? = m[q]?
theorem Low.refl (m0 : Nat) (m : Mem) : Low m0 m m := ⟨Nat.le_refl _, fun _ _ => rfl⟩
theorem Low.trans {m0 : Nat} {a b c : Mem} (h : Low m0 a b) (k : Low m0 b c) : Low m0 a c := ⟨Nat.le_trans h.1 k.1, fun q hq => (k.2 q hq).trans (h.2 q hq)⟩
theorem Low.kept {m0 : Nat} {m m' M : Mem} {Y : List Nat} (h : Low m0 m m') (hk : Kept Y M m) (hM : M.length ≤ m0) : Kept Y M m' :=
  ⟨Nat.le_trans hk.len h.1, fun q h1 h2 => (h.2 q (by omega)).trans (hk.eq q h1 h2)⟩
theorem Low.of_kept {m0 : Nat} {m m' : Mem} {Y : List Nat} (h : Kept Y m m') (hY : ∀ q ∈ Y, m0 ≤ q) (hm : m0 ≤ m.length) : Low m0 m m' :=
  ⟨h.len, fun q hq => h.eq q (by omega) fun hm => by have := hY q hm; omega⟩
theorem Low.of_all {m0 : Nat} {m m' : Mem} (h : ∀ (Y : List Nat) (M : Mem), Kept Y M m → M.length ≤ m0 → Kept Y M m') (hm : m0 ≤ m.length) (hl : m.length ≤ m'.length) : Low m0 m m' := by
  have hk : Kept [] (m.take m0) m := by
    refine ⟨by simp; omega, fun q hq _ => ?_⟩
    simp only [List.length_take] at hq
    rw [List.getElem?_take_of_lt (by omega)]
  have := h _ _ hk (by simp; omega)
  refine ⟨hl, fun q hq => ?_⟩
  rw [this.eq q (by simp; omega) (by simp), List.getElem?_take_of_lt hq]
theorem Low.row {m0 : Nat} {m m' : Mem} (h : Low m0 m m') {b : Nat} {c : List AV} (hr : rowOf m b = some c) (hb : b < m0) : rowOf m' b = some c := rowOf_at hr (h.2 b hb)
theorem Low.rd {m0 : Nat} {m m' : Mem} (h : Low m0 m m') {x : AV} {l : List B8} (hr : RdB m x l) (hb : ∀ b ∈ blkOf x, b < m0) : RdB m' x l := hr.at_ fun b hm => h.2 b (hb b hm)
theorem Low.less {m0 m1 : Nat} {m m' : Mem} (h : Low m0 m m') (h1 : m1 ≤ m0) : Low m1 m m' := ⟨h.1, fun q hq => h.2 q (by omega)⟩
/-- A digest under way: M went by. -/
structure Dig (m0 : Nat) (m : Mem) (h : Nat) (M : List B8) : Prop where
  row : ∃ x, own m h = some ((S8.first.takes M (M.length / 64)).cells ++ [x, .int .i64 M.length]) ∧ GrB m0 m x (M.drop (64 * (M.length / 64))) ∧ h ∉ blkOf x
  low : m0 ≤ h
theorem Dig.kept {m0 : Nat} {m m' : Mem} {h : Nat} {M : List B8} {X : List Nat} (d : Dig m0 m h M) (hk : Kept X m m') (hX : ∀ q ∈ X, q < m0 ∧ False) : Dig m0 m' h M := by
  have : X = [] := by cases X with
    | nil => rfl
    | cons a l => exact absurd (hX a (by simp)).2 id
  subst this
  obtain ⟨x, h1, h2, h3⟩ := d.row
  exact ⟨⟨x, hk.own h1 (by simp), h2.kept0 hk, h3⟩, d.low⟩
theorem Dig.kept0 {m0 : Nat} {m m' : Mem} {h : Nat} {M : List B8} (d : Dig m0 m h M) (hk : Kept [] m m') : Dig m0 m' h M := d.kept hk (by simp)
theorem grb_pushs6 {m0 : Nat} {m : Mem} {x y : AV} {l l2 : List B8} (h : GrB m0 m x l) (hy : RdB m y l2) (hb : l.length + l2.length ≤ 1099511627776) (hm : m0 ≤ m.length) :
    ∃ x' m', aAppend 1 1 x y m = some (x', m') ∧ GrB m0 m' x' (l ++ l2) ∧ Kept (blkOf x) m m' ∧ (∀ (Y : List Nat) (M : Mem), Kept Y M m → M.length ≤ m0 → Kept Y M m') ∧ ∀ b ∈ blkOf x', b ∈ blkOf x ∨ m.length ≤ b := by
  obtain ⟨x', m', h1, h2, h3, h4, h5⟩ := GrA.pushs5 (bytes := 1) h (by omega) hy.elems hy.lenA (by simp) (by simp; omega) hm
  refine ⟨x', m', h1, by simpa [GrB] using h2, h3, h4, ?_⟩
  by_cases hz : l2.length = 0
  · have e := app_none (m := m) (size := 1) (bytes := 1) (s := x) (x := y) (by rw [hy.lenA, hz]) (by rcases h with ⟨_, rfl | ⟨b, rfl, _⟩⟩ | ⟨b, n, _, _, rfl, _⟩ <;> rfl)
    rw [h1] at e; cases e; exact fun b hb => .inl hb
  · exact fun b hb => .inr (h5 (by omega) b hb)
theorem gr_one {sz m0 : Nat} {m : Mem} {x : AV} {c : List AV} (h : GrA sz m0 m x c) : cellsV x = [x] ∧ x.solid = true := by
  rcases h with ⟨_, rfl | ⟨b, rfl, _⟩⟩ | ⟨b, n, _, _, rfl, _⟩ <;> exact ⟨rfl, rfl⟩
theorem S8.cells_eq (s : S8) : s.cells = [b32 s.a, b32 s.b, b32 s.c, b32 s.d, b32 s.e, b32 s.f, b32 s.g, b32 s.h] := rfl
theorem takes_more (s : S8) (M B : List B8) : s.takes (M ++ B) (M.length / 64) = s.takes M (M.length / 64) := takes_congr _ (by
  rw [List.take_append_of_le_length (by omega)])
theorem drop_more (M B : List B8) : (M ++ B).drop (64 * (M.length / 64)) = M.drop (64 * (M.length / 64)) ++ B := List.drop_append_of_le_length (by omega)
theorem grb_drop {m0 : Nat} {m : Mem} {x : AV} {T : List B8} (g : GrB m0 m x T) {k : Nat} (hk : k ≤ T.length) :
    ∃ z, pSlice 1 true false false [x, .int .i64 (k : Int)] = some z ∧ RdB m z (T.drop k) ∧ ∀ b ∈ blkOf z, b ∈ blkOf x := by
  have hr := g.rd
  rcases g with ⟨h0, rfl | ⟨b, rfl, h⟩⟩ | ⟨b, n, h1, h2, rfl, h4, h5⟩
  · obtain rfl : T = [] := by simpa using h0
    obtain rfl : k = 0 := by simpa using hk
    exact ⟨.nils, rfl, hr, fun _ h => h⟩
  · obtain rfl : T = [] := by simpa using h0
    obtain rfl : k = 0 := by simpa using hk
    exact ⟨.sl b 0 0 0 0, rfl, hr, fun _ h => h⟩
  · have e : T.length = n := by simpa using h2
    subst e
    refine ⟨.sl b (0 + k) (T.length - k) (T.length - k) 1, ?_, hr.drop hk, fun _ h => h⟩
    simp only [pSlice, bounds, bnd, or_true, if_true, Option.bind_some, Option.map_some]
    rw [if_pos (show (0 : Int) ≤ (k : Int) ∧ (k : Int) ≤ (T.length : Int) from ⟨by omega, by omega⟩)]
    simp only [Option.map_some, Int.toNat_natCast, Nat.mul_one]
    rfl
theorem ans_shanew (m : Mem) : Ans Tryd.prog 33 [] m fun r m' => r = .ptr m.length 0 ∧ Kept [] m m' ∧ Dig m.length m' m.length [] := by
  refine ans_ret mixed ok33 ?_
  simp -implicitDefEqProofs (disch := (first | omega | (simp only [lenB, wS_len] <;> omega) | fail)) only [admQ, lenB, wS_len, aFill, AK.cls, implies_true, ↓reduceIte, reduceCtorEq, if_true, if_false, Nat.reduceAdd, Nat.reduceEqDiff, Nat.reduceMod, Nat.reduceLT, Nat.reduceLeDiff, Nat.reduceSub, Nat.reduceMul, Nat.reduceBEq, Int.reduceAdd, Int.reduceSub, Int.reduceMul, Int.reduceNeg, Int.reduceLT, Int.reduceLE, Int.reduceToNat, Int.reduceEq, Int.reduceBEq, c33, r33]
  exact ⟨.app _ _ _, ⟨⟨.nils, by rw [own_app_at0]; rfl, .nils .., by simp [blkOf]⟩, Nat.le_refl _⟩⟩
theorem ans_shaadd {m0 : Nat} {m : Mem} {h : Nat} {M B : List B8} {y : AV} (hd : Dig m0 m h M) (hK : rowOf m 0 = some (wds kT)) (h0 : 0 < m0) (hB : RdB m y B) (hy : ∀ b ∈ blkOf y, b < m0) (hlen : M.length + B.length ≤ 1000000000) :
    Ans Tryd.prog 34 [.ptr h 0, y] m fun r m' => r = .tup [] ∧ Low m0 m m' ∧ Dig m0 m' h (M ++ B) := by
  refine ans_ret mixed ok34 ?_
  obtain ⟨x, ho, hx, hnx⟩ := hd.row
  have hlo := own_lt ho
  generalize hs : S8.first.takes M (M.length / 64) = s at ho
  have hc : s.cells = [b32 s.a, b32 s.b, b32 s.c, b32 s.d, b32 s.e, b32 s.f, b32 s.g, b32 s.h] := rfl
  rw [hc] at ho
  simp -implicitDefEqProofs (disch := (first | omega | (simp only [lenB, wS_len] <;> omega) | fail)) only [admQ, lenB, wS_len, aFill, AK.cls, implies_true, ↓reduceIte, reduceCtorEq, if_true, if_false, Nat.reduceAdd, Nat.reduceEqDiff, Nat.reduceMod, Nat.reduceLT, Nat.reduceLeDiff, Nat.reduceSub, Nat.reduceMul, Nat.reduceBEq, Int.reduceAdd, Int.reduceSub, Int.reduceMul, Int.reduceNeg, Int.reduceLT, Int.reduceLE, Int.reduceToNat, Int.reduceEq, Int.reduceBEq, c34, r34, rowOf_own ho, ho, hB.len, own_set hlo, rowOf_own (own_set hlo _), Nat.reduceAdd]
  have hh := hd.low
  have hny : h ∉ blkOf y := fun hm => by have := hy h hm; omega
  generalize hm1 : List.set m h (Blk.row _ false) = m1
  have k0 : Kept [h] m m1 := by subst hm1; exact .set1 _ _ _
  have o1 := own_set hlo [b32 s.a, b32 s.b, b32 s.c, b32 s.d, b32 s.e, b32 s.f, b32 s.g, b32 s.h, x, .int .i64 ↑(M.length + B.length)]
  rw [hm1] at o1
  have l1 : m1.length = m.length := by subst hm1; simp
  clear hm1
  obtain ⟨x1, m2, e1, g1, k1, a1, n1⟩ := grb_pushs6 (hx.kept k0 (by simp only [List.mem_singleton]; rintro b hb rfl; exact hnx hb)) (hB.kept k0 (by rintro b o n cap s rfl; simpa [blkOf, eq_comm] using hny)) (by simp; omega) (by omega)
  refine someW_eq e1 ?_
  have o2 := k1.own o1 hnx
  have hx1 : h ∉ blkOf x1 := fun hm => (n1 h hm).elim hnx (fun h' => by omega)
  simp -implicitDefEqProofs (disch := (first | omega | (simp only [lenB, wS_len] <;> omega) | fail)) only [admQ, lenB, wS_len, aFill, AK.cls, implies_true, ↓reduceIte, reduceCtorEq, if_true, if_false, Nat.reduceAdd, Nat.reduceEqDiff, Nat.reduceMod, Nat.reduceLT, Nat.reduceLeDiff, Nat.reduceSub, Nat.reduceMul, Nat.reduceBEq, Int.reduceAdd, Int.reduceSub, Int.reduceMul, Int.reduceNeg, Int.reduceLT, Int.reduceLE, Int.reduceToNat, Int.reduceEq, Int.reduceBEq, rowOf_own o2, o2, (gr_one g1).1, (gr_one g1).2]
  have w2 : Low m0 m m2 := (Low.of_kept k0 (by simpa using hh) (by omega)).trans (.of_all a1 (by omega) k1.len)
  have hl2 := own_lt o2
  generalize hm3 : List.set m2 h (Blk.row _ false) = m3
  have k3 : Kept [h] m2 m3 := by subst hm3; exact .set1 _ _ _
  have o3 := own_set hl2 [b32 s.a, b32 s.b, b32 s.c, b32 s.d, b32 s.e, b32 s.f, b32 s.g, b32 s.h, x1, .int .i64 ↑(M.length + B.length)]
  rw [hm3] at o3
  clear hm3
  have w3 : Low m0 m m3 := w2.trans (.of_kept k3 (by simpa using hh) (by have := w2.1; omega))
  replace g1 := g1.kept k3 (by simp only [List.mem_singleton]; rintro b hb rfl; exact hx1 hb)
  rw [← drop_more] at g1
  generalize hq : M.length / 64 = q at *
  generalize hT : (M ++ B).drop (64 * q) = T at *
  have hTl : T.length = M.length + B.length - 64 * q := by rw [← hT]; simp
  have hq64 : 64 * q ≤ M.length := by omega
  refine LoopW.on (fun i : Nat => [(0, .ptr h 0), (4, .int .i64 ((64 * i : Nat) : Int))]) (fun i => T.length - 64 * i)
    (fun i m' => 64 * i ≤ T.length ∧ Low m0 m m' ∧ own m' h = some ((S8.first.takes (M ++ B) (q + i)).cells ++ [x1, .int .i64 ↑(M.length + B.length)]) ∧ GrB m0 m' x1 T) ?_ 0 _ _ rfl ⟨by omega, w3, ?_, g1⟩
  · rintro i m' X ⟨hi, w, o, g⟩ hX
    generalize hr : S8.first.takes (M ++ B) (q + i) = r at o
    rw [S8.cells_eq] at o
    have hlo' := own_lt o
    by_cases hlt : 64 * i + 64 ≤ T.length
    · obtain ⟨b, n, rfl, hn0, hn, hb, hb0⟩ := g.sl (by intro e; have : T = [] := List.map_eq_nil_iff.mp e; simp [this] at hlt)
      rw [List.length_map, Nat.mul_one] at hn
      subst hn
      simp -implicitDefEqProofs (disch := (first | omega | (simp only [lenB, wS_len] <;> omega) | fail)) only [admQ, lenB, wS_len, aFill, AK.cls, implies_true, ↓reduceIte, reduceCtorEq, if_true, if_false, Nat.reduceAdd, Nat.reduceEqDiff, Nat.reduceMod, Nat.reduceLT, Nat.reduceLeDiff, Nat.reduceSub, Nat.reduceMul, Nat.reduceBEq, Int.reduceAdd, Int.reduceSub, Int.reduceMul, Int.reduceNeg, Int.reduceLT, Int.reduceLE, Int.reduceToNat, Int.reduceEq, Int.reduceBEq, rowOf_own o, o, own_set hlo', Nat.reduceAdd]
      rw [show 64 * i + 64 - 64 * i = 64 by omega]
      have hrd := (g.rd.drop (k := 64 * i) (by omega)).take (k := 64) (by omega)
      rw [Nat.zero_add] at hrd
      refine (ans_shatake r (w.row hK h0) hrd (by simp; omega)).mono ?_
      rintro _ m4 ⟨rfl, k4⟩
      have o4 := k4.own o (by simp)
      have hl4 := own_lt o4
      simp -implicitDefEqProofs (disch := (first | omega | (simp only [lenB, wS_len] <;> omega) | fail)) only [admQ, lenB, wS_len, aFill, AK.cls, implies_true, ↓reduceIte, reduceCtorEq, if_true, if_false, Nat.reduceAdd, Nat.reduceEqDiff, Nat.reduceMod, Nat.reduceLT, Nat.reduceLeDiff, Nat.reduceSub, Nat.reduceMul, Nat.reduceBEq, Int.reduceAdd, Int.reduceSub, Int.reduceMul, Int.reduceNeg, Int.reduceLT, Int.reduceLE, Int.reduceToNat, Int.reduceEq, Int.reduceBEq, rowOf_own o4, o4, S8.cells_eq, rowOf_own o, Nat.reduceAdd]
      have hml : m0 ≤ m'.length := by omega
      have hml4 := k4.len
      refine hX (i + 1) _ _ rfl (by omega) ⟨by omega, w.trans ((Low.of_kept k4 (by simp) hml).trans (.of_kept (.set1 _ h _) (by simpa using hh) (by omega))), ?_, (g.kept0 k4).kept (.set1 _ h _) (by simp only [List.mem_singleton]; rintro b' hb' rfl; exact hx1 hb')⟩
      rw [own_set hl4, ← Nat.add_assoc, S8.takes, hr, show (M ++ B).drop (64 * (q + i)) = T.drop (64 * i) by rw [← hT, List.drop_drop, Nat.mul_add]]
      rfl
    · have hrow := fun e => (Kept.app [] m' e).row (rowOf_own o) (by simp)
      obtain ⟨z, hz, hzr, hzb⟩ := grb_drop g hi
      simp -implicitDefEqProofs (disch := (first | omega | (simp only [lenB, wS_len] <;> omega) | fail)) only [admQ, lenB, wS_len, aFill, AK.cls, implies_true, ↓reduceIte, reduceCtorEq, if_true, if_false, Nat.reduceAdd, Nat.reduceEqDiff, Nat.reduceMod, Nat.reduceLT, Nat.reduceLeDiff, Nat.reduceSub, Nat.reduceMul, Nat.reduceBEq, Int.reduceAdd, Int.reduceSub, Int.reduceMul, Int.reduceNeg, Int.reduceLT, Int.reduceLE, Int.reduceToNat, Int.reduceEq, Int.reduceBEq, rowOf_own o, o, g.len, hrow, hz]
      have gz : GrB m0 (m' ++ [Blk.row [] false]) (.sl m'.length 0 0 0 0) [] := .zero (by rw [own_app_at0]; rfl)
      obtain ⟨x2, m5, e5, g5, k5, a5, n5⟩ := grb_pushs6 gz (hzr.app _) (by simp; omega) (by simp; omega)
      refine someW_eq e5 ?_
      have o5 := k5.own ((Kept.app [] m' _).own o (by simp)) (by simp [blkOf]; omega)
      have hl5 := own_lt o5
      have hx2 : h ∉ blkOf x2 := fun hm => (n5 h hm).elim (by simp [blkOf]; omega) (by simp; omega)
      simp -implicitDefEqProofs (disch := (first | omega | (simp only [lenB, wS_len] <;> omega) | fail)) only [admQ, lenB, wS_len, aFill, AK.cls, implies_true, ↓reduceIte, reduceCtorEq, if_true, if_false, Nat.reduceAdd, Nat.reduceEqDiff, Nat.reduceMod, Nat.reduceLT, Nat.reduceLeDiff, Nat.reduceSub, Nat.reduceMul, Nat.reduceBEq, Int.reduceAdd, Int.reduceSub, Int.reduceMul, Int.reduceNeg, Int.reduceLT, Int.reduceLE, Int.reduceToNat, Int.reduceEq, Int.reduceBEq, rowOf_own o5, o5, (gr_one g5).1, (gr_one g5).2]
      have hml : m0 ≤ m'.length := by omega
      have hml5 := k5.len
      simp only [List.length_append, List.length_singleton] at hml5
      have hqi : (M ++ B).length / 64 = q + i := by simp only [List.length_append]; omega
      refine ⟨w.trans ((Low.of_kept (.app [] m' _) (by simp) hml).trans ((Low.of_all a5 (by simp; omega) k5.len).trans (.of_kept (.set1 _ h _) (by simpa using hh) (by omega)))), ⟨⟨x2, ?_, ?_, hx2⟩, hh⟩⟩
      · rw [own_set hl5, hqi, hr, List.length_append]; rfl
      · rw [hqi, show (M ++ B).drop (64 * (q + i)) = T.drop (64 * i) by rw [← hT, List.drop_drop, Nat.mul_add]]
        exact g5.kept (.set1 _ h _) (by simp only [List.mem_singleton]; rintro b' hb' rfl; exact hx2 hb')
  · rw [o3, Nat.add_zero, ← hq, takes_more, hq, hs]; rfl
end Go.Proofs.YtmnlmjlmbceimaaDoor
end
section
/- Digests: the sum. -/
namespace Go.Proofs.YtmnlmjlmbceimaaDoor
open Go Go.Adm
set_option linter.unusedSimpArgs false
set_option linter.unusedVariables false
set_option maxRecDepth 100000
/-- The list behind a digest's text, as far as it is laid. -/
def shaTail (M : List B8) : List B8 := M.drop (64 * (M.length / 64))
theorem shaTail_len (M : List B8) : (shaTail M).length = M.length % 64 := by simp [shaTail]; omega
theorem ans_shasum {m0 : Nat} {m : Mem} {h : Nat} {M : List B8} (hd : Dig m0 m h M) (hK : rowOf m 0 = some (wds kT)) (hlen : M.length ≤ 1000000000) :
    Ans Tryd.prog 35 [.ptr h 0] m fun r m' => r = .agg (bys (shaB M)) ∧ Kept [] m m' := by
  refine ans_ret mixed ok35 ?_
  obtain ⟨x, ho, hx, hnx⟩ := hd.row
  have hlo := own_lt ho
  rw [← shaTail] at hx
  generalize hs : S8.first.takes M (M.length / 64) = s at ho
  rw [S8.cells_eq] at ho
  have hrow := fun e => (Kept.app [] m e).row (rowOf_own ho) (by simp)
  have hhm : h < m.length := hlo
  simp -implicitDefEqProofs (disch := (first | omega | (simp only [lenB, wS_len] <;> omega) | fail)) only [admQ, lenB, wS_len, aFill, AK.cls, implies_true, ↓reduceIte, reduceCtorEq, if_true, if_false, Nat.reduceAdd, Nat.reduceEqDiff, Nat.reduceMod, Nat.reduceLT, Nat.reduceLeDiff, Nat.reduceSub, Nat.reduceMul, Nat.reduceBEq, Int.reduceAdd, Int.reduceSub, Int.reduceMul, Int.reduceNeg, Int.reduceLT, Int.reduceLE, Int.reduceToNat, Int.reduceEq, Int.reduceBEq, c35, r35, hrow]
  have hA : (m ++ [Blk.row (bys (List.replicate 32 0#8)) false]).length = m.length + 1 := by simp
  have oA : own (m ++ [Blk.row (bys (List.replicate 32 0#8)) false]) m.length = some (bys (List.replicate 32 0#8)) := by rw [own_app_at0]; rfl
  have kA : Kept [] m (m ++ [Blk.row (bys (List.replicate 32 0#8)) false]) := .app _ _ _
  rw [show m ++ [Blk.row (bys (List.replicate 32 0#8)) false, Blk.row [] false] = (m ++ [Blk.row (bys (List.replicate 32 0#8)) false]) ++ [Blk.row [] false] by simp]
  generalize m ++ [Blk.row (bys (List.replicate 32 0#8)) false] = A at hA oA kA
  have gz : GrB A.length (A ++ [Blk.row [] false]) (.sl (m.length + 1) 0 0 0 0) [] := .zero (by rw [← hA, own_app_at0]; rfl)
  have hxr : RdB (A ++ [Blk.row [] false]) x (shaTail M) := (hx.rd.kept0 kA).app _
  have htl := shaTail_len M
  obtain ⟨x1, m2, e1, g1, k1, a1, n1⟩ := grb_pushs6 gz hxr (by simp; omega) (by simp)
  refine someW_eq e1 ?_
  have w1 : Low A.length A m2 := (Low.of_kept (.app [] A _) (by simp) (Nat.le_refl _)).trans (.of_all a1 (by simp) k1.len)
  rw [List.nil_append] at g1
  have lenm2 := w1.1
  clear k1 a1 n1 e1 gz hxr
  simp -implicitDefEqProofs (disch := (first | omega | (simp only [lenB, wS_len] <;> omega) | fail)) only [admQ, lenB, wS_len, aFill, AK.cls, implies_true, ↓reduceIte, reduceCtorEq, if_true, if_false, Nat.reduceAdd, Nat.reduceEqDiff, Nat.reduceMod, Nat.reduceLT, Nat.reduceLeDiff, Nat.reduceSub, Nat.reduceMul, Nat.reduceBEq, Int.reduceAdd, Int.reduceSub, Int.reduceMul, Int.reduceNeg, Int.reduceLT, Int.reduceLE, Int.reduceToNat, Int.reduceEq, Int.reduceBEq]
  obtain ⟨x2, m3, e2, g2, k2, a2⟩ := g1.push 0x80#8 (by omega) (by omega)
  refine someW_eq e2 ?_
  have w2 : Low A.length A m3 := w1.trans (.of_all a2 (by omega) k2.len)
  clear e2 a2 k2 g1 w1 lenm2
  simp -implicitDefEqProofs (disch := (first | omega | (simp only [lenB, wS_len] <;> omega) | fail)) only [admQ, lenB, wS_len, aFill, AK.cls, implies_true, ↓reduceIte, reduceCtorEq, if_true, if_false, Nat.reduceAdd, Nat.reduceEqDiff, Nat.reduceMod, Nat.reduceLT, Nat.reduceLeDiff, Nat.reduceSub, Nat.reduceMul, Nat.reduceBEq, Int.reduceAdd, Int.reduceSub, Int.reduceMul, Int.reduceNeg, Int.reduceLT, Int.reduceLE, Int.reduceToNat, Int.reduceEq, Int.reduceBEq]
  have w : Low A.length A m3 := w2
  clear w2
  refine LoopW.on (fun t : Nat × AV => [(0, .ptr h 0), (2, .ptr m.length 0), (3, t.2)]) (fun t => padZ M.length - t.1)
    (fun t m' => t.1 ≤ padZ M.length ∧ Low A.length A m' ∧ GrB A.length m' t.2 (shaTail M ++ [0x80#8] ++ List.replicate t.1 0#8)) ?_ (0, x2) _ _ rfl ⟨by omega, w, by simpa using g2⟩
  clear w g2
  rintro ⟨j, x1⟩ m1 X ⟨hj, w, g⟩ hX
  change GrB A.length m1 x1 (shaTail M ++ [0x80#8] ++ List.replicate j 0#8) at g
  simp only at hj
  have hpz : padZ M.length < 64 := Nat.mod_lt _ (by omega)
  have hfl : (shaTail M ++ [0x80#8] ++ List.replicate j 0#8).length = M.length % 64 + 1 + j := by simp [htl]; omega
  by_cases hlt : j < padZ M.length
  · have hne : (M.length % 64 + 1 + j) % 64 ≠ 56 := by unfold padZ at *; omega
    simp -implicitDefEqProofs (disch := (first | omega | (simp only [lenB, wS_len] <;> omega) | fail)) only [admQ, lenB, wS_len, aFill, AK.cls, implies_true, ↓reduceIte, reduceCtorEq, if_true, if_false, Nat.reduceAdd, Nat.reduceEqDiff, Nat.reduceMod, Nat.reduceLT, Nat.reduceLeDiff, Nat.reduceSub, Nat.reduceMul, Nat.reduceBEq, Int.reduceAdd, Int.reduceSub, Int.reduceMul, Int.reduceNeg, Int.reduceLT, Int.reduceLE, Int.reduceToNat, Int.reduceEq, Int.reduceBEq, g.len, hfl]
    obtain ⟨x2, m2, e2, g2, k2, a2⟩ := g.push 0#8 (by omega) (by have := w.1; omega)
    refine someW_eq e2 ?_
    simp -implicitDefEqProofs (disch := (first | omega | (simp only [lenB, wS_len] <;> omega) | fail)) only [admQ, lenB, wS_len, aFill, AK.cls, implies_true, ↓reduceIte, reduceCtorEq, if_true, if_false, Nat.reduceAdd, Nat.reduceEqDiff, Nat.reduceMod, Nat.reduceLT, Nat.reduceLeDiff, Nat.reduceSub, Nat.reduceMul, Nat.reduceBEq, Int.reduceAdd, Int.reduceSub, Int.reduceMul, Int.reduceNeg, Int.reduceLT, Int.reduceLE, Int.reduceToNat, Int.reduceEq, Int.reduceBEq]
    refine hX (j + 1, x2) _ _ rfl (by simp only; omega) ⟨by simp only; omega, w.trans (.of_all a2 w.1 k2.len), ?_⟩
    rw [List.replicate_succ', ← List.append_assoc]; exact g2
  · obtain rfl : j = padZ M.length := by omega
    have hne : (M.length % 64 + 1 + padZ M.length) % 64 = 56 := by unfold padZ; omega
    have hrow' := w.row (kA.row (rowOf_own ho) (by simp)) (by omega)
    simp -implicitDefEqProofs (disch := (first | omega | (simp only [lenB, wS_len] <;> omega) | fail)) only [admQ, lenB, wS_len, aFill, AK.cls, implies_true, ↓reduceIte, reduceCtorEq, if_true, if_false, Nat.reduceAdd, Nat.reduceEqDiff, Nat.reduceMod, Nat.reduceLT, Nat.reduceLeDiff, Nat.reduceSub, Nat.reduceMul, Nat.reduceBEq, Int.reduceAdd, Int.reduceSub, Int.reduceMul, Int.reduceNeg, Int.reduceLT, Int.reduceLE, Int.reduceToNat, Int.reduceEq, Int.reduceBEq, g.len, hfl, hrow', @w64]
    rw [Nat.mul_comm M.length 8]
    have hv : 8 * M.length < 18446744073709551616 := by omega
    have hpad : ∀ n, n ≤ 8 → True := fun _ _ => trivial
    have hfin : shaTail M ++ [0x80#8] ++ List.replicate (padZ M.length) 0#8 ++ tab 8 (fun i => byV (8 * M.length) (7 - i)) = shaTail M ++ pad M.length := by
      simp [pad, lowB]
    generalize shaTail M ++ [0x80#8] ++ List.replicate (padZ M.length) 0#8 = P at g hfl hfin
    generalize 8 * M.length = v at hv hfin
    clear hX X
    refine LoopW.on (fun t : Nat × AV => [(0, .ptr h 0), (2, .ptr m.length 0), (3, t.2), (4, .int .u64 v), (5, .int .i64 (56 - 8 * (t.1 : Int)))]) (fun t => 8 - t.1)
      (fun t m' => t.1 ≤ 8 ∧ Low A.length A m' ∧ GrB A.length m' t.2 (P ++ tab t.1 (fun i => byV v (7 - i)))) ?_ (0, x1) _ _ rfl ⟨by simp, w, by simpa [tab] using g⟩
    clear w g
    rintro ⟨k, x2⟩ m2 X ⟨hk, w, g⟩ hX
    change GrB A.length m2 x2 (P ++ tab k (fun i => byV v (7 - i))) at g
    simp only at hk
    by_cases hlt : k < 8
    · rw [show (56 - 8 * (k : Int)) = ((8 * (7 - k) : Nat) : Int) by omega]
      have hw : IntKind.u8.wrap ((v >>> (8 * (7 - k)) : Nat) : Int) = ((byV v (7 - k)).toNat : Int) := wrap_u8 _
      simp -implicitDefEqProofs (disch := (first | omega | (simp only [lenB, wS_len] <;> omega) | fail)) only [admQ, lenB, wS_len, aFill, AK.cls, implies_true, ↓reduceIte, reduceCtorEq, if_true, if_false, Nat.reduceAdd, Nat.reduceEqDiff, Nat.reduceMod, Nat.reduceLT, Nat.reduceLeDiff, Nat.reduceSub, Nat.reduceMul, Nat.reduceBEq, Int.reduceAdd, Int.reduceSub, Int.reduceMul, Int.reduceNeg, Int.reduceLT, Int.reduceLE, Int.reduceToNat, Int.reduceEq, Int.reduceBEq, fdiv_nat, hw]
      obtain ⟨x3, m3, e3, g3, k3, a3⟩ := g.push (byV v (7 - k)) (by simp [tab_len]; omega) (by have := w.1; omega)
      refine someW_eq e3 ?_
      simp -implicitDefEqProofs (disch := (first | omega | (simp only [lenB, wS_len] <;> omega) | fail)) only [admQ, lenB, wS_len, aFill, AK.cls, implies_true, ↓reduceIte, reduceCtorEq, if_true, if_false, Nat.reduceAdd, Nat.reduceEqDiff, Nat.reduceMod, Nat.reduceLT, Nat.reduceLeDiff, Nat.reduceSub, Nat.reduceMul, Nat.reduceBEq, Int.reduceAdd, Int.reduceSub, Int.reduceMul, Int.reduceNeg, Int.reduceLT, Int.reduceLE, Int.reduceToNat, Int.reduceEq, Int.reduceBEq]
      rw [show ((8 * (7 - k) : Nat) : Int) - 8 = 56 - 8 * ((k + 1 : Nat) : Int) by omega]
      refine hX (k + 1, x3) _ _ rfl (by simp only; omega) ⟨by simp only; omega, w.trans (.of_all a3 w.1 k3.len), ?_⟩
      show GrB A.length m3 x3 (P ++ tab (k + 1) _)
      rw [tab_succ, ← List.append_assoc]; exact g3
    · obtain rfl : k = 8 := by omega
      rw [hfin] at g
      have hrow' := w.row (kA.row (rowOf_own ho) (by simp)) (by omega)
      simp -implicitDefEqProofs (disch := (first | omega | (simp only [lenB, wS_len] <;> omega) | fail)) only [admQ, lenB, wS_len, aFill, AK.cls, implies_true, ↓reduceIte, reduceCtorEq, if_true, if_false, Nat.reduceAdd, Nat.reduceEqDiff, Nat.reduceMod, Nat.reduceLT, Nat.reduceLeDiff, Nat.reduceSub, Nat.reduceMul, Nat.reduceBEq, Int.reduceAdd, Int.reduceSub, Int.reduceMul, Int.reduceNeg, Int.reduceLT, Int.reduceLE, Int.reduceToNat, Int.reduceEq, Int.reduceBEq, hrow', Nat.reduceAdd]
      clear hX X hrow'
      have hsum : ∀ n, s.takes (shaTail M ++ pad M.length) n = S8.first.takes (M ++ pad M.length) (M.length / 64 + n) := fun n => by
        rw [takes_add, takes_more, drop_more, hs]; rfl
      have hFl : (shaTail M ++ pad M.length).length = M.length % 64 + (padZ M.length + 9) := by rw [List.length_append, htl, pad_len]
      have hFp : (pad M.length).length = padZ M.length + 9 := pad_len _
      generalize shaTail M ++ pad M.length = F at g hsum hFl
      have hF0 : F ≠ [] := by rintro rfl; simp at hFl
      have hF64 : F.length % 64 = 0 := by rw [hFl]; omega
      obtain ⟨b, n, rfl, hn0, hn, hb, hb0⟩ := g.sl (by simpa using hF0)
      rw [List.length_map, Nat.mul_one] at hn
      subst hn
      have hbl := own_lt hb
      have hA2 := w.1
      rw [← S8.cells_eq]
      refine LoopW.on (fun i : Nat => [(2, .ptr m.length 0), (3, .sl b (64 * i) (F.length - 64 * i) (F.length - 64 * i) 1), (6, .ptr m2.length 0)]) (fun i => F.length - 64 * i)
        (fun i m' => 64 * i ≤ F.length ∧ Low A.length A m' ∧ own m' m2.length = some (s.takes F i).cells ∧ rowOf m' b = some (bys F)) ?_ 0 _ _ rfl ⟨by omega, w.trans (.of_kept (.app [] _ _) (by simp) hA2), by rw [own_app_at0]; rfl, (Kept.app [] m2 _).row (rowOf_own hb) (by simp)⟩
      clear w g hb
      rintro i m' X ⟨hi, w, o, rb⟩ hX
      by_cases hlt : 64 * i < F.length
      · generalize hr : s.takes F i = r at o
        rw [S8.cells_eq] at o
        have hlo' := own_lt o
        have hrd := ((RdB.row F.length 1 rb (Nat.le_refl _)).drop (k := 64 * i) hi).take (k := 64) (by omega)
        rw [Nat.zero_add] at hrd
        simp -implicitDefEqProofs (disch := (first | omega | (simp only [lenB, wS_len] <;> omega) | fail)) only [admQ, lenB, wS_len, aFill, AK.cls, implies_true, ↓reduceIte, reduceCtorEq, if_true, if_false, Nat.reduceAdd, Nat.reduceEqDiff, Nat.reduceMod, Nat.reduceLT, Nat.reduceLeDiff, Nat.reduceSub, Nat.reduceMul, Nat.reduceBEq, Int.reduceAdd, Int.reduceSub, Int.reduceMul, Int.reduceNeg, Int.reduceLT, Int.reduceLE, Int.reduceToNat, Int.reduceEq, Int.reduceBEq, rowOf_own o, o]
        refine (ans_shatake r (w.row (kA.row hK (by simp)) (by omega)) hrd (by simp; omega)).mono ?_
        rintro _ m4 ⟨rfl, k4⟩
        have o4 := k4.own o (by simp)
        have hl4 := own_lt o4
        simp -implicitDefEqProofs (disch := (first | omega | (simp only [lenB, wS_len] <;> omega) | fail)) only [admQ, lenB, wS_len, aFill, AK.cls, implies_true, ↓reduceIte, reduceCtorEq, if_true, if_false, Nat.reduceAdd, Nat.reduceEqDiff, Nat.reduceMod, Nat.reduceLT, Nat.reduceLeDiff, Nat.reduceSub, Nat.reduceMul, Nat.reduceBEq, Int.reduceAdd, Int.reduceSub, Int.reduceMul, Int.reduceNeg, Int.reduceLT, Int.reduceLE, Int.reduceToNat, Int.reduceEq, Int.reduceBEq, rowOf_own o4, o4, S8.cells_eq, rowOf_own o, Nat.reduceAdd]
        rw [show F.length - 64 * i - 64 = F.length - 64 * (i + 1) by omega]
        have hml4 := k4.len
        have hw1 := w.1
        refine hX (i + 1) _ _ rfl (by omega) ⟨by omega, w.trans ((Low.of_kept k4 (by simp) hw1).trans (.of_kept (.set1 _ m2.length _) (by simpa using hA2) (by omega))), ?_, (Kept.set1 _ m2.length _).row (k4.row rb (by simp)) (by simp; omega)⟩
        rw [own_set hl4, S8.takes, hr]; rfl
      · have hFi : F.length = 64 * i := by omega
        have hres : (s.takes F i).out = shaB M := by
          rw [hsum, shaB]
          congr 2
          omega
        generalize s.takes F i = r at o hres
        simp -implicitDefEqProofs (disch := (first | omega | (simp only [lenB, wS_len] <;> omega) | fail)) only [admQ, lenB, wS_len, aFill, AK.cls, implies_true, ↓reduceIte, reduceCtorEq, if_true, if_false, Nat.reduceAdd, Nat.reduceEqDiff, Nat.reduceMod, Nat.reduceLT, Nat.reduceLeDiff, Nat.reduceSub, Nat.reduceMul, Nat.reduceBEq, Int.reduceAdd, Int.reduceSub, Int.reduceMul, Int.reduceNeg, Int.reduceLT, Int.reduceLE, Int.reduceToNat, Int.reduceEq, Int.reduceBEq]
        clear hX X
        have hl6 := own_lt o
        have hw1 := w.1
        rw [← tab_const, ← upTo_zero 32 (fun j => (gw r.l (j / 4) >>> (24 - 8 * (j % 4))).setWidth 8) (fun _ => 0#8)] 
        refine LoopW.on (fun i : Nat => [(2, .ptr m.length 0), (6, .ptr m2.length 0), (7, .ptr m'.length 0), (54, .int .i64 i)]) (fun i => 32 - i)
          (fun i M' => i ≤ 32 ∧ Low A.length A M' ∧ own M' m2.length = some r.cells ∧ own M' m'.length = some (bys (upTo 32 (fun j => (gw r.l (j / 4) >>> (24 - 8 * (j % 4))).setWidth 8) (fun _ => 0#8) i))) ?_ 0 _ _ rfl ⟨by omega, w.trans (.of_kept (.app [] m' _) (by simp) hw1), (Kept.app [] m' _).own o (by simp), by rw [own_app_at0]; rfl⟩
        clear w o
        rintro j M' X ⟨hj, w, o, op⟩ hX
        by_cases hlt : j < 32
        · have hu := upTo_set (n := 32) (i := j) (f := fun j => (gw r.l (j / 4) >>> (24 - 8 * (j % 4))).setWidth 8) (g := fun _ => 0#8)
          have hca : r.cells[j / 4]? = some (b32 (gw r.l (j / 4))) := wds_at (show j / 4 < 8 by omega)
          have hlp := own_lt op
          simp -implicitDefEqProofs (disch := (first | omega | (simp only [lenB, wS_len] <;> omega) | fail)) only [admQ, lenB, wS_len, aFill, AK.cls, implies_true, ↓reduceIte, reduceCtorEq, if_true, if_false, Nat.reduceAdd, Nat.reduceEqDiff, Nat.reduceMod, Nat.reduceLT, Nat.reduceLeDiff, Nat.reduceSub, Nat.reduceMul, Nat.reduceBEq, Int.reduceAdd, Int.reduceSub, Int.reduceMul, Int.reduceNeg, Int.reduceLT, Int.reduceLE, Int.reduceToNat, Int.reduceEq, Int.reduceBEq, rowOf_own o, op, hca, u32R, splice_byte, hu]
          have hlm := w.1
          refine hX (j + 1) _ _ rfl (by omega) ⟨by omega, w.trans (.of_kept (.set1 _ m'.length _) (by simpa using hw1) (by omega)), (Kept.set1 _ m'.length _).own o (by simp; omega), own_set hlp _⟩
        · obtain rfl : j = 32 := by omega
          rw [upTo_all] at op
          have oA' : own M' m.length = some (bys (List.replicate 32 0#8)) := by unfold own at *; rw [w.2 _ (by omega)]; exact oA
          have hdef : r.out = tab 32 fun j => (gw r.l (j / 4) >>> (24 - 8 * (j % 4))).setWidth 8 := rfl
          rw [← hdef, hres] at op
          have hsl := shaB_len M
          simp -implicitDefEqProofs (disch := (first | omega | (simp only [lenB, wS_len] <;> omega) | fail)) only [admQ, lenB, wS_len, aFill, AK.cls, implies_true, ↓reduceIte, reduceCtorEq, if_true, if_false, Nat.reduceAdd, Nat.reduceEqDiff, Nat.reduceMod, Nat.reduceLT, Nat.reduceLeDiff, Nat.reduceSub, Nat.reduceMul, Nat.reduceBEq, Int.reduceAdd, Int.reduceSub, Int.reduceMul, Int.reduceNeg, Int.reduceLT, Int.reduceLE, Int.reduceToNat, Int.reduceEq, Int.reduceBEq, rowOf_own op, op, oA', own_set (own_lt oA'), rowOf_own (own_set (own_lt oA') _)]
          exact (w.kept kA (by omega)).write (.inr (Nat.le_refl _)) _
end Go.Proofs.YtmnlmjlmbceimaaDoor
end
section
/- Digests of bytes; sums under a key. -/
namespace Go.Proofs.YtmnlmjlmbceimaaDoor
open Go Go.Adm
set_option linter.unusedSimpArgs false
set_option linter.unusedVariables false
set_option maxRecDepth 100000
theorem ans_shaof {m : Mem} {y : AV} {B : List B8} (hK : rowOf m 0 = some (wds kT)) (hB : RdB m y B) (hlen : B.length ≤ 1000000000) :
    Ans Tryd.prog 36 [y] m fun r m' => r = .agg (bys (shaB B)) ∧ Kept [] m m' := by
  refine ans_ret mixed ok36 ?_
  have h0 := rowOf_lt hK
  simp -implicitDefEqProofs (disch := (first | omega | (simp only [lenB, shaB_len] <;> omega) | fail)) only [admQ, lenB, shaB_len, aFill, AK.cls, implies_true, ↓reduceIte, reduceCtorEq, if_true, if_false, Nat.reduceAdd, Nat.reduceEqDiff, Nat.reduceMod, Nat.reduceLT, Nat.reduceLeDiff, Nat.reduceSub, Nat.reduceMul, Nat.reduceBEq, Int.reduceAdd, Int.reduceSub, Int.reduceMul, Int.reduceNeg, Int.reduceLT, Int.reduceLE, Int.reduceToNat, Int.reduceEq, Int.reduceBEq, c36, r36]
  have hA : (m ++ [Blk.row (bys (List.replicate 32 0#8)) false]).length = m.length + 1 := by simp
  have oA : own (m ++ [Blk.row (bys (List.replicate 32 0#8)) false]) m.length = some (bys (List.replicate 32 0#8)) := by rw [own_app_at0]; rfl
  have kA : Kept [] m (m ++ [Blk.row (bys (List.replicate 32 0#8)) false]) := .app _ _ _
  generalize m ++ [Blk.row (bys (List.replicate 32 0#8)) false] = A at hA oA kA
  refine (ans_shanew _).mono ?_
  rintro _ m1 ⟨rfl, k1, d1⟩
  simp -implicitDefEqProofs (disch := (first | omega | (simp only [lenB, shaB_len] <;> omega) | fail)) only [admQ, lenB, shaB_len, aFill, AK.cls, implies_true, ↓reduceIte, reduceCtorEq, if_true, if_false, Nat.reduceAdd, Nat.reduceEqDiff, Nat.reduceMod, Nat.reduceLT, Nat.reduceLeDiff, Nat.reduceSub, Nat.reduceMul, Nat.reduceBEq, Int.reduceAdd, Int.reduceSub, Int.reduceMul, Int.reduceNeg, Int.reduceLT, Int.reduceLE, Int.reduceToNat, Int.reduceEq, Int.reduceBEq]
  refine (ans_shaadd d1 ((kA.trans k1).row hK (by simp)) (by omega) ((hB.kept0 kA).kept0 k1) (fun b hb => by have := hB.blk_lt b hb; omega) (by simpa using hlen)).mono ?_
  rintro _ m2 ⟨rfl, w2, d2⟩
  rw [List.nil_append] at d2
  have w2' : Low A.length A m2 := ⟨Nat.le_trans k1.len w2.1, fun q hq => (w2.2 q hq).trans (k1.eq q hq (by simp))⟩
  simp -implicitDefEqProofs (disch := (first | omega | (simp only [lenB, shaB_len] <;> omega) | fail)) only [admQ, lenB, shaB_len, aFill, AK.cls, implies_true, ↓reduceIte, reduceCtorEq, if_true, if_false, Nat.reduceAdd, Nat.reduceEqDiff, Nat.reduceMod, Nat.reduceLT, Nat.reduceLeDiff, Nat.reduceSub, Nat.reduceMul, Nat.reduceBEq, Int.reduceAdd, Int.reduceSub, Int.reduceMul, Int.reduceNeg, Int.reduceLT, Int.reduceLE, Int.reduceToNat, Int.reduceEq, Int.reduceBEq]
  refine (ans_shasum d2 (w2.row ((kA.trans k1).row hK (by simp)) (by omega)) (by simpa using hlen)).mono ?_
  rintro _ m3 ⟨rfl, k3⟩
  have w3 : Low A.length A m3 := w2'.trans (.of_kept k3 (by simp) w2'.1)
  have oA' : own m3 m.length = some (bys (List.replicate 32 0#8)) := by unfold own at *; rw [w3.2 _ (by omega)]; exact oA
  have hsl := shaB_len B
  simp -implicitDefEqProofs (disch := (first | omega | (simp only [lenB, shaB_len] <;> omega) | fail)) only [admQ, lenB, shaB_len, aFill, AK.cls, implies_true, ↓reduceIte, reduceCtorEq, if_true, if_false, Nat.reduceAdd, Nat.reduceEqDiff, Nat.reduceMod, Nat.reduceLT, Nat.reduceLeDiff, Nat.reduceSub, Nat.reduceMul, Nat.reduceBEq, Int.reduceAdd, Int.reduceSub, Int.reduceMul, Int.reduceNeg, Int.reduceLT, Int.reduceLE, Int.reduceToNat, Int.reduceEq, Int.reduceBEq, oA', own_set (own_lt oA'), rowOf_own (own_set (own_lt oA') _)]
  exact (w3.kept kA (by omega)).write (.inr (Nat.le_refl _)) _
/-- A key's block, each byte xored. -/
def keyB (key : List B8) : List B8 := if 64 < key.length then shaB key ++ List.replicate 32 0#8 else key ++ List.replicate (64 - key.length) 0#8
theorem keyB_len (key : List B8) : (keyB key).length = 64 := by unfold keyB; split <;> simp [shaB_len] <;> omega
def blkX (key : List B8) (x : B8) : List B8 := tab 64 fun i => gb (keyB key) i ^^^ x
theorem blkX_len (key : List B8) (x : B8) : (blkX key x).length = 64 := tab_len _ _
def macB (key b : List B8) : List B8 := shaB (blkX key 92#8 ++ shaB (blkX key 54#8 ++ b))
theorem macB_len (key b : List B8) : (macB key b).length = 32 := shaB_len _
theorem splice_front {L : List B8} {n : Nat} (h : L.length ≤ n) : splice (bys (List.replicate n 0#8)) 0 (bys L) = bys (L ++ List.replicate (n - L.length) 0#8) := by
  simp [splice, List.map_append]
theorem ans_macblk {m : Mem} {y : AV} {key : List B8} (x : B8) (hK : rowOf m 0 = some (wds kT)) (hB : RdB m y key) (hlen : key.length ≤ 1000000000) :
    Ans Tryd.prog 32 [y, b8 x] m fun r m' => r = .agg (bys (blkX key x)) ∧ Kept [] m m' := by
  refine ans_ret mixed ok32 ?_
  simp -implicitDefEqProofs (disch := (first | omega | (simp only [lenB, shaB_len] <;> omega) | fail)) only [admQ, lenB, shaB_len, aFill, AK.cls, implies_true, ↓reduceIte, reduceCtorEq, if_true, if_false, Nat.reduceAdd, Nat.reduceEqDiff, Nat.reduceMod, Nat.reduceLT, Nat.reduceLeDiff, Nat.reduceSub, Nat.reduceMul, Nat.reduceBEq, Int.reduceAdd, Int.reduceSub, Int.reduceMul, Int.reduceNeg, Int.reduceLT, Int.reduceLE, Int.reduceToNat, Int.reduceEq, Int.reduceBEq, p32, r32]
  have hk0 := Kept.app [] m [Blk.row (bys (List.replicate 64 0#8)) false, Blk.row (bys (List.replicate 64 0#8)) false]
  have o4 : own (m ++ [Blk.row (bys (List.replicate 64 0#8)) false, Blk.row (bys (List.replicate 64 0#8)) false]) m.length = some (bys (List.replicate 64 0#8)) := by rw [own_app_at0]; rfl
  have o5 : own (m ++ [Blk.row (bys (List.replicate 64 0#8)) false, Blk.row (bys (List.replicate 64 0#8)) false]) (m.length + 1) = some (bys (List.replicate 64 0#8)) := by rw [own_app_at]; rfl
  generalize m ++ [Blk.row (bys (List.replicate 64 0#8)) false, Blk.row (bys (List.replicate 64 0#8)) false] = A at hk0 o4 o5
  have hl5 := own_lt o5
  refine wp_join2 [1, 4, 5] (fun _ : Unit => [(1, b8 x), (4, .ptr m.length 0), (5, .ptr (m.length + 1) 0)])
    (fun _ M => Kept [] m M ∧ own M m.length = some (bys (List.replicate 64 0#8)) ∧ own M (m.length + 1) = some (bys (keyB key))) rfl ?_ ?_
  · by_cases hlt : 64 < key.length
    · simp -implicitDefEqProofs (disch := (first | omega | (simp only [lenB, shaB_len] <;> omega) | fail)) only [admQ, lenB, shaB_len, aFill, AK.cls, implies_true, ↓reduceIte, reduceCtorEq, if_true, if_false, Nat.reduceAdd, Nat.reduceEqDiff, Nat.reduceMod, Nat.reduceLT, Nat.reduceLeDiff, Nat.reduceSub, Nat.reduceMul, Nat.reduceBEq, Int.reduceAdd, Int.reduceSub, Int.reduceMul, Int.reduceNeg, Int.reduceLT, Int.reduceLE, Int.reduceToNat, Int.reduceEq, Int.reduceBEq, c32_1, joins, hB.len]
      refine (ans_shaof (hk0.row hK (by simp)) (hB.kept0 hk0) hlen).mono ?_
      rintro _ m1 ⟨rfl, k1⟩
      have o4' := k1.own o4 (by simp)
      have o5' := k1.own o5 (by simp)
      have hsl := shaB_len key
      have hcp := copy_row (o := 0) (ld := 64) (cap := 64) (s := 0) (m := m1 ++ [Blk.row (bys (shaB key)) false]) (.row (l := shaB key) 32 0 (by rw [rowOf_own (c := bys (shaB key))]; rw [own_app_at0]; rfl) (by omega)) (own_app o5' _) (by simp) (by omega)
      rw [hsl] at hcp
      simp -implicitDefEqProofs (disch := (first | omega | (simp only [lenB, shaB_len] <;> omega) | fail)) only [admQ, lenB, shaB_len, aFill, AK.cls, implies_true, ↓reduceIte, reduceCtorEq, if_true, if_false, Nat.reduceAdd, Nat.reduceEqDiff, Nat.reduceMod, Nat.reduceLT, Nat.reduceLeDiff, Nat.reduceSub, Nat.reduceMul, Nat.reduceBEq, Int.reduceAdd, Int.reduceSub, Int.reduceMul, Int.reduceNeg, Int.reduceLT, Int.reduceLE, Int.reduceToNat, Int.reduceEq, Int.reduceBEq, hcp, joins]
      have hl1 := own_lt o5'
      refine ⟨(), ((hk0.trans k1).more_app _).write (.inr (by omega)) _, own_set_ne' (own_app o4' _) (by omega) _, ?_⟩
      rw [own_set (by simp; omega), splice_front (by omega), hsl, keyB, if_pos hlt]
    · simp -implicitDefEqProofs (disch := (first | omega | (simp only [lenB, shaB_len] <;> omega) | fail)) only [admQ, lenB, shaB_len, aFill, AK.cls, implies_true, ↓reduceIte, reduceCtorEq, if_true, if_false, Nat.reduceAdd, Nat.reduceEqDiff, Nat.reduceMod, Nat.reduceLT, Nat.reduceLeDiff, Nat.reduceSub, Nat.reduceMul, Nat.reduceBEq, Int.reduceAdd, Int.reduceSub, Int.reduceMul, Int.reduceNeg, Int.reduceLT, Int.reduceLE, Int.reduceToNat, Int.reduceEq, Int.reduceBEq, c32_1, joins, hB.len]
      rw [copy_row (hB.kept0 hk0) o5 (by simp) (by omega)]
      simp -implicitDefEqProofs (disch := (first | omega | (simp only [lenB, shaB_len] <;> omega) | fail)) only [admQ, lenB, shaB_len, aFill, AK.cls, implies_true, ↓reduceIte, reduceCtorEq, if_true, if_false, Nat.reduceAdd, Nat.reduceEqDiff, Nat.reduceMod, Nat.reduceLT, Nat.reduceLeDiff, Nat.reduceSub, Nat.reduceMul, Nat.reduceBEq, Int.reduceAdd, Int.reduceSub, Int.reduceMul, Int.reduceNeg, Int.reduceLT, Int.reduceLE, Int.reduceToNat, Int.reduceEq, Int.reduceBEq, joins]
      refine ⟨(), hk0.write (.inr (by omega)) _, own_set_ne' o4 (by omega) _, ?_⟩
      rw [own_set hl5, splice_front (by omega), keyB, if_neg hlt]
  · rintro _ M ⟨k, q4, q5⟩
    simp -implicitDefEqProofs (disch := (first | omega | (simp only [lenB, shaB_len] <;> omega) | fail)) only [admQ, lenB, shaB_len, aFill, AK.cls, implies_true, ↓reduceIte, reduceCtorEq, if_true, if_false, Nat.reduceAdd, Nat.reduceEqDiff, Nat.reduceMod, Nat.reduceLT, Nat.reduceLeDiff, Nat.reduceSub, Nat.reduceMul, Nat.reduceBEq, Int.reduceAdd, Int.reduceSub, Int.reduceMul, Int.reduceNeg, Int.reduceLT, Int.reduceLE, Int.reduceToNat, Int.reduceEq, Int.reduceBEq, c32_2]
    have hkl := keyB_len key
    refine LoopW.on (fun i : Nat => [(1, b8 x), (4, .ptr m.length 0), (5, .ptr (m.length + 1) 0), (19, .int .i64 i)]) (fun i => 64 - i)
      (fun i M => i ≤ 64 ∧ Kept [] m M ∧ own M m.length = some (bys (List.replicate 64 0#8)) ∧ own M (m.length + 1) = some (bys (upTo 64 (fun j => gb (keyB key) j ^^^ x) (gb (keyB key)) i))) ?_ 0 _ _ rfl ⟨by omega, k, q4, by rw [upTo_zero, tab_gb hkl]; exact q5⟩
    clear k q4 q5 hk0 o4 o5 hl5
    rintro i M X ⟨hi, k, q4, q5⟩ hX
    have hlM := own_lt q5
    by_cases hlt : i < 64
    · have hu := upTo_set (n := 64) (i := i) (f := fun j => gb (keyB key) j ^^^ x) (g := gb (keyB key))
      simp -implicitDefEqProofs (disch := (first | omega | (simp only [lenB, shaB_len] <;> omega) | fail)) only [admQ, lenB, shaB_len, aFill, AK.cls, implies_true, ↓reduceIte, reduceCtorEq, if_true, if_false, Nat.reduceAdd, Nat.reduceEqDiff, Nat.reduceMod, Nat.reduceLT, Nat.reduceLeDiff, Nat.reduceSub, Nat.reduceMul, Nat.reduceBEq, Int.reduceAdd, Int.reduceSub, Int.reduceMul, Int.reduceNeg, Int.reduceLT, Int.reduceLE, Int.reduceToNat, Int.reduceEq, Int.reduceBEq, rowOf_own q5, q5, splice_byte, hu]
      refine hX (i + 1) _ _ rfl (by omega) ⟨by omega, k.write (.inr (by omega)) _, own_set_ne' q4 (by omega) _, own_set hlM _⟩
    · obtain rfl : i = 64 := by omega
      rw [upTo_all, ← blkX] at q5
      have hbl := blkX_len key x
      simp -implicitDefEqProofs (disch := (first | omega | (simp only [lenB, shaB_len] <;> omega) | fail)) only [admQ, lenB, shaB_len, aFill, AK.cls, implies_true, ↓reduceIte, reduceCtorEq, if_true, if_false, Nat.reduceAdd, Nat.reduceEqDiff, Nat.reduceMod, Nat.reduceLT, Nat.reduceLeDiff, Nat.reduceSub, Nat.reduceMul, Nat.reduceBEq, Int.reduceAdd, Int.reduceSub, Int.reduceMul, Int.reduceNeg, Int.reduceLT, Int.reduceLE, Int.reduceToNat, Int.reduceEq, Int.reduceBEq, rowOf_own q5, q4, own_set (own_lt q4), rowOf_own (own_set (own_lt q4) _)]
      exact k.write (.inr (Nat.le_refl _)) _
end Go.Proofs.YtmnlmjlmbceimaaDoor
end
section
/- Sums under a key. -/
namespace Go.Proofs.YtmnlmjlmbceimaaDoor
open Go Go.Adm
set_option linter.unusedSimpArgs false
set_option linter.unusedVariables false
set_option maxRecDepth 100000
theorem ans_macof {m : Mem} {x y : AV} {key B : List B8} (hK : rowOf m 0 = some (wds kT)) (hx : RdB m x key) (hB : RdB m y B) (hkl : key.length ≤ 1000000000) (hlen : B.length ≤ 900000000) :
    Ans Tryd.prog 25 [x, y] m fun r m' => r = .agg (bys (macB key B)) ∧ Kept [] m m' := by
  refine ans_ret mixed ok25 ?_
  have h0 := rowOf_lt hK
  simp -implicitDefEqProofs (disch := (first | omega | (simp only [lenB, shaB_len, macB_len] <;> omega) | fail)) only [admQ, lenB, shaB_len, macB_len, aFill, AK.cls, implies_true, ↓reduceIte, reduceCtorEq, if_true, if_false, Nat.reduceAdd, Nat.reduceEqDiff, Nat.reduceMod, Nat.reduceLT, Nat.reduceLeDiff, Nat.reduceSub, Nat.reduceMul, Nat.reduceBEq, Int.reduceAdd, Int.reduceSub, Int.reduceMul, Int.reduceNeg, Int.reduceLT, Int.reduceLE, Int.reduceToNat, Int.reduceEq, Int.reduceBEq, c25, r25]
  have k0 := Kept.app [] m [Blk.row (bys (List.replicate 32 0#8)) false]
  have o0 : own (m ++ [Blk.row (bys (List.replicate 32 0#8)) false]) m.length = some (bys (List.replicate 32 0#8)) := by rw [own_app_at0]; rfl
  generalize m ++ [Blk.row (bys (List.replicate 32 0#8)) false] = A0 at k0 o0
  refine (ans_macblk 54#8 (k0.row hK (by simp)) (hx.kept0 k0) hkl).mono ?_
  rintro _ m1 ⟨rfl, k1⟩
  simp -implicitDefEqProofs (disch := (first | omega | (simp only [lenB, shaB_len, macB_len] <;> omega) | fail)) only [admQ, lenB, shaB_len, macB_len, aFill, AK.cls, implies_true, ↓reduceIte, reduceCtorEq, if_true, if_false, Nat.reduceAdd, Nat.reduceEqDiff, Nat.reduceMod, Nat.reduceLT, Nat.reduceLeDiff, Nat.reduceSub, Nat.reduceMul, Nat.reduceBEq, Int.reduceAdd, Int.reduceSub, Int.reduceMul, Int.reduceNeg, Int.reduceLT, Int.reduceLE, Int.reduceToNat, Int.reduceEq, Int.reduceBEq]
  refine (ans_macblk 92#8 ((k0.trans k1).row hK (by simp)) (hx.kept0 (k0.trans k1)) hkl).mono ?_
  rintro _ m2 ⟨rfl, k2⟩
  have li := blkX_len key 54#8
  have lo := blkX_len key 92#8
  simp -implicitDefEqProofs (disch := (first | omega | (simp only [lenB, shaB_len, macB_len] <;> omega) | fail)) only [admQ, lenB, shaB_len, macB_len, aFill, AK.cls, implies_true, ↓reduceIte, reduceCtorEq, if_true, if_false, Nat.reduceAdd, Nat.reduceEqDiff, Nat.reduceMod, Nat.reduceLT, Nat.reduceLeDiff, Nat.reduceSub, Nat.reduceMul, Nat.reduceBEq, Int.reduceAdd, Int.reduceSub, Int.reduceMul, Int.reduceNeg, Int.reduceLT, Int.reduceLE, Int.reduceToNat, Int.reduceEq, Int.reduceBEq]
  have kA := (k0.trans (k1.trans k2)).more_app [Blk.row (bys (blkX key 54#8)) false, Blk.row (bys (blkX key 92#8)) false]
  have oA := (k2.more_app [Blk.row (bys (blkX key 54#8)) false, Blk.row (bys (blkX key 92#8)) false]).own (k1.own o0 (by simp)) (by simp)
  have rI : RdB (m2 ++ [Blk.row (bys (blkX key 54#8)) false, Blk.row (bys (blkX key 92#8)) false]) (.sl m2.length 0 64 64 0) (blkX key 54#8) := by
    have := RdB.row (m := m2 ++ [Blk.row (bys (blkX key 54#8)) false, Blk.row (bys (blkX key 92#8)) false]) (b := m2.length) (l := blkX key 54#8) 64 0 (by rw [rowOf_app_at0]; rfl) (by omega)
    rwa [li] at this
  have rO : RdB (m2 ++ [Blk.row (bys (blkX key 54#8)) false, Blk.row (bys (blkX key 92#8)) false]) (.sl (m2.length + 1) 0 64 64 0) (blkX key 92#8) := by
    have := RdB.row (m := m2 ++ [Blk.row (bys (blkX key 54#8)) false, Blk.row (bys (blkX key 92#8)) false]) (b := m2.length + 1) (l := blkX key 92#8) 64 0 (by rw [rowOf_app_at]; rfl) (by omega)
    rwa [lo] at this
  have hAl : (m2 ++ [Blk.row (bys (blkX key 54#8)) false, Blk.row (bys (blkX key 92#8)) false]).length = m2.length + 2 := by simp
  have hl0 := own_lt oA
  generalize m2 ++ [Blk.row (bys (blkX key 54#8)) false, Blk.row (bys (blkX key 92#8)) false] = A at kA oA rI rO hAl hl0
  refine (ans_shanew _).mono ?_
  rintro _ m3 ⟨rfl, k3, d3⟩
  simp -implicitDefEqProofs (disch := (first | omega | (simp only [lenB, shaB_len, macB_len] <;> omega) | fail)) only [admQ, lenB, shaB_len, macB_len, aFill, AK.cls, implies_true, ↓reduceIte, reduceCtorEq, if_true, if_false, Nat.reduceAdd, Nat.reduceEqDiff, Nat.reduceMod, Nat.reduceLT, Nat.reduceLeDiff, Nat.reduceSub, Nat.reduceMul, Nat.reduceBEq, Int.reduceAdd, Int.reduceSub, Int.reduceMul, Int.reduceNeg, Int.reduceLT, Int.reduceLE, Int.reduceToNat, Int.reduceEq, Int.reduceBEq]
  have w3 : Low A.length A m3 := .of_kept k3 (by simp) (Nat.le_refl _)
  refine (ans_shaadd d3 ((kA.trans k3).row hK (by simp)) (by omega) (w3.rd rI (by simp [blkOf]; omega)) (by simp [blkOf]; omega) (by simp; omega)).mono ?_
  rintro _ m4 ⟨rfl, w4, d4⟩
  replace w4 := w3.trans w4
  rw [List.nil_append] at d4
  simp -implicitDefEqProofs (disch := (first | omega | (simp only [lenB, shaB_len, macB_len] <;> omega) | fail)) only [admQ, lenB, shaB_len, macB_len, aFill, AK.cls, implies_true, ↓reduceIte, reduceCtorEq, if_true, if_false, Nat.reduceAdd, Nat.reduceEqDiff, Nat.reduceMod, Nat.reduceLT, Nat.reduceLeDiff, Nat.reduceSub, Nat.reduceMul, Nat.reduceBEq, Int.reduceAdd, Int.reduceSub, Int.reduceMul, Int.reduceNeg, Int.reduceLT, Int.reduceLE, Int.reduceToNat, Int.reduceEq, Int.reduceBEq]
  have hym : ∀ b ∈ blkOf y, b < A.length := fun b hb => by have := hB.blk_lt b hb; have := kA.len; omega
  refine (ans_shaadd d4 (w4.row (kA.row hK (by simp)) (by omega)) (by omega) (w4.rd (hB.kept0 kA) hym) hym (by omega)).mono ?_
  rintro _ m5 ⟨rfl, w5, d5⟩
  replace w5 := w4.trans w5
  simp -implicitDefEqProofs (disch := (first | omega | (simp only [lenB, shaB_len, macB_len] <;> omega) | fail)) only [admQ, lenB, shaB_len, macB_len, aFill, AK.cls, implies_true, ↓reduceIte, reduceCtorEq, if_true, if_false, Nat.reduceAdd, Nat.reduceEqDiff, Nat.reduceMod, Nat.reduceLT, Nat.reduceLeDiff, Nat.reduceSub, Nat.reduceMul, Nat.reduceBEq, Int.reduceAdd, Int.reduceSub, Int.reduceMul, Int.reduceNeg, Int.reduceLT, Int.reduceLE, Int.reduceToNat, Int.reduceEq, Int.reduceBEq]
  refine (ans_shasum d5 (w5.row (kA.row hK (by simp)) (by omega)) (by rw [List.length_append]; omega)).mono ?_
  rintro _ m6 ⟨rfl, k6⟩
  have w6 : Low A.length A m6 := w5.trans (.of_kept k6 (by simp) w5.1)
  generalize hs : shaB (blkX key 54#8 ++ B) = S
  have hS : S.length = 32 := by rw [← hs]; exact shaB_len _
  simp -implicitDefEqProofs (disch := (first | omega | (simp only [lenB, shaB_len, macB_len] <;> omega) | fail)) only [admQ, lenB, shaB_len, macB_len, aFill, AK.cls, implies_true, ↓reduceIte, reduceCtorEq, if_true, if_false, Nat.reduceAdd, Nat.reduceEqDiff, Nat.reduceMod, Nat.reduceLT, Nat.reduceLeDiff, Nat.reduceSub, Nat.reduceMul, Nat.reduceBEq, Int.reduceAdd, Int.reduceSub, Int.reduceMul, Int.reduceNeg, Int.reduceLT, Int.reduceLE, Int.reduceToNat, Int.reduceEq, Int.reduceBEq]
  have w7 : Low A.length A (m6 ++ [Blk.row (bys S) false]) := w6.trans (.of_kept (.app [] _ _) (by simp) w6.1)
  have rS : RdB (m6 ++ [Blk.row (bys S) false]) (.sl m6.length 0 32 32 0) S := by
    have := RdB.row (m := m6 ++ [Blk.row (bys S) false]) (b := m6.length) (l := S) 32 0 (by rw [rowOf_app_at0]; rfl) (by omega)
    rwa [hS] at this
  have hBl : (m6 ++ [Blk.row (bys S) false]).length = m6.length + 1 := by simp
  generalize m6 ++ [Blk.row (bys S) false] = C at w7 rS hBl
  have hw6 := w6.1
  refine (ans_shanew _).mono ?_
  rintro _ m8 ⟨rfl, k8, d8⟩
  have w8 : Low C.length C m8 := .of_kept k8 (by simp) (Nat.le_refl _)
  simp -implicitDefEqProofs (disch := (first | omega | (simp only [lenB, shaB_len, macB_len] <;> omega) | fail)) only [admQ, lenB, shaB_len, macB_len, aFill, AK.cls, implies_true, ↓reduceIte, reduceCtorEq, if_true, if_false, Nat.reduceAdd, Nat.reduceEqDiff, Nat.reduceMod, Nat.reduceLT, Nat.reduceLeDiff, Nat.reduceSub, Nat.reduceMul, Nat.reduceBEq, Int.reduceAdd, Int.reduceSub, Int.reduceMul, Int.reduceNeg, Int.reduceLT, Int.reduceLE, Int.reduceToNat, Int.reduceEq, Int.reduceBEq]
  have rO8 := (w8.rd (w7.rd rO (by simp [blkOf]; omega)) (by simp [blkOf]; omega))
  refine (ans_shaadd d8 (w8.row (w7.row (kA.row hK (by simp)) (by omega)) (by omega)) (by omega) rO8 (by simp [blkOf]; omega) (by simp; omega)).mono ?_
  rintro _ m9 ⟨rfl, w9, d9⟩
  replace w9 := w8.trans w9
  rw [List.nil_append] at d9
  simp -implicitDefEqProofs (disch := (first | omega | (simp only [lenB, shaB_len, macB_len] <;> omega) | fail)) only [admQ, lenB, shaB_len, macB_len, aFill, AK.cls, implies_true, ↓reduceIte, reduceCtorEq, if_true, if_false, Nat.reduceAdd, Nat.reduceEqDiff, Nat.reduceMod, Nat.reduceLT, Nat.reduceLeDiff, Nat.reduceSub, Nat.reduceMul, Nat.reduceBEq, Int.reduceAdd, Int.reduceSub, Int.reduceMul, Int.reduceNeg, Int.reduceLT, Int.reduceLE, Int.reduceToNat, Int.reduceEq, Int.reduceBEq]
  refine (ans_shaadd d9 (w9.row (w7.row (kA.row hK (by simp)) (by omega)) (by omega)) (by omega) (w9.rd rS (by simp [blkOf]; omega)) (by simp [blkOf]; omega) (by omega)).mono ?_
  rintro _ m10 ⟨rfl, w10, d10⟩
  replace w10 := w9.trans w10
  simp -implicitDefEqProofs (disch := (first | omega | (simp only [lenB, shaB_len, macB_len] <;> omega) | fail)) only [admQ, lenB, shaB_len, macB_len, aFill, AK.cls, implies_true, ↓reduceIte, reduceCtorEq, if_true, if_false, Nat.reduceAdd, Nat.reduceEqDiff, Nat.reduceMod, Nat.reduceLT, Nat.reduceLeDiff, Nat.reduceSub, Nat.reduceMul, Nat.reduceBEq, Int.reduceAdd, Int.reduceSub, Int.reduceMul, Int.reduceNeg, Int.reduceLT, Int.reduceLE, Int.reduceToNat, Int.reduceEq, Int.reduceBEq]
  refine (ans_shasum d10 (w10.row (w7.row (kA.row hK (by simp)) (by omega)) (by omega)) (by rw [List.length_append]; omega)).mono ?_
  rintro _ m11 ⟨rfl, k11⟩
  have w11 : Low A.length A m11 := (w7.trans (w10.less (by omega))).trans (.of_kept k11 (by simp) (by have := w10.1; omega))
  have oR : own m11 m.length = some (bys (List.replicate 32 0#8)) := by unfold own at *; rw [w11.2 _ (by omega)]; exact oA
  have hml := shaB_len (blkX key 92#8 ++ S)
  simp -implicitDefEqProofs (disch := (first | omega | (simp only [lenB, shaB_len, macB_len] <;> omega) | fail)) only [admQ, lenB, shaB_len, macB_len, aFill, AK.cls, implies_true, ↓reduceIte, reduceCtorEq, if_true, if_false, Nat.reduceAdd, Nat.reduceEqDiff, Nat.reduceMod, Nat.reduceLT, Nat.reduceLeDiff, Nat.reduceSub, Nat.reduceMul, Nat.reduceBEq, Int.reduceAdd, Int.reduceSub, Int.reduceMul, Int.reduceNeg, Int.reduceLT, Int.reduceLE, Int.reduceToNat, Int.reduceEq, Int.reduceBEq, oR, own_set (own_lt oR), rowOf_own (own_set (own_lt oR) _)]
  refine ⟨by rw [macB, hs], (w11.kept kA (by omega)).write (.inr (Nat.le_refl _)) _⟩
def strB (s : ByteArray) : List B8 := s.data.toList.map UInt8.toBitVec
theorem strCells_bys (s : ByteArray) : strCells s = bys (strB s) := by
  simp only [strCells, strB, bys, List.map_map]; rfl
theorem strB_len (s : ByteArray) : (strB s).length = s.size := by rw [strB, List.length_map, Array.length_toList]; rfl
theorem ans_macderive {m : Mem} {x : AV} {key : List B8} (s : ByteArray) (hK : rowOf m 0 = some (wds kT)) (hx : RdB m x key) (hkl : key.length ≤ 1000000000) (hlen : s.size ≤ 1000) :
    Ans Tryd.prog 18 [x, .str s] m fun r m' => r = .agg (bys (macB key (strB s))) ∧ Kept [] m m' := by
  refine ans_ret mixed ok18 ?_
  simp -implicitDefEqProofs (disch := (first | omega | (simp only [lenB, shaB_len, macB_len] <;> omega) | fail)) only [admQ, lenB, shaB_len, macB_len, aFill, AK.cls, implies_true, ↓reduceIte, reduceCtorEq, if_true, if_false, Nat.reduceAdd, Nat.reduceEqDiff, Nat.reduceMod, Nat.reduceLT, Nat.reduceLeDiff, Nat.reduceSub, Nat.reduceMul, Nat.reduceBEq, Int.reduceAdd, Int.reduceSub, Int.reduceMul, Int.reduceNeg, Int.reduceLT, Int.reduceLE, Int.reduceToNat, Int.reduceEq, Int.reduceBEq, c18, r18, opW_s2b, opDW_s2b, mkS2b, strCells_bys]
  have k0 := Kept.app [] m [Blk.row (bys (List.replicate 32 0#8)) false, Blk.row (bys (strB s)) false]
  have o0 : own (m ++ [Blk.row (bys (List.replicate 32 0#8)) false, Blk.row (bys (strB s)) false]) m.length = some (bys (List.replicate 32 0#8)) := by rw [own_app_at0]; rfl
  have o1 : own (m ++ [Blk.row (bys (List.replicate 32 0#8)) false, Blk.row (bys (strB s)) false]) (m.length + 1) = some (bys (strB s)) := by rw [own_app_at]; rfl
  generalize m ++ [Blk.row (bys (List.replicate 32 0#8)) false, Blk.row (bys (strB s)) false] = A0 at k0 o0 o1
  have hr := RdB.row (l := strB s) s.size 1 (rowOf_own o1) (by rw [strB_len]; omega)
  rw [strB_len] at hr
  refine (ans_macof (k0.row hK (by simp)) (hx.kept0 k0) hr hkl (by rw [strB_len]; omega)).mono ?_
  rintro _ m1 ⟨rfl, k1⟩
  have o0' := k1.own o0 (by simp)
  have hml := macB_len key (strB s)
  simp -implicitDefEqProofs (disch := (first | omega | (simp only [lenB, shaB_len, macB_len] <;> omega) | fail)) only [admQ, lenB, shaB_len, macB_len, aFill, AK.cls, implies_true, ↓reduceIte, reduceCtorEq, if_true, if_false, Nat.reduceAdd, Nat.reduceEqDiff, Nat.reduceMod, Nat.reduceLT, Nat.reduceLeDiff, Nat.reduceSub, Nat.reduceMul, Nat.reduceBEq, Int.reduceAdd, Int.reduceSub, Int.reduceMul, Int.reduceNeg, Int.reduceLT, Int.reduceLE, Int.reduceToNat, Int.reduceEq, Int.reduceBEq, o0', own_set (own_lt o0'), rowOf_own (own_set (own_lt o0') _)]
  exact (k0.trans k1).write (.inr (Nat.le_refl _)) _
/-- What is unlike in the first i bytes. -/
def orX (a b : List B8) : Nat → B8
  | 0 => 0#8
  | i + 1 => orX a b i ||| (gb a i ^^^ gb b i)
theorem orX_zero (a b : List B8) : ∀ n, orX a b n = 0#8 ↔ ∀ i, i < n → gb a i = gb b i := by
  intro n
  induction n with
  | zero => simp [orX]
  | succ n ih =>
    have e : ∀ x y : B8, x ||| y = 0#8 ↔ x = 0#8 ∧ y = 0#8 := by intro x y; exact BitVec.or_eq_zero_iff
    have e2 : ∀ x y : B8, x ^^^ y = 0#8 ↔ x = y := by intro x y; exact BitVec.xor_eq_zero_iff
    rw [orX, e, ih, e2]
    constructor
    · rintro ⟨h1, h2⟩ i hi
      by_cases hin : i = n
      · subst hin; exact h2
      · exact h1 i (by omega)
    · intro h
      exact ⟨fun i hi => h i (by omega), h n (by omega)⟩
theorem ans_macsame {m : Mem} {a b : List B8} (ha : a.length = 32) (hb : b.length = 32) :
    Ans Tryd.prog 58 [.agg (bys a), .agg (bys b)] m fun r m' => r = .bool (a == b) ∧ Kept [] m m' := by
  refine ans_ret mixed ok58 ?_
  simp -implicitDefEqProofs (disch := (first | omega | (simp only [lenB, shaB_len, macB_len] <;> omega) | fail)) only [admQ, lenB, shaB_len, macB_len, aFill, AK.cls, implies_true, ↓reduceIte, reduceCtorEq, if_true, if_false, Nat.reduceAdd, Nat.reduceEqDiff, Nat.reduceMod, Nat.reduceLT, Nat.reduceLeDiff, Nat.reduceSub, Nat.reduceMul, Nat.reduceBEq, Int.reduceAdd, Int.reduceSub, Int.reduceMul, Int.reduceNeg, Int.reduceLT, Int.reduceLE, Int.reduceToNat, Int.reduceEq, Int.reduceBEq, c58, r58]
  refine LoopW.on (fun i : Nat => [(2, .ptr m.length 0), (3, .ptr (m.length + 1) 0), (5, b8 (orX a b i)), (7, .int .i64 i)]) (fun i => 32 - i)
    (fun i M => i ≤ 32 ∧ M = m ++ [.row (bys a) false, .row (bys b) false]) ?_ 0 _ _ rfl ⟨by omega, rfl⟩
  rintro i M X ⟨hi, rfl⟩ hX
  by_cases hlt : i < 32
  · simp -implicitDefEqProofs (disch := (first | omega | (simp only [lenB, shaB_len, macB_len] <;> omega) | fail)) only [admQ, lenB, shaB_len, macB_len, aFill, AK.cls, implies_true, ↓reduceIte, reduceCtorEq, if_true, if_false, Nat.reduceAdd, Nat.reduceEqDiff, Nat.reduceMod, Nat.reduceLT, Nat.reduceLeDiff, Nat.reduceSub, Nat.reduceMul, Nat.reduceBEq, Int.reduceAdd, Int.reduceSub, Int.reduceMul, Int.reduceNeg, Int.reduceLT, Int.reduceLE, Int.reduceToNat, Int.reduceEq, Int.reduceBEq]
    refine hX (i + 1) _ _ rfl (by omega) ⟨by omega, rfl⟩
  · obtain rfl : i = 32 := by omega
    simp -implicitDefEqProofs (disch := (first | omega | (simp only [lenB, shaB_len, macB_len] <;> omega) | fail)) only [admQ, lenB, shaB_len, macB_len, aFill, AK.cls, implies_true, ↓reduceIte, reduceCtorEq, if_true, if_false, Nat.reduceAdd, Nat.reduceEqDiff, Nat.reduceMod, Nat.reduceLT, Nat.reduceLeDiff, Nat.reduceSub, Nat.reduceMul, Nat.reduceBEq, Int.reduceAdd, Int.reduceSub, Int.reduceMul, Int.reduceNeg, Int.reduceLT, Int.reduceLE, Int.reduceToNat, Int.reduceEq, Int.reduceBEq, beql_u8]
    refine ⟨?_, .app _ _ _⟩
    congr 1
    rw [Bool.eq_iff_iff, beq_iff_eq, beq_iff_eq, orX_zero]
    exact ⟨fun h => gb_ext (by omega) (fun i hi => h i (by omega)), fun h i _ => by rw [h]⟩
end Go.Proofs.YtmnlmjlmbceimaaDoor
end
section
/- Sealing: numbers as bytes, bytes joined, places. -/
namespace Go.Proofs.YtmnlmjlmbceimaaDoor
open Go Go.Adm
set_option linter.unusedSimpArgs false
set_option linter.unusedVariables false
set_option maxRecDepth 100000
theorem fdiv_pow (v k : Nat) : ((v : Nat) : Int).fdiv (2 ^ Nat.min k IntKind.i64.bits) = ((v >>> Nat.min k 64 : Nat) : Int) := by
  have e : (2 : Int) ^ Nat.min k IntKind.i64.bits = ((2 ^ Nat.min k 64 : Nat) : Int) := by simp [IntKind.bits]
  rw [e, Int.fdiv_eq_ediv_of_nonneg _ (Int.natCast_nonneg _), Nat.shiftRight_eq_div_pow, ← Int.natCast_ediv]
theorem ans_seeight (v : Nat) (hv : v < 4611686018427387904) (m : Mem) : Ans Tryd.prog 62 [.int .i64 v] m fun r m' => Kept [] m m' ∧ GrB m.length m' r (lowB v 8) := by
  refine ans_ret mixed ok62 ?_
  simp -implicitDefEqProofs (disch := (first | omega | (simp only [lenB, lowB_len] <;> omega) | fail)) only [admQ, lenB, lowB_len, aFill, AK.cls, implies_true, ↓reduceIte, reduceCtorEq, if_true, if_false, Nat.reduceAdd, Nat.reduceEqDiff, Nat.reduceMod, Nat.reduceLT, Nat.reduceLeDiff, Nat.reduceSub, Nat.reduceMul, Nat.reduceBEq, Int.reduceAdd, Int.reduceSub, Int.reduceMul, Int.reduceNeg, Int.reduceLT, Int.reduceLE, Int.reduceToNat, Int.reduceEq, Int.reduceBEq, c62, r62]
  refine LoopW.on (fun t : Nat × AV => [(0, .int .i64 v), (3, t.2), (4, .int .i64 (56 - 8 * (t.1 : Int)))]) (fun t => 8 - t.1)
    (fun t M => t.1 ≤ 8 ∧ Kept [] m M ∧ GrB m.length M t.2 (tab t.1 (fun i => byV v (7 - i)))) ?_ (0, .nils) _ _ rfl ⟨by simp, .refl _ _, .nils ..⟩
  rintro ⟨k, x⟩ M X ⟨hk, kk, g⟩ hX
  change GrB m.length M x (tab k (fun i => byV v (7 - i))) at g
  simp only at hk
  by_cases hlt : k < 8
  · rw [show (56 - 8 * (k : Int)) = ((8 * (7 - k) : Nat) : Int) by omega]
    have hw : IntKind.u8.wrap ((v >>> (8 * (7 - k)) : Nat) : Int) = ((byV v (7 - k)).toNat : Int) := wrap_u8 _
    have hmin : Nat.min (8 * (7 - k)) 64 = 8 * (7 - k) := Nat.min_eq_left (by omega)
    simp -implicitDefEqProofs (disch := (first | omega | (simp only [lenB, lowB_len] <;> omega) | fail)) only [admQ, lenB, lowB_len, aFill, AK.cls, implies_true, ↓reduceIte, reduceCtorEq, if_true, if_false, Nat.reduceAdd, Nat.reduceEqDiff, Nat.reduceMod, Nat.reduceLT, Nat.reduceLeDiff, Nat.reduceSub, Nat.reduceMul, Nat.reduceBEq, Int.reduceAdd, Int.reduceSub, Int.reduceMul, Int.reduceNeg, Int.reduceLT, Int.reduceLE, Int.reduceToNat, Int.reduceEq, Int.reduceBEq, fdiv_pow, hmin, hw]
    obtain ⟨x3, m3, e3, g3, k3, a3⟩ := g.push (byV v (7 - k)) (by simp [tab_len]; omega) kk.len
    refine someW_eq e3 ?_
    simp -implicitDefEqProofs (disch := (first | omega | (simp only [lenB, lowB_len] <;> omega) | fail)) only [admQ, lenB, lowB_len, aFill, AK.cls, implies_true, ↓reduceIte, reduceCtorEq, if_true, if_false, Nat.reduceAdd, Nat.reduceEqDiff, Nat.reduceMod, Nat.reduceLT, Nat.reduceLeDiff, Nat.reduceSub, Nat.reduceMul, Nat.reduceBEq, Int.reduceAdd, Int.reduceSub, Int.reduceMul, Int.reduceNeg, Int.reduceLT, Int.reduceLE, Int.reduceToNat, Int.reduceEq, Int.reduceBEq]
    rw [show ((8 * (7 - k) : Nat) : Int) - 8 = 56 - 8 * ((k + 1 : Nat) : Int) by omega]
    refine hX (k + 1, x3) _ _ rfl (by simp only; omega) ⟨by simp only; omega, a3 _ _ kk (Nat.le_refl _), ?_⟩
    show GrB m.length m3 x3 (tab (k + 1) _)
    rw [tab_succ]; exact g3
  · obtain rfl : k = 8 := by omega
    simp -implicitDefEqProofs (disch := (first | omega | (simp only [lenB, lowB_len] <;> omega) | fail)) only [admQ, lenB, lowB_len, aFill, AK.cls, implies_true, ↓reduceIte, reduceCtorEq, if_true, if_false, Nat.reduceAdd, Nat.reduceEqDiff, Nat.reduceMod, Nat.reduceLT, Nat.reduceLeDiff, Nat.reduceSub, Nat.reduceMul, Nat.reduceBEq, Int.reduceAdd, Int.reduceSub, Int.reduceMul, Int.reduceNeg, Int.reduceLT, Int.reduceLE, Int.reduceToNat, Int.reduceEq, Int.reduceBEq]
    exact ⟨kk, g⟩
/-- May an epoch and a number be? -/
def placedP (e n : Int) : Prop := (0 ≤ e ∧ e ≤ 1099511627776) ∧ 0 ≤ n ∧ n ≤ 1099511627776
instance (e n : Int) : Decidable (placedP e n) := by unfold placedP; infer_instance
theorem ans_seplaced {m : Mem} {p : Nat} {e n : Int} (hp : rowOf m p = some [.int .i64 e, .int .i64 n]) : Ans Tryd.prog 57 [.sl p 0 2 2 0] m fun r m' => r = .bool (decide (placedP e n)) ∧ m' = m := by
  refine ans_ret mixed ok57 ?_
  simp -implicitDefEqProofs (disch := (first | omega | (simp only [lenB, lowB_len] <;> omega) | fail)) only [admQ, lenB, lowB_len, aFill, AK.cls, implies_true, ↓reduceIte, reduceCtorEq, if_true, if_false, Nat.reduceAdd, Nat.reduceEqDiff, Nat.reduceMod, Nat.reduceLT, Nat.reduceLeDiff, Nat.reduceSub, Nat.reduceMul, Nat.reduceBEq, Int.reduceAdd, Int.reduceSub, Int.reduceMul, Int.reduceNeg, Int.reduceLT, Int.reduceLE, Int.reduceToNat, Int.reduceEq, Int.reduceBEq, c57, r57]
  refine LoopW.on (fun i : Nat => [(5, .sl p 0 2 2 0), (6, .int .i64 2), (7, .int .i64 i)]) (fun i => 2 - i) (fun i M => i ≤ 2 ∧ M = m ∧ (1 ≤ i → 0 ≤ e ∧ e ≤ 1099511627776) ∧ (2 ≤ i → 0 ≤ n ∧ n ≤ 1099511627776)) ?_ 0 _ _ rfl ⟨by omega, rfl, by omega, by omega⟩
  rintro i M X ⟨hi, rfl, h1, h2⟩ hX
  rcases (show i = 0 ∨ i = 1 ∨ i = 2 by omega) with rfl | rfl | rfl
  · by_cases ha : e < 0
    · have hno : ¬ placedP e n := by unfold placedP; omega
      simp -implicitDefEqProofs (disch := (first | omega | (simp only [lenB, lowB_len] <;> omega) | fail)) only [admQ, lenB, lowB_len, aFill, AK.cls, implies_true, ↓reduceIte, reduceCtorEq, if_true, if_false, Nat.reduceAdd, Nat.reduceEqDiff, Nat.reduceMod, Nat.reduceLT, Nat.reduceLeDiff, Nat.reduceSub, Nat.reduceMul, Nat.reduceBEq, Int.reduceAdd, Int.reduceSub, Int.reduceMul, Int.reduceNeg, Int.reduceLT, Int.reduceLE, Int.reduceToNat, Int.reduceEq, Int.reduceBEq, hp, decide_eq_false hno, dec_t ha]
    · by_cases hb : e > 1099511627776
      · have hno : ¬ placedP e n := by unfold placedP; omega
        simp -implicitDefEqProofs (disch := (first | omega | (simp only [lenB, lowB_len] <;> omega) | fail)) only [admQ, lenB, lowB_len, aFill, AK.cls, implies_true, ↓reduceIte, reduceCtorEq, if_true, if_false, Nat.reduceAdd, Nat.reduceEqDiff, Nat.reduceMod, Nat.reduceLT, Nat.reduceLeDiff, Nat.reduceSub, Nat.reduceMul, Nat.reduceBEq, Int.reduceAdd, Int.reduceSub, Int.reduceMul, Int.reduceNeg, Int.reduceLT, Int.reduceLE, Int.reduceToNat, Int.reduceEq, Int.reduceBEq, hp, decide_eq_false hno, dec_f ha, dec_t hb]
      · simp -implicitDefEqProofs (disch := (first | omega | (simp only [lenB, lowB_len] <;> omega) | fail)) only [admQ, lenB, lowB_len, aFill, AK.cls, implies_true, ↓reduceIte, reduceCtorEq, if_true, if_false, Nat.reduceAdd, Nat.reduceEqDiff, Nat.reduceMod, Nat.reduceLT, Nat.reduceLeDiff, Nat.reduceSub, Nat.reduceMul, Nat.reduceBEq, Int.reduceAdd, Int.reduceSub, Int.reduceMul, Int.reduceNeg, Int.reduceLT, Int.reduceLE, Int.reduceToNat, Int.reduceEq, Int.reduceBEq, hp, dec_f ha, dec_f hb]
        exact hX 1 _ _ rfl (by omega) ⟨by omega, rfl, by omega, by omega⟩
  · have he := h1 (by omega)
    by_cases ha : n < 0
    · have hno : ¬ placedP e n := by unfold placedP; omega
      simp -implicitDefEqProofs (disch := (first | omega | (simp only [lenB, lowB_len] <;> omega) | fail)) only [admQ, lenB, lowB_len, aFill, AK.cls, implies_true, ↓reduceIte, reduceCtorEq, if_true, if_false, Nat.reduceAdd, Nat.reduceEqDiff, Nat.reduceMod, Nat.reduceLT, Nat.reduceLeDiff, Nat.reduceSub, Nat.reduceMul, Nat.reduceBEq, Int.reduceAdd, Int.reduceSub, Int.reduceMul, Int.reduceNeg, Int.reduceLT, Int.reduceLE, Int.reduceToNat, Int.reduceEq, Int.reduceBEq, hp, decide_eq_false hno, dec_t ha]
    · by_cases hb : n > 1099511627776
      · have hno : ¬ placedP e n := by unfold placedP; omega
        simp -implicitDefEqProofs (disch := (first | omega | (simp only [lenB, lowB_len] <;> omega) | fail)) only [admQ, lenB, lowB_len, aFill, AK.cls, implies_true, ↓reduceIte, reduceCtorEq, if_true, if_false, Nat.reduceAdd, Nat.reduceEqDiff, Nat.reduceMod, Nat.reduceLT, Nat.reduceLeDiff, Nat.reduceSub, Nat.reduceMul, Nat.reduceBEq, Int.reduceAdd, Int.reduceSub, Int.reduceMul, Int.reduceNeg, Int.reduceLT, Int.reduceLE, Int.reduceToNat, Int.reduceEq, Int.reduceBEq, hp, decide_eq_false hno, dec_f ha, dec_t hb]
      · simp -implicitDefEqProofs (disch := (first | omega | (simp only [lenB, lowB_len] <;> omega) | fail)) only [admQ, lenB, lowB_len, aFill, AK.cls, implies_true, ↓reduceIte, reduceCtorEq, if_true, if_false, Nat.reduceAdd, Nat.reduceEqDiff, Nat.reduceMod, Nat.reduceLT, Nat.reduceLeDiff, Nat.reduceSub, Nat.reduceMul, Nat.reduceBEq, Int.reduceAdd, Int.reduceSub, Int.reduceMul, Int.reduceNeg, Int.reduceLT, Int.reduceLE, Int.reduceToNat, Int.reduceEq, Int.reduceBEq, hp, dec_f ha, dec_f hb]
        exact hX 2 _ _ rfl (by omega) ⟨by omega, rfl, by omega, by omega⟩
  · have he := h1 (by omega)
    have hn := h2 (by omega)
    have hyes : placedP e n := ⟨he, hn⟩
    simp -implicitDefEqProofs (disch := (first | omega | (simp only [lenB, lowB_len] <;> omega) | fail)) only [admQ, lenB, lowB_len, aFill, AK.cls, implies_true, ↓reduceIte, reduceCtorEq, if_true, if_false, Nat.reduceAdd, Nat.reduceEqDiff, Nat.reduceMod, Nat.reduceLT, Nat.reduceLeDiff, Nat.reduceSub, Nat.reduceMul, Nat.reduceBEq, Int.reduceAdd, Int.reduceSub, Int.reduceMul, Int.reduceNeg, Int.reduceLT, Int.reduceLE, Int.reduceToNat, Int.reduceEq, Int.reduceBEq, decide_eq_true hyes]
/-- Lists of bytes, one behind the other. -/
def RdL (m : Mem) (xs : List AV) (ls : List (List B8)) : Prop := xs.length = ls.length ∧ ∀ (i : Nat) (l : List B8), ls[i]? = some l → ∃ x, xs[i]? = some x ∧ RdB m x l
theorem RdL.nil (m : Mem) : RdL m [] [] := ⟨rfl, fun i l h => by simp at h⟩
theorem RdL.cons {m : Mem} {x : AV} {l : List B8} {xs : List AV} {ls : List (List B8)} (h : RdB m x l) (hs : RdL m xs ls) : RdL m (x :: xs) (l :: ls) := by
  refine ⟨by simp [hs.1], fun i l' hl => ?_⟩
  cases i with
  | zero => cases hl; exact ⟨x, rfl, h⟩
  | succ i => exact hs.2 i l' (by simpa using hl)
theorem RdL.kept0 {m m' : Mem} {xs : List AV} {ls : List (List B8)} (h : RdL m xs ls) (hk : Kept [] m m') : RdL m' xs ls :=
  ⟨h.1, fun i l hl => let ⟨x, a, b⟩ := h.2 i l hl; ⟨x, a, b.kept0 hk⟩⟩
theorem flat_take {ls : List (List B8)} {i : Nat} {l : List B8} (h : ls[i]? = some l) : (ls.take (i + 1)).flatten = (ls.take i).flatten ++ l := by
  rw [List.take_add_one, h]; simp
theorem flat_len {ls : List (List B8)} (i : Nat) : (ls.take i).flatten.length ≤ ls.flatten.length := by
  have : ls.flatten = (ls.take i).flatten ++ (ls.drop i).flatten := by rw [← List.flatten_append, List.take_append_drop]
  rw [this, List.length_append]; omega
theorem ans_sejoin {m : Mem} {p k : Nat} {xs : List AV} {ls : List (List B8)} (hp : rowOf m p = some xs) (hr : RdL m xs ls) (hk : ls.length = k) (hb : k ≤ 1000 ∧ ls.flatten.length ≤ 900000000) :
    Ans Tryd.prog 61 [.sl p 0 k k 0] m fun r m' => Kept [] m m' ∧ GrB m.length m' r ls.flatten := by
  refine ans_ret mixed ok61 ?_
  simp -implicitDefEqProofs (disch := (first | omega | (simp only [lenB, lowB_len] <;> omega) | fail)) only [admQ, lenB, lowB_len, aFill, AK.cls, implies_true, ↓reduceIte, reduceCtorEq, if_true, if_false, Nat.reduceAdd, Nat.reduceEqDiff, Nat.reduceMod, Nat.reduceLT, Nat.reduceLeDiff, Nat.reduceSub, Nat.reduceMul, Nat.reduceBEq, Int.reduceAdd, Int.reduceSub, Int.reduceMul, Int.reduceNeg, Int.reduceLT, Int.reduceLE, Int.reduceToNat, Int.reduceEq, Int.reduceBEq, c61, r61]
  refine LoopW.on (fun t : Nat × AV => [(3, t.2), (6, .sl p 0 k k 0), (7, .int .i64 k), (8, .int .i64 t.1)]) (fun t => k - t.1) (fun t M => t.1 ≤ k ∧ Kept [] m M ∧ GrB m.length M t.2 (ls.take t.1).flatten) ?_ (0, .nils) _ _ rfl ⟨by simp, .refl _ _, .nils ..⟩
  rintro ⟨i, x⟩ M X ⟨hi, kk, g⟩ hX
  change GrB m.length M x (ls.take i).flatten at g
  simp only at hi
  by_cases hlt : i < k
  · obtain ⟨l, hl⟩ : ∃ l, ls[i]? = some l := ⟨_, List.getElem?_eq_getElem (by omega)⟩
    obtain ⟨y, hy, hyr⟩ := hr.2 i l hl
    have hrow := kk.row hp (by simp)
    have hcat := flat_take hl
    have h1 := flat_len (ls := ls) (i + 1)
    rw [hcat, List.length_append] at h1
    simp -implicitDefEqProofs (disch := (first | omega | (simp only [lenB, lowB_len] <;> omega) | fail)) only [admQ, lenB, lowB_len, aFill, AK.cls, implies_true, ↓reduceIte, reduceCtorEq, if_true, if_false, Nat.reduceAdd, Nat.reduceEqDiff, Nat.reduceMod, Nat.reduceLT, Nat.reduceLeDiff, Nat.reduceSub, Nat.reduceMul, Nat.reduceBEq, Int.reduceAdd, Int.reduceSub, Int.reduceMul, Int.reduceNeg, Int.reduceLT, Int.reduceLE, Int.reduceToNat, Int.reduceEq, Int.reduceBEq, hrow, hy]
    obtain ⟨x3, m3, e3, g3, k3, a3⟩ := g.pushs (hyr.kept0 kk) (by omega) kk.len
    refine someW_eq e3 ?_
    simp -implicitDefEqProofs (disch := (first | omega | (simp only [lenB, lowB_len] <;> omega) | fail)) only [admQ, lenB, lowB_len, aFill, AK.cls, implies_true, ↓reduceIte, reduceCtorEq, if_true, if_false, Nat.reduceAdd, Nat.reduceEqDiff, Nat.reduceMod, Nat.reduceLT, Nat.reduceLeDiff, Nat.reduceSub, Nat.reduceMul, Nat.reduceBEq, Int.reduceAdd, Int.reduceSub, Int.reduceMul, Int.reduceNeg, Int.reduceLT, Int.reduceLE, Int.reduceToNat, Int.reduceEq, Int.reduceBEq]
    refine hX (i + 1, x3) _ _ rfl (by simp only; omega) ⟨by simp only; omega, a3 _ _ kk (Nat.le_refl _), ?_⟩
    show GrB m.length m3 x3 (ls.take (i + 1)).flatten
    rw [hcat]; exact g3
  · obtain rfl : i = k := by omega
    rw [List.take_of_length_le (by omega)] at g
    simp -implicitDefEqProofs (disch := (first | omega | (simp only [lenB, lowB_len] <;> omega) | fail)) only [admQ, lenB, lowB_len, aFill, AK.cls, implies_true, ↓reduceIte, reduceCtorEq, if_true, if_false, Nat.reduceAdd, Nat.reduceEqDiff, Nat.reduceMod, Nat.reduceLT, Nat.reduceLeDiff, Nat.reduceSub, Nat.reduceMul, Nat.reduceBEq, Int.reduceAdd, Int.reduceSub, Int.reduceMul, Int.reduceNeg, Int.reduceLT, Int.reduceLE, Int.reduceToNat, Int.reduceEq, Int.reduceBEq]
    exact ⟨kk, g⟩
end Go.Proofs.YtmnlmjlmbceimaaDoor
end
section
/- Sealing: the box. -/
namespace Go.Proofs.YtmnlmjlmbceimaaDoor
open Go Go.Adm
set_option linter.unusedSimpArgs false
set_option linter.unusedVariables false
set_option maxRecDepth 100000
def encS : ByteArray := ⟨#[101, 110, 99, 114, 121, 112, 116]⟩
def authS : ByteArray := ⟨#[97, 117, 116, 104, 101, 110, 116, 105, 99, 97, 116, 101]⟩
def encK (key : List B8) : List B8 := (macB key (strB encS)).take 16
def authK (key : List B8) : List B8 := macB key (strB authS)
theorem encK_len (key : List B8) : (encK key).length = 16 := by simp [encK, macB_len]
theorem authK_len (key : List B8) : (authK key).length = 32 := macB_len _ _
def tagB (key head : List B8) (e n : Int) (b : List B8) : List B8 := macB (authK key) [lowB head.length 8, head, lowB e.toNat 8, lowB n.toNat 8, b].flatten
theorem tagB_len (key head : List B8) (e n : Int) (b : List B8) : (tagB key head e n b).length = 32 := macB_len _ _
def turnB (key : List B8) (e n : Int) (b : List B8) : List B8 := xorB (expand (encK key)) 11 (e64 e) (e64 n) b
theorem turnB_len (key : List B8) (e n : Int) (b : List B8) : (turnB key e n b).length = b.length := xorB_len _ _ _ _ _
def sealB (key head : List B8) (e n : Int) (b : List B8) : List B8 := turnB key e n b ++ tagB key head e n (turnB key e n b)
theorem rd_one {m : Mem} {x : AV} {l : List B8} (h : RdB m x l) : cellsV x = [x] ∧ x.solid = true := by
  rcases h with ⟨rfl, _⟩ | ⟨b, o, cap, s, c, rfl, _⟩ <;> exact ⟨rfl, rfl⟩
/-- A box under a key. -/
structure SBox (m : Mem) (x c kb k : Nat) (key : List B8) : Prop where
  hd : rowOf m x = some [.ptr c 0, .sl k 0 32 32 0]
  au : rowOf m k = some (bys (authK key))
  ci : Ciph m c kb 11 (expand (encK key))
  kT : rowOf m 0 = some (wds kT)
theorem SBox.kept {X : List Nat} {m m' : Mem} {x c kb k : Nat} {key : List B8} (h : SBox m x c kb k key) (hk : Kept X m m') (hX : x ∉ X ∧ c ∉ X ∧ kb ∉ X ∧ k ∉ X ∧ 0 ∉ X) : SBox m' x c kb k key :=
  ⟨hk.row h.hd hX.1, hk.row h.au hX.2.2.2.1, h.ci.kept hk hX.2.1 hX.2.2.1, hk.row h.kT hX.2.2.2.2⟩
theorem SBox.kept0 {m m' : Mem} {x c kb k : Nat} {key : List B8} (h : SBox m x c kb k key) (hk : Kept [] m m') : SBox m' x c kb k key := h.kept hk (by simp)
theorem ans_senew {m : Mem} {y : AV} {key : List B8} (hK : rowOf m 0 = some (wds kT)) (hy : RdB m y key) (hkl : key.length ≤ 1000000000) :
    Ans Tryd.prog 9 [y] m fun r m' => ∃ x c kb k, r = .ptr x 0 ∧ Kept [] m m' ∧ (m.length ≤ x ∧ m.length ≤ c ∧ m.length ≤ kb ∧ m.length ≤ k) ∧ SBox m' x c kb k key := by
  refine ans_ret mixed ok9 ?_
  simp -implicitDefEqProofs (disch := (first | omega | (simp only [lenB, lowB_len, macB_len] <;> omega) | fail)) only [admQ, lenB, lowB_len, macB_len, aFill, AK.cls, implies_true, ↓reduceIte, reduceCtorEq, if_true, if_false, Nat.reduceAdd, Nat.reduceEqDiff, Nat.reduceMod, Nat.reduceLT, Nat.reduceLeDiff, Nat.reduceSub, Nat.reduceMul, Nat.reduceBEq, Int.reduceAdd, Int.reduceSub, Int.reduceMul, Int.reduceNeg, Int.reduceLT, Int.reduceLE, Int.reduceToNat, Int.reduceEq, Int.reduceBEq, c9, r9]
  refine (ans_macderive encS hK hy hkl (by decide)).mono ?_
  rintro _ m1 ⟨rfl, k1⟩
  simp -implicitDefEqProofs (disch := (first | omega | (simp only [lenB, lowB_len, macB_len] <;> omega) | fail)) only [admQ, lenB, lowB_len, macB_len, aFill, AK.cls, implies_true, ↓reduceIte, reduceCtorEq, if_true, if_false, Nat.reduceAdd, Nat.reduceEqDiff, Nat.reduceMod, Nat.reduceLT, Nat.reduceLeDiff, Nat.reduceSub, Nat.reduceMul, Nat.reduceBEq, Int.reduceAdd, Int.reduceSub, Int.reduceMul, Int.reduceNeg, Int.reduceLT, Int.reduceLE, Int.reduceToNat, Int.reduceEq, Int.reduceBEq]
  refine (ans_macderive authS (k1.row hK (by simp)) (hy.kept0 k1) hkl (by decide)).mono ?_
  rintro _ m2 ⟨rfl, k2⟩
  have h1 := macB_len key (strB encS)
  have h2 := macB_len key (strB authS)
  simp -implicitDefEqProofs (disch := (first | omega | (simp only [lenB, lowB_len, macB_len] <;> omega) | fail)) only [admQ, lenB, lowB_len, macB_len, aFill, AK.cls, implies_true, ↓reduceIte, reduceCtorEq, if_true, if_false, Nat.reduceAdd, Nat.reduceEqDiff, Nat.reduceMod, Nat.reduceLT, Nat.reduceLeDiff, Nat.reduceSub, Nat.reduceMul, Nat.reduceBEq, Int.reduceAdd, Int.reduceSub, Int.reduceMul, Int.reduceNeg, Int.reduceLT, Int.reduceLE, Int.reduceToNat, Int.reduceEq, Int.reduceBEq]
  have kA := (k1.trans k2).more_app [Blk.row (bys (macB key (strB encS))) false, Blk.row (bys (macB key (strB authS))) false]
  have rE : RdB (m2 ++ [Blk.row (bys (macB key (strB encS))) false, Blk.row (bys (macB key (strB authS))) false]) (.sl m2.length 0 16 32 0) (encK key) := by
    have := RdB.row (m := m2 ++ [Blk.row (bys (macB key (strB encS))) false, Blk.row (bys (macB key (strB authS))) false]) (b := m2.length) (l := macB key (strB encS)) 32 0 (by rw [rowOf_app_at0]; rfl) (by omega)
    rw [h1] at this
    exact this.take (k := 16) (by omega)
  have rA : rowOf (m2 ++ [Blk.row (bys (macB key (strB encS))) false, Blk.row (bys (macB key (strB authS))) false]) (m2.length + 1) = some (bys (authK key)) := by rw [rowOf_app_at]; rfl
  have hAl : (m2 ++ [Blk.row (bys (macB key (strB encS))) false, Blk.row (bys (macB key (strB authS))) false]).length = m2.length + 2 := by simp
  generalize m2 ++ [Blk.row (bys (macB key (strB encS))) false, Blk.row (bys (macB key (strB authS))) false] = A at kA rE rA hAl
  have hel := encK_len key
  refine (ans_new rE (.inl hel)).mono ?_
  rintro _ m3 ⟨c, kb, rfl, k3, hc, hkb, ci⟩
  rw [hel] at ci
  simp -implicitDefEqProofs (disch := (first | omega | (simp only [lenB, lowB_len, macB_len] <;> omega) | fail)) only [admQ, lenB, lowB_len, macB_len, aFill, AK.cls, implies_true, ↓reduceIte, reduceCtorEq, if_true, if_false, Nat.reduceAdd, Nat.reduceEqDiff, Nat.reduceMod, Nat.reduceLT, Nat.reduceLeDiff, Nat.reduceSub, Nat.reduceMul, Nat.reduceBEq, Int.reduceAdd, Int.reduceSub, Int.reduceMul, Int.reduceNeg, Int.reduceLT, Int.reduceLE, Int.reduceToNat, Int.reduceEq, Int.reduceBEq]
  have hlA := kA.len
  have hl1 := (k1.trans k2).len
  have hl3 := k3.len
  refine ⟨_, c, kb, m2.length + 1, rfl, (kA.trans k3).more_app _, ⟨by omega, by omega, by omega, by omega⟩, ⟨by rw [rowOf_app_at0]; rfl, (k3.more_app _).row rA (by simp), ci.app _, ((kA.trans k3).more_app _).row hK (by simp)⟩⟩
theorem ans_setag {m : Mem} {x c kb k : Nat} {key head b : List B8} {hx bx : AV} {e n : Int} (hs : SBox m x c kb k key) (hh : RdB m hx head) (hb : RdB m bx b) (he : placedP e n) (hl : head.length ≤ 100000000 ∧ b.length ≤ 100000000) :
    Ans Tryd.prog 59 [.ptr x 0, .int .i64 e, .int .i64 n, hx, bx] m fun r m' => r = .agg (bys (tagB key head e n b)) ∧ Kept [] m m' := by
  refine ans_ret mixed ok59 ?_
  obtain ⟨⟨e0, e1⟩, n0, n1⟩ := he
  obtain ⟨e, rfl⟩ := Int.eq_ofNat_of_zero_le e0
  obtain ⟨n, rfl⟩ := Int.eq_ofNat_of_zero_le n0
  have hd := fun e => (Kept.app [] m e).row hs.hd (by simp)
  simp -implicitDefEqProofs (disch := (first | omega | (simp only [lenB, lowB_len, macB_len] <;> omega) | fail)) only [admQ, lenB, lowB_len, macB_len, aFill, AK.cls, implies_true, ↓reduceIte, reduceCtorEq, if_true, if_false, Nat.reduceAdd, Nat.reduceEqDiff, Nat.reduceMod, Nat.reduceLT, Nat.reduceLeDiff, Nat.reduceSub, Nat.reduceMul, Nat.reduceBEq, Int.reduceAdd, Int.reduceSub, Int.reduceMul, Int.reduceNeg, Int.reduceLT, Int.reduceLE, Int.reduceToNat, Int.reduceEq, Int.reduceBEq, c59, r59, hd, hh.len]
  have k0 := Kept.app [] m [Blk.row (bys (List.replicate 32 0#8)) false]
  have o0 : own (m ++ [Blk.row (bys (List.replicate 32 0#8)) false]) m.length = some (bys (List.replicate 32 0#8)) := by rw [own_app_at0]; rfl
  have hA0 : (m ++ [Blk.row (bys (List.replicate 32 0#8)) false]).length = m.length + 1 := by simp
  generalize m ++ [Blk.row (bys (List.replicate 32 0#8)) false] = A at k0 o0 hA0
  refine (ans_seeight head.length (by omega) _).mono ?_
  rintro r1 m1 ⟨k1, g1⟩
  simp -implicitDefEqProofs (disch := (first | omega | (simp only [lenB, lowB_len, macB_len] <;> omega) | fail)) only [admQ, lenB, lowB_len, macB_len, aFill, AK.cls, implies_true, ↓reduceIte, reduceCtorEq, if_true, if_false, Nat.reduceAdd, Nat.reduceEqDiff, Nat.reduceMod, Nat.reduceLT, Nat.reduceLeDiff, Nat.reduceSub, Nat.reduceMul, Nat.reduceBEq, Int.reduceAdd, Int.reduceSub, Int.reduceMul, Int.reduceNeg, Int.reduceLT, Int.reduceLE, Int.reduceToNat, Int.reduceEq, Int.reduceBEq, (k0.trans k1).row hs.hd (by simp)]
  refine (ans_seeight e (by omega) _).mono ?_
  rintro r2 m2 ⟨k12, g2⟩
  have k2 := k1.trans k12
  simp -implicitDefEqProofs (disch := (first | omega | (simp only [lenB, lowB_len, macB_len] <;> omega) | fail)) only [admQ, lenB, lowB_len, macB_len, aFill, AK.cls, implies_true, ↓reduceIte, reduceCtorEq, if_true, if_false, Nat.reduceAdd, Nat.reduceEqDiff, Nat.reduceMod, Nat.reduceLT, Nat.reduceLeDiff, Nat.reduceSub, Nat.reduceMul, Nat.reduceBEq, Int.reduceAdd, Int.reduceSub, Int.reduceMul, Int.reduceNeg, Int.reduceLT, Int.reduceLE, Int.reduceToNat, Int.reduceEq, Int.reduceBEq, (k0.trans k2).row hs.hd (by simp)]
  refine (ans_seeight n (by omega) _).mono ?_
  rintro r3 m3 ⟨k23, g3⟩
  have k3 := k2.trans k23
  simp -implicitDefEqProofs (disch := (first | omega | (simp only [lenB, lowB_len, macB_len] <;> omega) | fail)) only [admQ, lenB, lowB_len, macB_len, aFill, AK.cls, implies_true, ↓reduceIte, reduceCtorEq, if_true, if_false, Nat.reduceAdd, Nat.reduceEqDiff, Nat.reduceMod, Nat.reduceLT, Nat.reduceLeDiff, Nat.reduceSub, Nat.reduceMul, Nat.reduceBEq, Int.reduceAdd, Int.reduceSub, Int.reduceMul, Int.reduceNeg, Int.reduceLT, Int.reduceLE, Int.reduceToNat, Int.reduceEq, Int.reduceBEq, (k0.trans k3).row hs.hd (by simp), (gr_one g1).1, (gr_one g1).2, (gr_one g2).1, (gr_one g2).2, (gr_one g3).1, (gr_one g3).2, (rd_one hh).1, (rd_one hh).2, (rd_one hb).1, (rd_one hb).2]
  have kB := k3.more_app [Blk.row [r1, hx, r2, r3, bx] false]
  have rB : rowOf (m3 ++ [Blk.row [r1, hx, r2, r3, bx] false]) m3.length = some [r1, hx, r2, r3, bx] := by rw [rowOf_app_at0]; rfl
  have rl : RdL (m3 ++ [Blk.row [r1, hx, r2, r3, bx] false]) [r1, hx, r2, r3, bx] [lowB head.length 8, head, lowB e 8, lowB n 8, b] := by
    exact .cons ((g1.rd.kept0 (k12.trans k23)).app _) (.cons ((hh.kept0 (k0.trans k3)).app _) (.cons ((g2.rd.kept0 k23).app _) (.cons (g3.rd.app _) (.cons ((hb.kept0 (k0.trans k3)).app _) (.nil _)))))
  generalize m3 ++ [Blk.row [r1, hx, r2, r3, bx] false] = C at kB rB rl
  refine (ans_sejoin (k := 5) rB rl rfl ⟨by omega, by simp [lowB_len]; omega⟩).mono ?_
  rintro r m4 ⟨k4, g4⟩
  replace k4 := kB.trans k4
  have hs4 := hs.kept0 (k0.trans k4)
  simp -implicitDefEqProofs (disch := (first | omega | (simp only [lenB, lowB_len, macB_len] <;> omega) | fail)) only [admQ, lenB, lowB_len, macB_len, aFill, AK.cls, implies_true, ↓reduceIte, reduceCtorEq, if_true, if_false, Nat.reduceAdd, Nat.reduceEqDiff, Nat.reduceMod, Nat.reduceLT, Nat.reduceLeDiff, Nat.reduceSub, Nat.reduceMul, Nat.reduceBEq, Int.reduceAdd, Int.reduceSub, Int.reduceMul, Int.reduceNeg, Int.reduceLT, Int.reduceLE, Int.reduceToNat, Int.reduceEq, Int.reduceBEq, hs4.hd]
  have hak := authK_len key
  have rk := RdB.row (m := m4) (l := authK key) 32 0 hs4.au (by omega)
  rw [hak] at rk
  refine (ans_macof hs4.kT rk g4.rd (by omega) (by simp [lowB_len]; omega)).mono ?_
  rintro _ m5 ⟨rfl, k5⟩
  have o5 := (k4.trans k5).own o0 (by simp)
  have hml := macB_len (authK key) [lowB head.length 8, head, lowB e 8, lowB n 8, b].flatten
  simp -implicitDefEqProofs (disch := (first | omega | (simp only [lenB, lowB_len, macB_len] <;> omega) | fail)) only [admQ, lenB, lowB_len, macB_len, aFill, AK.cls, implies_true, ↓reduceIte, reduceCtorEq, if_true, if_false, Nat.reduceAdd, Nat.reduceEqDiff, Nat.reduceMod, Nat.reduceLT, Nat.reduceLeDiff, Nat.reduceSub, Nat.reduceMul, Nat.reduceBEq, Int.reduceAdd, Int.reduceSub, Int.reduceMul, Int.reduceNeg, Int.reduceLT, Int.reduceLE, Int.reduceToNat, Int.reduceEq, Int.reduceBEq, o5, own_set (own_lt o5), rowOf_own (own_set (own_lt o5) _), (hs4.kept0 k5).hd]
  exact ⟨rfl, (k0.trans (k4.trans k5)).write (.inr (Nat.le_refl _)) _⟩
end Go.Proofs.YtmnlmjlmbceimaaDoor
end
section
/- Sealing: sealed, and opened. -/
namespace Go.Proofs.YtmnlmjlmbceimaaDoor
open Go Go.Adm
set_option linter.unusedSimpArgs false
set_option linter.unusedVariables false
set_option maxRecDepth 100000
theorem ans_seseal {m : Mem} {x c kb k : Nat} {key head b : List B8} {hx bx : AV} {e n : Int} (hs : SBox m x c kb k key) (hh : RdB m hx head) (hb : RdB m bx b) (hl : head.length ≤ 100000 ∧ b.length ≤ 100000) :
    Ans Tryd.prog 55 [.ptr x 0, .int .i64 e, .int .i64 n, hx, bx] m fun r m' => Kept [] m m' ∧ (placedP e n → GrB m.length m' r (sealB key head e n b)) ∧ (¬ placedP e n → r = .nils) := by
  refine ans_ret mixed ok55 ?_
  have hd := fun e => (Kept.app [] m e).row hs.hd (by simp)
  simp -implicitDefEqProofs (disch := (first | omega | (simp only [lenB, lowB_len, macB_len, tagB_len, turnB_len] <;> omega) | fail)) only [admQ, lenB, lowB_len, macB_len, tagB_len, turnB_len, aFill, AK.cls, implies_true, ↓reduceIte, reduceCtorEq, if_true, if_false, Nat.reduceAdd, Nat.reduceEqDiff, Nat.reduceMod, Nat.reduceLT, Nat.reduceLeDiff, Nat.reduceSub, Nat.reduceMul, Nat.reduceBEq, Int.reduceAdd, Int.reduceSub, Int.reduceMul, Int.reduceNeg, Int.reduceLT, Int.reduceLE, Int.reduceToNat, Int.reduceEq, Int.reduceBEq, c55, r55, hd]
  refine (ans_seplaced (by rw [rowOf_app_at0]; rfl)).mono ?_
  rintro _ _ ⟨rfl, rfl⟩
  by_cases hp : placedP e n
  · simp -implicitDefEqProofs (disch := (first | omega | (simp only [lenB, lowB_len, macB_len, tagB_len, turnB_len] <;> omega) | fail)) only [admQ, lenB, lowB_len, macB_len, tagB_len, turnB_len, aFill, AK.cls, implies_true, ↓reduceIte, reduceCtorEq, if_true, if_false, Nat.reduceAdd, Nat.reduceEqDiff, Nat.reduceMod, Nat.reduceLT, Nat.reduceLeDiff, Nat.reduceSub, Nat.reduceMul, Nat.reduceBEq, Int.reduceAdd, Int.reduceSub, Int.reduceMul, Int.reduceNeg, Int.reduceLT, Int.reduceLE, Int.reduceToNat, Int.reduceEq, Int.reduceBEq, decide_eq_true hp, hd, Bool.not_true]
    have k0 := Kept.app [] m [Blk.row [.int .i64 e, .int .i64 n] false]
    generalize m ++ [Blk.row [.int .i64 e, .int .i64 n] false] = A at k0
    refine (ans_ctrxor (hs.kept0 k0).ci e n (hb.kept0 k0) hl.2).mono ?_
    rintro _ m1 ⟨p, rfl, k1, hp1, o1⟩
    have hk1 := k0.trans k1
    change own m1 p = some (bys (turnB key e n b)) at o1
    have htl := turnB_len key e n b
    have rt := RdB.row (m := m1) (b := p) (l := turnB key e n b) b.length 0 (rowOf_own o1) (by omega)
    rw [htl] at rt
    simp -implicitDefEqProofs (disch := (first | omega | (simp only [lenB, lowB_len, macB_len, tagB_len, turnB_len] <;> omega) | fail)) only [admQ, lenB, lowB_len, macB_len, tagB_len, turnB_len, aFill, AK.cls, implies_true, ↓reduceIte, reduceCtorEq, if_true, if_false, Nat.reduceAdd, Nat.reduceEqDiff, Nat.reduceMod, Nat.reduceLT, Nat.reduceLeDiff, Nat.reduceSub, Nat.reduceMul, Nat.reduceBEq, Int.reduceAdd, Int.reduceSub, Int.reduceMul, Int.reduceNeg, Int.reduceLT, Int.reduceLE, Int.reduceToNat, Int.reduceEq, Int.reduceBEq]
    refine (ans_setag (hs.kept0 hk1) (hh.kept0 hk1) rt hp ⟨by omega, by omega⟩).mono ?_
    rintro _ m2 ⟨rfl, k2⟩
    have hgl := tagB_len key head e n (turnB key e n b)
    simp -implicitDefEqProofs (disch := (first | omega | (simp only [lenB, lowB_len, macB_len, tagB_len, turnB_len] <;> omega) | fail)) only [admQ, lenB, lowB_len, macB_len, tagB_len, turnB_len, aFill, AK.cls, implies_true, ↓reduceIte, reduceCtorEq, if_true, if_false, Nat.reduceAdd, Nat.reduceEqDiff, Nat.reduceMod, Nat.reduceLT, Nat.reduceLeDiff, Nat.reduceSub, Nat.reduceMul, Nat.reduceBEq, Int.reduceAdd, Int.reduceSub, Int.reduceMul, Int.reduceNeg, Int.reduceLT, Int.reduceLE, Int.reduceToNat, Int.reduceEq, Int.reduceBEq]
    have k2' := hk1.trans k2
    have kC := k2'.more_app [Blk.row (bys (tagB key head e n (turnB key e n b))) false, Blk.row [.sl p 0 b.length b.length 0, .sl m2.length 0 32 32 0] false]
    have rT : RdB (m2 ++ [Blk.row (bys (tagB key head e n (turnB key e n b))) false, Blk.row [.sl p 0 b.length b.length 0, .sl m2.length 0 32 32 0] false]) (.sl m2.length 0 32 32 0) (tagB key head e n (turnB key e n b)) := by
      have := RdB.row (m := m2 ++ [Blk.row (bys (tagB key head e n (turnB key e n b))) false, Blk.row [.sl p 0 b.length b.length 0, .sl m2.length 0 32 32 0] false]) (b := m2.length) (l := tagB key head e n (turnB key e n b)) 32 0 (by rw [rowOf_app_at0]; rfl) (by omega)
      rwa [hgl] at this
    refine (ans_sejoin (k := 2) (ls := [turnB key e n b, tagB key head e n (turnB key e n b)]) (by rw [rowOf_app_at]; rfl) (.cons ((rt.kept0 k2).app _) (.cons rT (.nil _))) rfl ⟨by omega, by simp [htl, hgl]; omega⟩).mono ?_
    rintro r m3 ⟨k3, g3⟩
    simp -implicitDefEqProofs (disch := (first | omega | (simp only [lenB, lowB_len, macB_len, tagB_len, turnB_len] <;> omega) | fail)) only [admQ, lenB, lowB_len, macB_len, tagB_len, turnB_len, aFill, AK.cls, implies_true, ↓reduceIte, reduceCtorEq, if_true, if_false, Nat.reduceAdd, Nat.reduceEqDiff, Nat.reduceMod, Nat.reduceLT, Nat.reduceLeDiff, Nat.reduceSub, Nat.reduceMul, Nat.reduceBEq, Int.reduceAdd, Int.reduceSub, Int.reduceMul, Int.reduceNeg, Int.reduceLT, Int.reduceLE, Int.reduceToNat, Int.reduceEq, Int.reduceBEq]
    have hlC := kC.len
    refine ⟨kC.trans k3, fun _ => ?_, fun h => absurd hp h⟩
    have e1 : [turnB key e n b, tagB key head e n (turnB key e n b)].flatten = sealB key head e n b := by simp [sealB]
    rw [e1] at g3
    exact g3.low hlC
  · simp -implicitDefEqProofs (disch := (first | omega | (simp only [lenB, lowB_len, macB_len, tagB_len, turnB_len] <;> omega) | fail)) only [admQ, lenB, lowB_len, macB_len, tagB_len, turnB_len, aFill, AK.cls, implies_true, ↓reduceIte, reduceCtorEq, if_true, if_false, Nat.reduceAdd, Nat.reduceEqDiff, Nat.reduceMod, Nat.reduceLT, Nat.reduceLeDiff, Nat.reduceSub, Nat.reduceMul, Nat.reduceBEq, Int.reduceAdd, Int.reduceSub, Int.reduceMul, Int.reduceNeg, Int.reduceLT, Int.reduceLE, Int.reduceToNat, Int.reduceEq, Int.reduceBEq, decide_eq_false hp, Bool.not_false]
    exact ⟨.app _ _ _, fun h => absurd h hp⟩
/-- Was it sealed so? -/
def openP (key head : List B8) (e n : Int) (s : List B8) : Prop := placedP e n ∧ 32 ≤ s.length ∧ tagB key head e n (s.take (s.length - 32)) = s.drop (s.length - 32)
theorem ans_seopen {m : Mem} {x c kb k : Nat} {key head b : List B8} {hx bx : AV} {e n : Int} (hs : SBox m x c kb k key) (hh : RdB m hx head) (hb : RdB m bx b) (hl : head.length ≤ 100000 ∧ b.length ≤ 100000) :
    Ans Tryd.prog 54 [.ptr x 0, .int .i64 e, .int .i64 n, hx, bx] m fun r m' => Kept [] m m' ∧ (openP key head e n b → ∃ p, m.length ≤ p ∧ r = .tup [.sl p 0 (b.length - 32) (b.length - 32) 0, .bool true] ∧ own m' p = some (bys (turnB key e n (b.take (b.length - 32))))) ∧ (¬ openP key head e n b → r = .tup [.nils, .bool false]) := by
  refine ans_ret mixed ok54 ?_
  have hd := fun e => (Kept.app [] m e).row hs.hd (by simp)
  simp -implicitDefEqProofs (disch := (first | omega | (simp only [lenB, lowB_len, macB_len, tagB_len, turnB_len] <;> omega) | fail)) only [admQ, lenB, lowB_len, macB_len, tagB_len, turnB_len, aFill, AK.cls, implies_true, ↓reduceIte, reduceCtorEq, if_true, if_false, Nat.reduceAdd, Nat.reduceEqDiff, Nat.reduceMod, Nat.reduceLT, Nat.reduceLeDiff, Nat.reduceSub, Nat.reduceMul, Nat.reduceBEq, Int.reduceAdd, Int.reduceSub, Int.reduceMul, Int.reduceNeg, Int.reduceLT, Int.reduceLE, Int.reduceToNat, Int.reduceEq, Int.reduceBEq, c54, r54, hd, hb.len]
  refine (ans_seplaced (by rw [rowOf_app_at0]; rfl)).mono ?_
  rintro _ _ ⟨rfl, rfl⟩
  by_cases hp : placedP e n
  · simp -implicitDefEqProofs (disch := (first | omega | (simp only [lenB, lowB_len, macB_len, tagB_len, turnB_len] <;> omega) | fail)) only [admQ, lenB, lowB_len, macB_len, tagB_len, turnB_len, aFill, AK.cls, implies_true, ↓reduceIte, reduceCtorEq, if_true, if_false, Nat.reduceAdd, Nat.reduceEqDiff, Nat.reduceMod, Nat.reduceLT, Nat.reduceLeDiff, Nat.reduceSub, Nat.reduceMul, Nat.reduceBEq, Int.reduceAdd, Int.reduceSub, Int.reduceMul, Int.reduceNeg, Int.reduceLT, Int.reduceLE, Int.reduceToNat, Int.reduceEq, Int.reduceBEq, decide_eq_true hp, hd, Bool.not_true]
    have k0 := Kept.app [] m [Blk.row [.int .i64 e, .int .i64 n] false]
    generalize m ++ [Blk.row [.int .i64 e, .int .i64 n] false] = A at k0
    by_cases h32 : b.length < 32
    · have hno : ¬ openP key head e n b := fun h => by have := h.2.1; omega
      simp -implicitDefEqProofs (disch := (first | omega | (simp only [lenB, lowB_len, macB_len, tagB_len, turnB_len] <;> omega) | fail)) only [admQ, lenB, lowB_len, macB_len, tagB_len, turnB_len, aFill, AK.cls, implies_true, ↓reduceIte, reduceCtorEq, if_true, if_false, Nat.reduceAdd, Nat.reduceEqDiff, Nat.reduceMod, Nat.reduceLT, Nat.reduceLeDiff, Nat.reduceSub, Nat.reduceMul, Nat.reduceBEq, Int.reduceAdd, Int.reduceSub, Int.reduceMul, Int.reduceNeg, Int.reduceLT, Int.reduceLE, Int.reduceToNat, Int.reduceEq, Int.reduceBEq]
      exact ⟨k0, fun h => absurd h hno⟩
    · rw [show (b.length : Int) - 32 = ((b.length - 32 : Nat) : Int) by omega]
      obtain ⟨q, o, cap, sl, cc, rfl, hrow, hat, hlen, hcap, hsl, htk⟩ := hb.cons (i := 0) (by omega)
      have hbA := hb.kept0 k0
      have hrA := k0.row hrow (by simp)
      simp -implicitDefEqProofs (disch := (first | omega | (simp only [lenB, lowB_len, macB_len, tagB_len, turnB_len] <;> omega) | fail)) only [admQ, lenB, lowB_len, macB_len, tagB_len, turnB_len, aFill, AK.cls, implies_true, ↓reduceIte, reduceCtorEq, if_true, if_false, Nat.reduceAdd, Nat.reduceEqDiff, Nat.reduceMod, Nat.reduceLT, Nat.reduceLeDiff, Nat.reduceSub, Nat.reduceMul, Nat.reduceBEq, Int.reduceAdd, Int.reduceSub, Int.reduceMul, Int.reduceNeg, Int.reduceLT, Int.reduceLE, Int.reduceToNat, Int.reduceEq, Int.reduceBEq]
      refine (ans_setag (hs.kept0 k0) (hh.kept0 k0) (hbA.take (k := b.length - 32) (by omega)) hp ⟨by omega, by simp; omega⟩).mono ?_
      rintro _ m1 ⟨rfl, k1⟩
      have hr1 := k1.row hrA (by simp)
      have hcut : List.take 32 (List.drop (o + (b.length - 32)) cc) = bys (b.drop (b.length - 32)) := by
        show _ = (b.drop (b.length - 32)).map b8
        have h4 : b.map b8 = List.take b.length (List.drop o cc) := htk.symm
        rw [List.map_drop, h4, List.drop_take, List.drop_drop, show b.length - (b.length - 32) = 32 by omega]
      have hdl : (b.drop (b.length - 32)).length = 32 := by simp; omega
      simp -implicitDefEqProofs (disch := (first | omega | (simp only [lenB, lowB_len, macB_len, tagB_len, turnB_len] <;> omega) | fail)) only [admQ, lenB, lowB_len, macB_len, tagB_len, turnB_len, aFill, AK.cls, implies_true, ↓reduceIte, reduceCtorEq, if_true, if_false, Nat.reduceAdd, Nat.reduceEqDiff, Nat.reduceMod, Nat.reduceLT, Nat.reduceLeDiff, Nat.reduceSub, Nat.reduceMul, Nat.reduceBEq, Int.reduceAdd, Int.reduceSub, Int.reduceMul, Int.reduceNeg, Int.reduceLT, Int.reduceLE, Int.reduceToNat, Int.reduceEq, Int.reduceBEq, hr1, hrA, hcut]
      refine (ans_macsame (tagB_len _ _ _ _ _) hdl).mono ?_
      rintro _ m2 ⟨rfl, k2⟩
      have K2 := k0.trans (k1.trans k2)
      by_cases hok : tagB key head e n (b.take (b.length - 32)) = b.drop (b.length - 32)
      · have hyes : openP key head e n b := ⟨hp, by omega, hok⟩
        have hb2 := hb.kept0 K2
        simp -implicitDefEqProofs (disch := (first | omega | (simp only [lenB, lowB_len, macB_len, tagB_len, turnB_len] <;> omega) | fail)) only [admQ, lenB, lowB_len, macB_len, tagB_len, turnB_len, aFill, AK.cls, implies_true, ↓reduceIte, reduceCtorEq, if_true, if_false, Nat.reduceAdd, Nat.reduceEqDiff, Nat.reduceMod, Nat.reduceLT, Nat.reduceLeDiff, Nat.reduceSub, Nat.reduceMul, Nat.reduceBEq, Int.reduceAdd, Int.reduceSub, Int.reduceMul, Int.reduceNeg, Int.reduceLT, Int.reduceLE, Int.reduceToNat, Int.reduceEq, Int.reduceBEq, beq_iff_eq.mpr hok, Bool.not_true, (hs.kept0 K2).hd, k2.row hr1 (by simp), hcut]
        have h8 : (b.take (b.length - 32)).length = b.length - 32 := by simp
        refine (ans_ctrxor (hs.kept0 K2).ci e n (hb2.take (k := b.length - 32) (by omega)) (by omega)).mono ?_
        rintro _ m3 ⟨p, rfl, k3, hp3, o3⟩
        simp -implicitDefEqProofs (disch := (first | omega | (simp only [lenB, lowB_len, macB_len, tagB_len, turnB_len] <;> omega) | fail)) only [admQ, lenB, lowB_len, macB_len, tagB_len, turnB_len, aFill, AK.cls, implies_true, ↓reduceIte, reduceCtorEq, if_true, if_false, Nat.reduceAdd, Nat.reduceEqDiff, Nat.reduceMod, Nat.reduceLT, Nat.reduceLeDiff, Nat.reduceSub, Nat.reduceMul, Nat.reduceBEq, Int.reduceAdd, Int.reduceSub, Int.reduceMul, Int.reduceNeg, Int.reduceLT, Int.reduceLE, Int.reduceToNat, Int.reduceEq, Int.reduceBEq]
        rw [h8]
        have hl2 := K2.len
        exact ⟨K2.trans k3, fun _ => ⟨p, by omega, rfl, o3⟩, fun h => absurd hyes h⟩
      · have hno : ¬ openP key head e n b := fun h => hok h.2.2
        simp -implicitDefEqProofs (disch := (first | omega | (simp only [lenB, lowB_len, macB_len, tagB_len, turnB_len] <;> omega) | fail)) only [admQ, lenB, lowB_len, macB_len, tagB_len, turnB_len, aFill, AK.cls, implies_true, ↓reduceIte, reduceCtorEq, if_true, if_false, Nat.reduceAdd, Nat.reduceEqDiff, Nat.reduceMod, Nat.reduceLT, Nat.reduceLeDiff, Nat.reduceSub, Nat.reduceMul, Nat.reduceBEq, Int.reduceAdd, Int.reduceSub, Int.reduceMul, Int.reduceNeg, Int.reduceLT, Int.reduceLE, Int.reduceToNat, Int.reduceEq, Int.reduceBEq, beq_eq_false_iff_ne.mpr hok, Bool.not_false, k2.row hr1 (by simp), hcut]
        exact ⟨K2, fun h => absurd h hno⟩
  · have hno : ¬ openP key head e n b := fun h => hp h.1
    simp -implicitDefEqProofs (disch := (first | omega | (simp only [lenB, lowB_len, macB_len, tagB_len, turnB_len] <;> omega) | fail)) only [admQ, lenB, lowB_len, macB_len, tagB_len, turnB_len, aFill, AK.cls, implies_true, ↓reduceIte, reduceCtorEq, if_true, if_false, Nat.reduceAdd, Nat.reduceEqDiff, Nat.reduceMod, Nat.reduceLT, Nat.reduceLeDiff, Nat.reduceSub, Nat.reduceMul, Nat.reduceBEq, Int.reduceAdd, Int.reduceSub, Int.reduceMul, Int.reduceNeg, Int.reduceLT, Int.reduceLE, Int.reduceToNat, Int.reduceEq, Int.reduceBEq, decide_eq_false hp, Bool.not_false]
    exact ⟨.app _ _ _, fun h => absurd h hno⟩
end Go.Proofs.YtmnlmjlmbceimaaDoor
end
section
/- Sealing: the chapter's example. -/
namespace Go.Proofs.YtmnlmjlmbceimaaDoor
open Go Go.Adm
set_option linter.unusedSimpArgs false
set_option linter.unusedVariables false
set_option maxRecDepth 100000
theorem turnB_back (key : List B8) (e n : Int) (b : List B8) : turnB key e n (turnB key e n b) = b := by
  apply gb_ext (by rw [turnB_len, turnB_len])
  intro i hi
  rw [turnB_len, turnB_len] at hi
  unfold turnB xorB
  rw [gb_tab _ (by rw [tab_len]; exact hi), gb_tab _ hi]
  generalize ksAt _ _ _ _ i = z
  rw [BitVec.xor_assoc, BitVec.xor_self, BitVec.xor_zero]
theorem sealB_len (key head : List B8) (e n : Int) (b : List B8) : (sealB key head e n b).length = b.length + 32 := by rw [sealB, List.length_append, turnB_len, tagB_len]
theorem sealB_take (key head : List B8) (e n : Int) (b : List B8) : (sealB key head e n b).take ((sealB key head e n b).length - 32) = turnB key e n b := by
  rw [sealB_len, sealB, Nat.add_sub_cancel]
  exact List.take_left' (turnB_len _ _ _ _)
theorem sealB_drop (key head : List B8) (e n : Int) (b : List B8) : (sealB key head e n b).drop ((sealB key head e n b).length - 32) = tagB key head e n (turnB key e n b) := by
  rw [sealB_len, sealB, Nat.add_sub_cancel]
  exact List.drop_left' (turnB_len _ _ _ _)
theorem openP_seal {key head : List B8} {e n : Int} (b : List B8) (h : placedP e n) : openP key head e n (sealB key head e n b) :=
  ⟨h, by rw [sealB_len]; omega, by rw [sealB_take, sealB_drop]⟩
end Go.Proofs.YtmnlmjlmbceimaaDoor
end
section
/- Names: numbers as bytes; the library's lists of bytes. -/
namespace Go.Proofs.YtmnlmjlmbceimaaDoor
open Go Go.Adm
set_option linter.unusedSimpArgs false
set_option linter.unusedVariables false
set_option maxRecDepth 100000
theorem nw64 {k : Nat} (h : k < 18446744073709551616) : IntKind.u64.wrap (k : Int) = k := by
  rw [wr_u64, BitVec.ofInt_natCast, BitVec.toNat_ofNat, Nat.mod_eq_of_lt h]
/-- A number's eight bytes. -/
def numB (v : Nat) : List B8 := lowB v 8
theorem numB_len (v : Nat) : (numB v).length = 8 := lowB_len _ _
theorem ans_nnumber (v : Nat) (hv : v < 4611686018427387904) (m : Mem) : Ans Tryd.prog 74 [.int .i64 v] m fun r m' => ∃ p, r = .sl p 0 8 8 0 ∧ Kept [] m m' ∧ m.length ≤ p ∧ own m' p = some (bys (numB v)) := by
  refine ans_ret mixed ok74 ?_
  simp -implicitDefEqProofs (disch := (first | omega | (simp only [lenB, lowB_len, numB_len] <;> omega) | fail)) only [admQ, lenB, lowB_len, numB_len, aFill, AK.cls, implies_true, ↓reduceIte, reduceCtorEq, if_true, if_false, Nat.reduceAdd, Nat.reduceEqDiff, Nat.reduceMod, Nat.reduceLT, Nat.reduceLeDiff, Nat.reduceSub, Nat.reduceMul, Nat.reduceBEq, Int.reduceAdd, Int.reduceSub, Int.reduceMul, Int.reduceNeg, Int.reduceLT, Int.reduceLE, Int.reduceToNat, Int.reduceEq, Int.reduceBEq, c74, r74]
  have hr : rep 8 [AV.int .u8 0] = bys (upTo 8 (fun i => byV v (7 - i)) (fun _ => 0#8) 0) := by rw [upTo_zero, tab_const]; rfl
  simp -implicitDefEqProofs (disch := (first | omega | (simp only [lenB, lowB_len, numB_len] <;> omega) | fail)) only [admQ, lenB, lowB_len, numB_len, aFill, AK.cls, implies_true, ↓reduceIte, reduceCtorEq, if_true, if_false, Nat.reduceAdd, Nat.reduceEqDiff, Nat.reduceMod, Nat.reduceLT, Nat.reduceLeDiff, Nat.reduceSub, Nat.reduceMul, Nat.reduceBEq, Int.reduceAdd, Int.reduceSub, Int.reduceMul, Int.reduceNeg, Int.reduceLT, Int.reduceLE, Int.reduceToNat, Int.reduceEq, Int.reduceBEq, hr]
  refine LoopW.on (fun i : Nat => [(0, .int .i64 v), (3, .sl m.length 0 8 8 0), (7, .int .i64 8), (8, .int .i64 i)]) (fun i => 8 - i)
    (fun i M => i ≤ 8 ∧ M = m ++ [.row (bys (upTo 8 (fun i => byV v (7 - i)) (fun _ => 0#8) i)) false]) ?_ 0 _ _ rfl ⟨by omega, rfl⟩
  rintro i M X ⟨hi, rfl⟩ hX
  by_cases hlt : i < 8
  · have hw : IntKind.u8.wrap ((v >>> (8 * (7 - i)) : Nat) : Int) = ((byV v (7 - i)).toNat : Int) := wrap_u8 _
    have hu := upTo_set (n := 8) (i := i) (f := fun i => byV v (7 - i)) (g := fun _ => 0#8)
    simp -implicitDefEqProofs (disch := (first | omega | (simp only [lenB, lowB_len, numB_len] <;> omega) | fail)) only [admQ, lenB, lowB_len, numB_len, aFill, AK.cls, implies_true, ↓reduceIte, reduceCtorEq, if_true, if_false, Nat.reduceAdd, Nat.reduceEqDiff, Nat.reduceMod, Nat.reduceLT, Nat.reduceLeDiff, Nat.reduceSub, Nat.reduceMul, Nat.reduceBEq, Int.reduceAdd, Int.reduceSub, Int.reduceMul, Int.reduceNeg, Int.reduceLT, Int.reduceLE, Int.reduceToNat, Int.reduceEq, Int.reduceBEq, fdiv_nat, hw, @nw64, splice_byte, hu]
    exact hX (i + 1) _ _ rfl (by omega) ⟨by omega, rfl⟩
  · obtain rfl : i = 8 := by omega
    rw [upTo_all]
    simp -implicitDefEqProofs (disch := (first | omega | (simp only [lenB, lowB_len, numB_len] <;> omega) | fail)) only [admQ, lenB, lowB_len, numB_len, aFill, AK.cls, implies_true, ↓reduceIte, reduceCtorEq, if_true, if_false, Nat.reduceAdd, Nat.reduceEqDiff, Nat.reduceMod, Nat.reduceLT, Nat.reduceLeDiff, Nat.reduceSub, Nat.reduceMul, Nat.reduceBEq, Int.reduceAdd, Int.reduceSub, Int.reduceMul, Int.reduceNeg, Int.reduceLT, Int.reduceLE, Int.reduceToNat, Int.reduceEq, Int.reduceBEq]
    exact ⟨_, rfl, .app _ _ _, Nat.le_refl _, by rw [own_app_at0]; rfl⟩
/-- May an epoch or a number be? -/
def within (e : Int) : Prop := 0 ≤ e ∧ e ≤ 1099511627776
instance (e : Int) : Decidable (within e) := by unfold within; infer_instance
theorem ans_nwithin (e : Int) (m : Mem) : Ans Tryd.prog 76 [.int .i64 e] m fun r m' => r = .bool (decide (within e)) ∧ m' = m := by
  refine ans_ret mixed ok76 ?_
  by_cases h1 : e ≥ 0
  · by_cases h2 : e ≤ 1099511627776
    · simp -implicitDefEqProofs (disch := (first | omega | (simp only [lenB, lowB_len, numB_len] <;> omega) | fail)) only [admQ, lenB, lowB_len, numB_len, aFill, AK.cls, implies_true, ↓reduceIte, reduceCtorEq, if_true, if_false, Nat.reduceAdd, Nat.reduceEqDiff, Nat.reduceMod, Nat.reduceLT, Nat.reduceLeDiff, Nat.reduceSub, Nat.reduceMul, Nat.reduceBEq, Int.reduceAdd, Int.reduceSub, Int.reduceMul, Int.reduceNeg, Int.reduceLT, Int.reduceLE, Int.reduceToNat, Int.reduceEq, Int.reduceBEq, c76, r76, dec_t h1, dec_t h2, dec_t (show within e from ⟨h1, h2⟩)]
    · simp -implicitDefEqProofs (disch := (first | omega | (simp only [lenB, lowB_len, numB_len] <;> omega) | fail)) only [admQ, lenB, lowB_len, numB_len, aFill, AK.cls, implies_true, ↓reduceIte, reduceCtorEq, if_true, if_false, Nat.reduceAdd, Nat.reduceEqDiff, Nat.reduceMod, Nat.reduceLT, Nat.reduceLeDiff, Nat.reduceSub, Nat.reduceMul, Nat.reduceBEq, Int.reduceAdd, Int.reduceSub, Int.reduceMul, Int.reduceNeg, Int.reduceLT, Int.reduceLE, Int.reduceToNat, Int.reduceEq, Int.reduceBEq, c76, r76, dec_t h1, dec_f h2, dec_f (show ¬ within e from fun h => h2 h.2)]
  · simp -implicitDefEqProofs (disch := (first | omega | (simp only [lenB, lowB_len, numB_len] <;> omega) | fail)) only [admQ, lenB, lowB_len, numB_len, aFill, AK.cls, implies_true, ↓reduceIte, reduceCtorEq, if_true, if_false, Nat.reduceAdd, Nat.reduceEqDiff, Nat.reduceMod, Nat.reduceLT, Nat.reduceLeDiff, Nat.reduceSub, Nat.reduceMul, Nat.reduceBEq, Int.reduceAdd, Int.reduceSub, Int.reduceMul, Int.reduceNeg, Int.reduceLT, Int.reduceLE, Int.reduceToNat, Int.reduceEq, Int.reduceBEq, c76, r76, dec_f h1, dec_f (show ¬ within e from fun h => h1 h.1)]
theorem ans_slgrow (n : Nat) (hn : n ≤ 1000000000) (m : Mem) : Ans Tryd.prog 77 [.nils, .int .i64 n] m fun r m' => Kept [] m m' ∧ Room m.length m' r [] n := by
  refine ans_ret mixed ok77 ?_
  by_cases h0 : n = 0
  · subst h0
    simp -implicitDefEqProofs (disch := (first | omega | (simp only [lenB, lowB_len, numB_len] <;> omega) | fail)) only [admQ, lenB, lowB_len, numB_len, aFill, AK.cls, implies_true, ↓reduceIte, reduceCtorEq, if_true, if_false, Nat.reduceAdd, Nat.reduceEqDiff, Nat.reduceMod, Nat.reduceLT, Nat.reduceLeDiff, Nat.reduceSub, Nat.reduceMul, Nat.reduceBEq, Int.reduceAdd, Int.reduceSub, Int.reduceMul, Int.reduceNeg, Int.reduceLT, Int.reduceLE, Int.reduceToNat, Int.reduceEq, Int.reduceBEq, c77, r77, mapR, pCap]
    exact ⟨.refl _ _, .inl ⟨rfl, rfl, rfl⟩⟩
  · simp -implicitDefEqProofs (disch := (first | omega | (simp only [lenB, lowB_len, numB_len] <;> omega) | fail)) only [admQ, lenB, lowB_len, numB_len, aFill, AK.cls, implies_true, ↓reduceIte, reduceCtorEq, if_true, if_false, Nat.reduceAdd, Nat.reduceEqDiff, Nat.reduceMod, Nat.reduceLT, Nat.reduceLeDiff, Nat.reduceSub, Nat.reduceMul, Nat.reduceBEq, Int.reduceAdd, Int.reduceSub, Int.reduceMul, Int.reduceNeg, Int.reduceLT, Int.reduceLE, Int.reduceToNat, Int.reduceEq, Int.reduceBEq, c77, r77, mapR, pCap, aAppendZ]
    refine ⟨.app _ _ _, .inr ⟨by omega, m.length, rfl, ?_, Nat.le_refl _, by simp⟩⟩
    rw [own_app_at0]
    have hr : rep n [AV.int .u8 0] = bys (List.replicate n 0#8) := by rw [← bys_rep]; simp [rep]
    simp [own_c0, hr]
theorem ans_slconcat {m : Mem} {p k : Nat} {xs : List AV} {ls : List (List B8)} (hp : rowOf m p = some xs) (hr : RdL m xs ls) (hk : ls.length = k) (hb : k ≤ 1000 ∧ ls.flatten.length ≤ 900000000) :
    Ans Tryd.prog 73 [.sl p 0 k k 0] m fun r m' => Kept [] m m' ∧ GrB m.length m' r ls.flatten := by
  refine ans_ret mixed ok73 ?_
  simp -implicitDefEqProofs (disch := (first | omega | (simp only [lenB, lowB_len, numB_len] <;> omega) | fail)) only [admQ, lenB, lowB_len, numB_len, aFill, AK.cls, implies_true, ↓reduceIte, reduceCtorEq, if_true, if_false, Nat.reduceAdd, Nat.reduceEqDiff, Nat.reduceMod, Nat.reduceLT, Nat.reduceLeDiff, Nat.reduceSub, Nat.reduceMul, Nat.reduceBEq, Int.reduceAdd, Int.reduceSub, Int.reduceMul, Int.reduceNeg, Int.reduceLT, Int.reduceLE, Int.reduceToNat, Int.reduceEq, Int.reduceBEq, c73, r73]
  refine LoopW.on (fun i : Nat => [(0, .sl p 0 k k 0), (3, .int .i64 ((ls.take i).flatten.length : Nat)), (9, .sl p 0 k k 0), (10, .int .i64 k), (11, .int .i64 i)]) (fun i => k - i) (fun i M => i ≤ k ∧ M = m) ?_ 0 _ _ rfl ⟨by omega, rfl⟩
  rintro i M X ⟨hi, rfl⟩ hX
  by_cases hlt : i < k
  · obtain ⟨l, hl⟩ : ∃ l, ls[i]? = some l := ⟨_, List.getElem?_eq_getElem (by omega)⟩
    obtain ⟨y, hy, hyr⟩ := hr.2 i l hl
    have hcat := flat_take hl
    have h1 := flat_len (ls := ls) (i + 1)
    rw [hcat, List.length_append] at h1
    simp -implicitDefEqProofs (disch := (first | omega | (simp only [lenB, lowB_len, numB_len] <;> omega) | fail)) only [admQ, lenB, lowB_len, numB_len, aFill, AK.cls, implies_true, ↓reduceIte, reduceCtorEq, if_true, if_false, Nat.reduceAdd, Nat.reduceEqDiff, Nat.reduceMod, Nat.reduceLT, Nat.reduceLeDiff, Nat.reduceSub, Nat.reduceMul, Nat.reduceBEq, Int.reduceAdd, Int.reduceSub, Int.reduceMul, Int.reduceNeg, Int.reduceLT, Int.reduceLE, Int.reduceToNat, Int.reduceEq, Int.reduceBEq, hp, hy, hyr.len]
    refine hX (i + 1) _ _ ?_ (by omega) ⟨by omega, rfl⟩
    rw [hcat, List.length_append]
    rfl
  · obtain rfl : i = k := by omega
    rw [List.take_of_length_le (by omega)]
    simp -implicitDefEqProofs (disch := (first | omega | (simp only [lenB, lowB_len, numB_len] <;> omega) | fail)) only [admQ, lenB, lowB_len, numB_len, aFill, AK.cls, implies_true, ↓reduceIte, reduceCtorEq, if_true, if_false, Nat.reduceAdd, Nat.reduceEqDiff, Nat.reduceMod, Nat.reduceLT, Nat.reduceLeDiff, Nat.reduceSub, Nat.reduceMul, Nat.reduceBEq, Int.reduceAdd, Int.reduceSub, Int.reduceMul, Int.reduceNeg, Int.reduceLT, Int.reduceLE, Int.reduceToNat, Int.reduceEq, Int.reduceBEq]
    clear hX X
    refine (ans_slgrow _ (by omega) _).mono ?_
    rintro z m1 ⟨k1, g1⟩
    simp -implicitDefEqProofs (disch := (first | omega | (simp only [lenB, lowB_len, numB_len] <;> omega) | fail)) only [admQ, lenB, lowB_len, numB_len, aFill, AK.cls, implies_true, ↓reduceIte, reduceCtorEq, if_true, if_false, Nat.reduceAdd, Nat.reduceEqDiff, Nat.reduceMod, Nat.reduceLT, Nat.reduceLeDiff, Nat.reduceSub, Nat.reduceMul, Nat.reduceBEq, Int.reduceAdd, Int.reduceSub, Int.reduceMul, Int.reduceNeg, Int.reduceLT, Int.reduceLE, Int.reduceToNat, Int.reduceEq, Int.reduceBEq]
    refine LoopW.on (fun t : Nat × AV => [(6, t.2), (25, .sl p 0 i i 0), (26, .int .i64 i), (27, .int .i64 t.1)]) (fun t => i - t.1) (fun t N => t.1 ≤ i ∧ Kept [] M N ∧ Room M.length N t.2 (ls.take t.1).flatten ls.flatten.length) ?_ (0, z) _ _ rfl ⟨by simp, k1, g1⟩
    clear k1 g1 hlt hi
    rintro ⟨j, v⟩ N X ⟨hj, kk, g⟩ hX
    change Room M.length N v (ls.take j).flatten _ at g
    simp only at hj
    by_cases hlt : j < i
    · obtain ⟨l, hl⟩ : ∃ l, ls[j]? = some l := ⟨_, List.getElem?_eq_getElem (by omega)⟩
      obtain ⟨y, hy, hyr⟩ := hr.2 j l hl
      have hrow := kk.row hp (by simp)
      have hcat := flat_take hl
      have h1 := flat_len (ls := ls) (j + 1)
      rw [hcat, List.length_append] at h1
      simp -implicitDefEqProofs (disch := (first | omega | (simp only [lenB, lowB_len, numB_len] <;> omega) | fail)) only [admQ, lenB, lowB_len, numB_len, aFill, AK.cls, implies_true, ↓reduceIte, reduceCtorEq, if_true, if_false, Nat.reduceAdd, Nat.reduceEqDiff, Nat.reduceMod, Nat.reduceLT, Nat.reduceLeDiff, Nat.reduceSub, Nat.reduceMul, Nat.reduceBEq, Int.reduceAdd, Int.reduceSub, Int.reduceMul, Int.reduceNeg, Int.reduceLT, Int.reduceLE, Int.reduceToNat, Int.reduceEq, Int.reduceBEq, hrow, hy]
      obtain ⟨x3, m3, e3, g3, k3⟩ := g.push (hyr.kept0 kk) h1
      refine someW_eq e3 ?_
      simp -implicitDefEqProofs (disch := (first | omega | (simp only [lenB, lowB_len, numB_len] <;> omega) | fail)) only [admQ, lenB, lowB_len, numB_len, aFill, AK.cls, implies_true, ↓reduceIte, reduceCtorEq, if_true, if_false, Nat.reduceAdd, Nat.reduceEqDiff, Nat.reduceMod, Nat.reduceLT, Nat.reduceLeDiff, Nat.reduceSub, Nat.reduceMul, Nat.reduceBEq, Int.reduceAdd, Int.reduceSub, Int.reduceMul, Int.reduceNeg, Int.reduceLT, Int.reduceLE, Int.reduceToNat, Int.reduceEq, Int.reduceBEq]
      refine hX (j + 1, x3) _ _ rfl (by simp only; omega) ⟨by simp only; omega, kk.upon k3 g.low, ?_⟩
      show Room M.length m3 x3 (ls.take (j + 1)).flatten _
      rw [hcat]; exact g3
    · obtain rfl : j = i := by omega
      rw [List.take_of_length_le (by omega)] at g
      simp -implicitDefEqProofs (disch := (first | omega | (simp only [lenB, lowB_len, numB_len] <;> omega) | fail)) only [admQ, lenB, lowB_len, numB_len, aFill, AK.cls, implies_true, ↓reduceIte, reduceCtorEq, if_true, if_false, Nat.reduceAdd, Nat.reduceEqDiff, Nat.reduceMod, Nat.reduceLT, Nat.reduceLeDiff, Nat.reduceSub, Nat.reduceMul, Nat.reduceBEq, Int.reduceAdd, Int.reduceSub, Int.reduceMul, Int.reduceNeg, Int.reduceLT, Int.reduceLE, Int.reduceToNat, Int.reduceEq, Int.reduceBEq]
      exact ⟨kk, g.all rfl⟩
theorem ans_slequal {m : Mem} {x y : AV} {a b : List B8} (hx : RdB m x a) (hy : RdB m y b) (hl : a.length < 1152921504606846976) : Ans Tryd.prog 72 [x, y] m fun r m' => r = .bool (a == b) ∧ m' = m := by
  refine ans_ret mixed ok72 ?_
  by_cases h : a.length = b.length
  · have h' : ((a.length : Int) == (b.length : Int)) = true := by rw [h]; simp
    simp -implicitDefEqProofs (disch := (first | omega | (simp only [lenB, lowB_len, numB_len] <;> omega) | fail)) only [admQ, lenB, lowB_len, numB_len, aFill, AK.cls, implies_true, ↓reduceIte, reduceCtorEq, if_true, if_false, Nat.reduceAdd, Nat.reduceEqDiff, Nat.reduceMod, Nat.reduceLT, Nat.reduceLeDiff, Nat.reduceSub, Nat.reduceMul, Nat.reduceBEq, Int.reduceAdd, Int.reduceSub, Int.reduceMul, Int.reduceNeg, Int.reduceLT, Int.reduceLE, Int.reduceToNat, Int.reduceEq, Int.reduceBEq, c72, r72, hx.len, hy.len, h', Bool.not_true]
    refine LoopW.on (fun i : Nat => [(0, x), (1, y), (12, .int .i64 a.length), (13, .int .i64 i)]) (fun i => a.length - i) (fun i m' => m' = m ∧ i ≤ a.length ∧ ∀ j, j < i → gb a j = gb b j) ?_ 0 _ _ rfl ⟨rfl, by omega, fun j hj => by omega⟩
    rintro i _ X ⟨rfl, hi, hj⟩ hX
    by_cases hlt : i < a.length
    · obtain ⟨b1, o1, cap1, s1, c1, rfl, hr1, hg1, hl1, hc1, hs1, ht1⟩ := hx.cons hlt
      obtain ⟨b2, o2, cap2, s2, c2, rfl, hr2, hg2, hl2, hc2, hs2, ht2⟩ := hy.cons (by omega : i < b.length)
      have e1 := hg1 i hlt
      have e2 := hg2 i (by omega)
      cases he : gb a i == gb b i
      · have hne : (a == b) = false := by
          rw [beq_eq_false_iff_ne]; rintro rfl; simp at he
        simp -implicitDefEqProofs (disch := (first | omega | (simp only [lenB, lowB_len, numB_len] <;> omega) | fail)) only [admQ, lenB, lowB_len, numB_len, aFill, AK.cls, implies_true, ↓reduceIte, reduceCtorEq, if_true, if_false, Nat.reduceAdd, Nat.reduceEqDiff, Nat.reduceMod, Nat.reduceLT, Nat.reduceLeDiff, Nat.reduceSub, Nat.reduceMul, Nat.reduceBEq, Int.reduceAdd, Int.reduceSub, Int.reduceMul, Int.reduceNeg, Int.reduceLT, Int.reduceLE, Int.reduceToNat, Int.reduceEq, Int.reduceBEq, hr1, hr2, e1, e2, he, hne, Bool.not_false]
      · simp -implicitDefEqProofs (disch := (first | omega | (simp only [lenB, lowB_len, numB_len] <;> omega) | fail)) only [admQ, lenB, lowB_len, numB_len, aFill, AK.cls, implies_true, ↓reduceIte, reduceCtorEq, if_true, if_false, Nat.reduceAdd, Nat.reduceEqDiff, Nat.reduceMod, Nat.reduceLT, Nat.reduceLeDiff, Nat.reduceSub, Nat.reduceMul, Nat.reduceBEq, Int.reduceAdd, Int.reduceSub, Int.reduceMul, Int.reduceNeg, Int.reduceLT, Int.reduceLE, Int.reduceToNat, Int.reduceEq, Int.reduceBEq, hr1, hr2, e1, e2, he, Bool.not_true]
        refine hX (i + 1) _ _ rfl (by omega) ⟨rfl, by omega, fun j hj2 => ?_⟩
        by_cases hji : j = i
        · subst hji; simpa using he
        · exact hj j (by omega)
    · have he : (a == b) = true := by rw [beq_iff_eq]; exact gb_ext h fun j hj2 => hj j (by omega)
      simp -implicitDefEqProofs (disch := (first | omega | (simp only [lenB, lowB_len, numB_len] <;> omega) | fail)) only [admQ, lenB, lowB_len, numB_len, aFill, AK.cls, implies_true, ↓reduceIte, reduceCtorEq, if_true, if_false, Nat.reduceAdd, Nat.reduceEqDiff, Nat.reduceMod, Nat.reduceLT, Nat.reduceLeDiff, Nat.reduceSub, Nat.reduceMul, Nat.reduceBEq, Int.reduceAdd, Int.reduceSub, Int.reduceMul, Int.reduceNeg, Int.reduceLT, Int.reduceLE, Int.reduceToNat, Int.reduceEq, Int.reduceBEq, hx.len, he]
  · have h' : ((a.length : Int) == (b.length : Int)) = false := by rw [beq_eq_false_iff_ne]; omega
    have he : (a == b) = false := by rw [beq_eq_false_iff_ne]; rintro rfl; exact h rfl
    simp -implicitDefEqProofs (disch := (first | omega | (simp only [lenB, lowB_len, numB_len] <;> omega) | fail)) only [admQ, lenB, lowB_len, numB_len, aFill, AK.cls, implies_true, ↓reduceIte, reduceCtorEq, if_true, if_false, Nat.reduceAdd, Nat.reduceEqDiff, Nat.reduceMod, Nat.reduceLT, Nat.reduceLeDiff, Nat.reduceSub, Nat.reduceMul, Nat.reduceBEq, Int.reduceAdd, Int.reduceSub, Int.reduceMul, Int.reduceNeg, Int.reduceLT, Int.reduceLE, Int.reduceToNat, Int.reduceEq, Int.reduceBEq, c72, r72, hx.len, hy.len, h', he, Bool.not_false]
theorem ans_slclone {m : Mem} {x : AV} {l : List B8} (hx : RdB m x l) (hl : l.length ≤ 1000000000) : Ans Tryd.prog 75 [x] m fun r m' => Kept [] m m' ∧ GrB m.length m' r l ∧ ∀ b ∈ blkOf r, m.length ≤ b := by
  refine ans_ret mixed ok75 ?_
  rcases hx with ⟨rfl, rfl⟩ | ⟨b, o, cap, s, c, rfl, h2⟩
  · simp -implicitDefEqProofs (disch := (first | omega | (simp only [lenB, lowB_len, numB_len] <;> omega) | fail)) only [admQ, lenB, lowB_len, numB_len, aFill, AK.cls, implies_true, ↓reduceIte, reduceCtorEq, if_true, if_false, Nat.reduceAdd, Nat.reduceEqDiff, Nat.reduceMod, Nat.reduceLT, Nat.reduceLeDiff, Nat.reduceSub, Nat.reduceMul, Nat.reduceBEq, Int.reduceAdd, Int.reduceSub, Int.reduceMul, Int.reduceNeg, Int.reduceLT, Int.reduceLE, Int.reduceToNat, Int.reduceEq, Int.reduceBEq, c75, r75]
    exact ⟨.refl _ _, .nils .., by simp [blkOf]⟩
  · have hx : RdB m (.sl b o l.length cap s) l := .inr ⟨b, o, cap, s, c, rfl, h2⟩
    simp -implicitDefEqProofs (disch := (first | omega | (simp only [lenB, lowB_len, numB_len] <;> omega) | fail)) only [admQ, lenB, lowB_len, numB_len, aFill, AK.cls, implies_true, ↓reduceIte, reduceCtorEq, if_true, if_false, Nat.reduceAdd, Nat.reduceEqDiff, Nat.reduceMod, Nat.reduceLT, Nat.reduceLeDiff, Nat.reduceSub, Nat.reduceMul, Nat.reduceBEq, Int.reduceAdd, Int.reduceSub, Int.reduceMul, Int.reduceNeg, Int.reduceLT, Int.reduceLE, Int.reduceToNat, Int.reduceEq, Int.reduceBEq, c75, r75]
    have gz : GrB m.length (m ++ [Blk.row [] false]) (.sl m.length 0 0 0 0) [] := .zero (by rw [own_app_at0]; rfl)
    obtain ⟨x4, m4, e4, g4, k4, a4, n4⟩ := GrA.pushs5 (sz := 1) (bytes := 1) gz Nat.one_pos (hx.app [Blk.row [] false]).elems (hx.app [Blk.row [] false]).lenA (by simp) (by simp; omega) (by simp)
    refine someW_eq e4 ?_
    simp -implicitDefEqProofs (disch := (first | omega | (simp only [lenB, lowB_len, numB_len] <;> omega) | fail)) only [admQ, lenB, lowB_len, numB_len, aFill, AK.cls, implies_true, ↓reduceIte, reduceCtorEq, if_true, if_false, Nat.reduceAdd, Nat.reduceEqDiff, Nat.reduceMod, Nat.reduceLT, Nat.reduceLeDiff, Nat.reduceSub, Nat.reduceMul, Nat.reduceBEq, Int.reduceAdd, Int.reduceSub, Int.reduceMul, Int.reduceNeg, Int.reduceLT, Int.reduceLE, Int.reduceToNat, Int.reduceEq, Int.reduceBEq]
    refine ⟨a4 _ _ (.app _ _ _) (Nat.le_refl _), by simpa [GrB] using g4, fun q hq => ?_⟩
    by_cases h0 : 0 < l.length
    · have := n4 h0 q hq; simp at this; omega
    · have e := app_none (m := m ++ [Blk.row [] false]) (size := 1) (bytes := 1) (s := .sl m.length 0 0 0 0) (x := .sl b o l.length cap s) (congrArg some (show l.length = 0 by omega)) rfl
      rw [e] at e4; cases e4
      simp [blkOf] at hq; omega
theorem ans_copybytes {m : Mem} {x : AV} {l : List B8} (hx : RdB m x l) (hl : l.length ≤ 1000000000) :
    Ans Tryd.prog 17 [x] m fun r m' => Kept [] m m' ∧ GrB m.length m' r l := by
  refine ans_ret mixed ok17 ?_
  simp -implicitDefEqProofs (disch := (first | omega | (simp only [lenB, lowB_len, numB_len] <;> omega) | fail)) only [admQ, lenB, lowB_len, numB_len, aFill, AK.cls, implies_true, ↓reduceIte, reduceCtorEq, if_true, if_false, Nat.reduceAdd, Nat.reduceEqDiff, Nat.reduceMod, Nat.reduceLT, Nat.reduceLeDiff, Nat.reduceSub, Nat.reduceMul, Nat.reduceBEq, Int.reduceAdd, Int.reduceSub, Int.reduceMul, Int.reduceNeg, Int.reduceLT, Int.reduceLE, Int.reduceToNat, Int.reduceEq, Int.reduceBEq, c17, r17]
  refine LoopW.on (fun t : Nat × AV => [(0, x), (3, t.2), (4, .int .i64 t.1)]) (fun t => l.length - t.1) (fun t M => t.1 ≤ l.length ∧ Kept [] m M ∧ GrB m.length M t.2 (l.take t.1)) ?_ (0, .nils) _ _ rfl ⟨by simp, .refl _ _, .nils ..⟩
  rintro ⟨i, y⟩ M X ⟨hi, kk, g⟩ hX
  change GrB m.length M y (l.take i) at g
  simp only at hi
  by_cases hlt : i < l.length
  · have hlen := hx.len
    obtain ⟨b, o, cap, s, c, rfl, hrow, hat, _⟩ := hx.cons hlt
    have hr := kk.row hrow (by simp)
    have e := hat i hlt
    simp -implicitDefEqProofs (disch := (first | omega | (simp only [lenB, lowB_len, numB_len] <;> omega) | fail)) only [admQ, lenB, lowB_len, numB_len, aFill, AK.cls, implies_true, ↓reduceIte, reduceCtorEq, if_true, if_false, Nat.reduceAdd, Nat.reduceEqDiff, Nat.reduceMod, Nat.reduceLT, Nat.reduceLeDiff, Nat.reduceSub, Nat.reduceMul, Nat.reduceBEq, Int.reduceAdd, Int.reduceSub, Int.reduceMul, Int.reduceNeg, Int.reduceLT, Int.reduceLE, Int.reduceToNat, Int.reduceEq, Int.reduceBEq, hlen, hr, e]
    obtain ⟨x3, m3, e3, g3, k3, a3⟩ := g.push (gb l i) (by simp; omega) kk.len
    refine someW_eq e3 ?_
    simp -implicitDefEqProofs (disch := (first | omega | (simp only [lenB, lowB_len, numB_len] <;> omega) | fail)) only [admQ, lenB, lowB_len, numB_len, aFill, AK.cls, implies_true, ↓reduceIte, reduceCtorEq, if_true, if_false, Nat.reduceAdd, Nat.reduceEqDiff, Nat.reduceMod, Nat.reduceLT, Nat.reduceLeDiff, Nat.reduceSub, Nat.reduceMul, Nat.reduceBEq, Int.reduceAdd, Int.reduceSub, Int.reduceMul, Int.reduceNeg, Int.reduceLT, Int.reduceLE, Int.reduceToNat, Int.reduceEq, Int.reduceBEq]
    refine hX (i + 1, x3) _ _ rfl (by simp only; omega) ⟨by simp only; omega, a3 _ _ kk (Nat.le_refl _), ?_⟩
    show GrB m.length m3 x3 (l.take (i + 1))
    rw [take_gb hlt]; exact g3
  · obtain rfl : i = l.length := by omega
    rw [List.take_length] at g
    simp -implicitDefEqProofs (disch := (first | omega | (simp only [lenB, lowB_len, numB_len] <;> omega) | fail)) only [admQ, lenB, lowB_len, numB_len, aFill, AK.cls, implies_true, ↓reduceIte, reduceCtorEq, if_true, if_false, Nat.reduceAdd, Nat.reduceEqDiff, Nat.reduceMod, Nat.reduceLT, Nat.reduceLeDiff, Nat.reduceSub, Nat.reduceMul, Nat.reduceBEq, Int.reduceAdd, Int.reduceSub, Int.reduceMul, Int.reduceNeg, Int.reduceLT, Int.reduceLE, Int.reduceToNat, Int.reduceEq, Int.reduceBEq, hx.len]
    exact ⟨kk, g⟩
end Go.Proofs.YtmnlmjlmbceimaaDoor
end
section
/- Names: what is remembered; sealed, opened, summed. -/
namespace Go.Proofs.YtmnlmjlmbceimaaDoor
open Go Go.Adm
set_option linter.unusedSimpArgs false
set_option linter.unusedVariables false
set_option maxRecDepth 100000
/-- What is sealed: an epoch, a number, a head, a plain. -/
abbrev Sd := Int × Int × List B8 × List B8
def sdC (s : Sd) : List AV := [.int .i64 s.1, .int .i64 s.2.1, .str (strOf s.2.2.1), .str (strOf s.2.2.2)]
def sdK (s : Sd) : AV := .agg (sdC s)
def txK (t : List B8) : AV := .str (strOf t)
abbrev sdM : MK := .agg [.i, .i, .s, .s]
theorem sd_key (a b : Sd) : mapEq sdM (sdK a) (sdK b) = some (decide (a = b)) := by
  obtain ⟨a1, a2, a3, a4⟩ := a
  obtain ⟨b1, b2, b3, b4⟩ := b
  simp only [mapEq, sdK, sdC, aEqCells, aEqCk, if_true, Option.bind_some, Option.map_some, strOf_beq, Bool.and_true]
  congr 1
  rw [Bool.eq_iff_iff]
  simp [Prod.ext_iff]
theorem sd_fit (a : Sd) : keyFits sdM (sdK a) = true := rfl
/-- A Names: at x, in the blocks W; S was sealed, T was summed. -/
structure Nm (m : Mem) (x : Nat) (W : List Nat) (S : List Sd) (T : List (List B8)) : Prop where
  ex : ∃ bs v bt, own m x = some [.map bs, v, .map bt] ∧ MapR sdK m bs S ∧ GrA 4 0 m v (S.flatMap sdC) ∧ MapR txK m bt T ∧ W = x :: bs :: bt :: blkOf v ∧ bs ≠ bt ∧ x ∉ blkOf v
theorem Nm.kept {m m' : Mem} {x : Nat} {W X : List Nat} {S : List Sd} {T : List (List B8)} (h : Nm m x W S T) (hk : Kept X m m') (hX : ∀ b ∈ W, b ∉ X) : Nm m' x W S T := by
  obtain ⟨bs, v, bt, h1, h2, h3, h4, rfl, h6⟩ := h.ex
  exact ⟨bs, v, bt, hk.own h1 (hX x (by simp)), h2.kept hk (hX bs (by simp)), h3.kept hk (fun b hb => hX b (by simp [hb])), h4.kept hk (hX bt (by simp)), rfl, h6⟩
theorem Nm.kept0 {m m' : Mem} {x : Nat} {W : List Nat} {S : List Sd} {T : List (List B8)} (h : Nm m x W S T) (hk : Kept [] m m') : Nm m' x W S T := h.kept hk (by simp)
theorem Nm.lt {m : Mem} {x : Nat} {W : List Nat} {S : List Sd} {T : List (List B8)} (h : Nm m x W S T) : ∀ b ∈ W, b < m.length := by
  obtain ⟨bs, v, bt, h1, h2, h3, h4, rfl, h6⟩ := h.ex
  simp only [List.mem_cons]
  rintro b (rfl | rfl | rfl | hb)
  · exact own_lt h1
  · exact h2.lt
  · exact h4.lt
  · exact h3.lt b hb
theorem ans_nnew (m : Mem) : Ans Tryd.prog 10 [] m fun r m' => ∃ x W, r = .ptr x 0 ∧ Kept [] m m' ∧ Nm m' x W [] [] ∧ ∀ b ∈ W, m.length ≤ b := by
  refine ans_ret mixed ok10 ?_
  simp -implicitDefEqProofs (disch := (first | omega | (simp only [lenB, lowB_len, numB_len] <;> omega) | fail)) only [admQ, lenB, lowB_len, numB_len, aFill, AK.cls, implies_true, ↓reduceIte, reduceCtorEq, if_true, if_false, Nat.reduceAdd, Nat.reduceEqDiff, Nat.reduceMod, Nat.reduceLT, Nat.reduceLeDiff, Nat.reduceSub, Nat.reduceMul, Nat.reduceBEq, Int.reduceAdd, Int.reduceSub, Int.reduceMul, Int.reduceNeg, Int.reduceLT, Int.reduceLE, Int.reduceToNat, Int.reduceEq, Int.reduceBEq, c10, r10, mapR, mkMp]
  refine ⟨m.length + 2, [m.length + 2, m.length, m.length + 1], rfl, .app _ _ _, ⟨m.length, .nils, m.length + 1, ?_, ?_, .nils .., ?_, rfl, by omega, by simp [blkOf]⟩, by simp⟩
  · rw [own_app_at]; rfl
  · exact (MapR.new sdK m).at_ (by simp)
  · have := MapR.new txK (m ++ [.map [] 0])
    rw [List.length_append] at this
    exact this.at_ (by simp)
def addN {α : Type} [DecidableEq α] (s : α) (S : List α) : List α := if s ∈ S then S else S ++ [s]
def posN {α : Type} [DecidableEq α] (s : α) (S : List α) : Nat := ((fidx s S).getD S.length) + 1
def zeros (n : Nat) : List B8 := List.replicate n 0#8
def nsealB (S : List Sd) (s : Sd) : List B8 := s.2.2.2 ++ zeros 24 ++ numB (posN s S)
theorem sd_len (S : List Sd) : (S.flatMap sdC).length = S.length * 4 := by
  induction S with
  | nil => rfl
  | cons a l ih => rw [List.flatMap_cons, List.length_append, ih, List.length_cons]; simp only [sdC, List.length_cons, List.length_nil]; omega
def nsealQ (m : Mem) (x : Nat) (W : List Nat) (S : List Sd) (T : List (List B8)) (e n : Int) (head plain : List B8) (r : AV) (m' : Mem) : Prop :=
  (within e ∧ within n → ∃ W', Kept W m m' ∧ Nm m' x W' (addN (e, n, head, plain) S) T ∧ (∀ b ∈ W', b ∈ W ∨ m.length ≤ b) ∧ GrB m.length m' r (nsealB S (e, n, head, plain)) ∧ ∀ b ∈ blkOf r, b ∉ W') ∧
      (¬ (within e ∧ within n) → r = .nils ∧ Kept [] m m')
theorem nsealTail {m M : Mem} {x : Nat} {W W' : List Nat} {S : List Sd} {T : List (List B8)} {bx : AV} {e n : Int} {head plain : List B8} (hp : within e ∧ within n) (hb : RdB M bx plain) (hS : S.length ≤ 1000) (hl : plain.length ≤ 100000)
    (hk : Kept W m M) (hN : Nm M x W' (addN (e, n, head, plain) S) T) (hW : ∀ b ∈ W', b ∈ W ∨ m.length ≤ b) (k : Nat) (hk1 : k = posN (e, n, head, plain) S) (hk2 : k ≤ 1001) :
    wpA Tryd.prog c70_2 [(4, bx), (12, .int .i64 (k : Int))] M (retQ [.tmp 10] (nsealQ m x W S T e n head plain)) := by
  simp -implicitDefEqProofs (disch := (first | omega | (simp only [lenB, lowB_len, numB_len] <;> omega) | fail)) only [admQ, lenB, lowB_len, numB_len, aFill, AK.cls, implies_true, ↓reduceIte, reduceCtorEq, if_true, if_false, Nat.reduceAdd, Nat.reduceEqDiff, Nat.reduceMod, Nat.reduceLT, Nat.reduceLeDiff, Nat.reduceSub, Nat.reduceMul, Nat.reduceBEq, Int.reduceAdd, Int.reduceSub, Int.reduceMul, Int.reduceNeg, Int.reduceLT, Int.reduceLE, Int.reduceToNat, Int.reduceEq, Int.reduceBEq, c70_2]
  have hr : rep 24 [AV.int .u8 0] = bys (zeros 24) := rfl
  simp -implicitDefEqProofs (disch := (first | omega | (simp only [lenB, lowB_len, numB_len] <;> omega) | fail)) only [admQ, lenB, lowB_len, numB_len, aFill, AK.cls, implies_true, ↓reduceIte, reduceCtorEq, if_true, if_false, Nat.reduceAdd, Nat.reduceEqDiff, Nat.reduceMod, Nat.reduceLT, Nat.reduceLeDiff, Nat.reduceSub, Nat.reduceMul, Nat.reduceBEq, Int.reduceAdd, Int.reduceSub, Int.reduceMul, Int.reduceNeg, Int.reduceLT, Int.reduceLE, Int.reduceToNat, Int.reduceEq, Int.reduceBEq, hr]
  refine (ans_nnumber k (by omega) _).mono ?_
  rintro _ m1 ⟨p, rfl, k1, hp1, op⟩
  have oZ : own (M ++ [Blk.row (bys (zeros 24)) false]) M.length = some (bys (zeros 24)) := by rw [own_app_at0]; rfl
  have kA := Kept.app [] M [Blk.row (bys (zeros 24)) false]
  have hAl : (M ++ [Blk.row (bys (zeros 24)) false]).length = M.length + 1 := by simp
  have hEq : (M ++ [Blk.row (bys (zeros 24)) false])[M.length]? = some (.row (bys (zeros 24)) false) := by simp
  generalize M ++ [Blk.row (bys (zeros 24)) false] = A at *
  have hE : m1[M.length]? = some (.row (bys (zeros 24)) false) := by rw [k1.eq _ (by omega) (by simp)]; exact hEq
  simp -implicitDefEqProofs (disch := (first | omega | (simp only [lenB, lowB_len, numB_len] <;> omega) | fail)) only [admQ, lenB, lowB_len, numB_len, aFill, AK.cls, implies_true, ↓reduceIte, reduceCtorEq, if_true, if_false, Nat.reduceAdd, Nat.reduceEqDiff, Nat.reduceMod, Nat.reduceLT, Nat.reduceLeDiff, Nat.reduceSub, Nat.reduceMul, Nat.reduceBEq, Int.reduceAdd, Int.reduceSub, Int.reduceMul, Int.reduceNeg, Int.reduceLT, Int.reduceLE, Int.reduceToNat, Int.reduceEq, Int.reduceBEq, hE, (rd_one hb).1, (rd_one hb).2]
  have oZ1 := k1.own oZ (by simp)
  have K1 := kA.trans k1
  have rl : RdL (m1 ++ [Blk.row [bx, .sl M.length 0 24 24 0, .sl p 0 8 8 0] false]) [bx, .sl M.length 0 24 24 0, .sl p 0 8 8 0] [plain, zeros 24, numB k] :=
    .cons ((hb.kept0 K1).app _) (.cons (RdB.row (l := zeros 24) 24 0 (rowOf_own (own_app oZ1 _)) (by simp [zeros])) (.cons (RdB.row (l := numB k) 8 0 (rowOf_own (own_app op _)) (by rw [numB_len]; omega)) (.nil _)))
  have hfl : [plain, zeros 24, numB k].flatten = nsealB S (e, n, head, plain) := by simp [nsealB, hk1]
  have K2 := K1.more_app [Blk.row [bx, .sl M.length 0 24 24 0, .sl p 0 8 8 0] false]
  have rB : rowOf (m1 ++ [Blk.row [bx, .sl M.length 0 24 24 0, .sl p 0 8 8 0] false]) m1.length = some [bx, .sl M.length 0 24 24 0, .sl p 0 8 8 0] := by rw [rowOf_app_at0]; rfl
  generalize m1 ++ [Blk.row [bx, .sl M.length 0 24 24 0, .sl p 0 8 8 0] false] = C at *
  refine (ans_slconcat (k := 3) rB rl rfl ⟨by omega, by simp [zeros, numB_len]; omega⟩).mono ?_
  rintro r m3 ⟨k3, g3⟩
  simp -implicitDefEqProofs (disch := (first | omega | (simp only [lenB, lowB_len, numB_len] <;> omega) | fail)) only [admQ, lenB, lowB_len, numB_len, aFill, AK.cls, implies_true, ↓reduceIte, reduceCtorEq, if_true, if_false, Nat.reduceAdd, Nat.reduceEqDiff, Nat.reduceMod, Nat.reduceLT, Nat.reduceLeDiff, Nat.reduceSub, Nat.reduceMul, Nat.reduceBEq, Int.reduceAdd, Int.reduceSub, Int.reduceMul, Int.reduceNeg, Int.reduceLT, Int.reduceLE, Int.reduceToNat, Int.reduceEq, Int.reduceBEq]
  rw [hfl] at g3
  have hMC := K2.len
  have hmM := hk.len
  have hgb := GrA.blk g3 (by intro h0; have := congrArg List.length h0; simp [nsealB, numB_len] at this)
  refine ⟨fun _ => ⟨W', hk.trans (K2.trans k3 |>.more (by simp)), hN.kept0 (K2.trans k3), hW, g3.low (by omega), fun b hb1 hb2 => ?_⟩, fun h => absurd hp h⟩
  have := hN.lt b hb2
  have := hgb b hb1
  omega
theorem ans_nseal {m : Mem} {x : Nat} {W : List Nat} {S : List Sd} {T : List (List B8)} {hx bx : AV} {e n : Int} {head plain : List B8} (hN : Nm m x W S T) (hh : RdB m hx head) (hb : RdB m bx plain)
    (hd : ∀ b ∈ blkOf bx, b ∉ W) (hS : S.length ≤ 1000) (hl : head.length ≤ 100000 ∧ plain.length ≤ 100000) :
    Ans Tryd.prog 70 [.ptr x 0, .int .i64 e, .int .i64 n, hx, bx] m (nsealQ m x W S T e n head plain) := by
  refine ans_ret mixed ok70 ?_
  simp -implicitDefEqProofs (disch := (first | omega | (simp only [lenB, lowB_len, numB_len] <;> omega) | fail)) only [admQ, lenB, lowB_len, numB_len, aFill, AK.cls, implies_true, ↓reduceIte, reduceCtorEq, if_true, if_false, Nat.reduceAdd, Nat.reduceEqDiff, Nat.reduceMod, Nat.reduceLT, Nat.reduceLeDiff, Nat.reduceSub, Nat.reduceMul, Nat.reduceBEq, Int.reduceAdd, Int.reduceSub, Int.reduceMul, Int.reduceNeg, Int.reduceLT, Int.reduceLE, Int.reduceToNat, Int.reduceEq, Int.reduceBEq, p70, r70]
  refine (ans_nwithin e _).mono ?_
  rintro _ M ⟨rfl, hM⟩
  subst hM
  by_cases he : within e
  · simp -implicitDefEqProofs (disch := (first | omega | (simp only [lenB, lowB_len, numB_len] <;> omega) | fail)) only [admQ, lenB, lowB_len, numB_len, aFill, AK.cls, implies_true, ↓reduceIte, reduceCtorEq, if_true, if_false, Nat.reduceAdd, Nat.reduceEqDiff, Nat.reduceMod, Nat.reduceLT, Nat.reduceLeDiff, Nat.reduceSub, Nat.reduceMul, Nat.reduceBEq, Int.reduceAdd, Int.reduceSub, Int.reduceMul, Int.reduceNeg, Int.reduceLT, Int.reduceLE, Int.reduceToNat, Int.reduceEq, Int.reduceBEq, dec_t he, Bool.not_true]
    refine (ans_nwithin n _).mono ?_
    rintro _ M ⟨rfl, hM⟩
    subst hM
    by_cases hn : within n
    · obtain ⟨bs, v, bt, h1, h2, h3, h4, rfl, h6, h7⟩ := hN.ex
      simp -implicitDefEqProofs (disch := (first | omega | (simp only [lenB, lowB_len, numB_len] <;> omega) | fail)) only [admQ, lenB, lowB_len, numB_len, aFill, AK.cls, implies_true, ↓reduceIte, reduceCtorEq, if_true, if_false, Nat.reduceAdd, Nat.reduceEqDiff, Nat.reduceMod, Nat.reduceLT, Nat.reduceLeDiff, Nat.reduceSub, Nat.reduceMul, Nat.reduceBEq, Int.reduceAdd, Int.reduceSub, Int.reduceMul, Int.reduceNeg, Int.reduceLT, Int.reduceLE, Int.reduceToNat, Int.reduceEq, Int.reduceBEq, dec_t hn, Bool.not_true, mapR, hh.b2s, hb.b2s]
      have k0 := Kept.app [] M [Blk.row [.int .i64 e, .int .i64 n, .str (strOf head), .str (strOf plain)] false]
      have o0 : own (M ++ [Blk.row [.int .i64 e, .int .i64 n, .str (strOf head), .str (strOf plain)] false]) M.length = some [.int .i64 e, .int .i64 n, .str (strOf head), .str (strOf plain)] := by rw [own_app_at0]; rfl
      generalize M ++ [Blk.row [.int .i64 e, .int .i64 n, .str (strOf head), .str (strOf plain)] false] = A at k0 o0
      have g1 := k0.own h1 (by simp)
      have g2 := h2.kept k0 (by simp)
      have g3 := h3.kept0 k0
      have g4 := h4.kept k0 (by simp)
      have lk : rLookup (.agg [.i, .i, .s, .s]) (.int .i64 0) true A [.map bs, .agg [.int .i64 e, .int .i64 n, .str (strOf head), .str (strOf plain)]] = some (lookR (fidx (e, n, head, plain) S)) := g2.look sd_key sd_fit (e, n, head, plain)
      have hMA := k0.len
      cases hf : fidx (e, n, head, plain) S with
      | some i =>
        rw [hf] at lk
        simp -implicitDefEqProofs (disch := (first | omega | (simp only [lenB, lowB_len, numB_len] <;> omega) | fail)) only [admQ, lenB, lowB_len, numB_len, aFill, AK.cls, implies_true, ↓reduceIte, reduceCtorEq, if_true, if_false, Nat.reduceAdd, Nat.reduceEqDiff, Nat.reduceMod, Nat.reduceLT, Nat.reduceLeDiff, Nat.reduceSub, Nat.reduceMul, Nat.reduceBEq, Int.reduceAdd, Int.reduceSub, Int.reduceMul, Int.reduceNeg, Int.reduceLT, Int.reduceLE, Int.reduceToNat, Int.reduceEq, Int.reduceBEq, rowOf_own g1, rowOf_own o0, mapR, lk, lookR]
        have hin := List.mem_of_getElem? (fidx_some hf)
        have hpos : i + 1 = posN (e, n, head, plain) S := by simp [posN, hf]
        have hi := fidx_lt hf
        refine wp_join2 [4, 12] (fun _ : Unit => [(4, bx), (12, .int .i64 ((i + 1 : Nat) : Int))]) (fun _ M' => M' = A) rfl ?_ ?_
        · simp -implicitDefEqProofs (disch := (first | omega | (simp only [lenB, lowB_len, numB_len] <;> omega) | fail)) only [admQ, lenB, lowB_len, numB_len, aFill, AK.cls, implies_true, ↓reduceIte, reduceCtorEq, if_true, if_false, Nat.reduceAdd, Nat.reduceEqDiff, Nat.reduceMod, Nat.reduceLT, Nat.reduceLeDiff, Nat.reduceSub, Nat.reduceMul, Nat.reduceBEq, Int.reduceAdd, Int.reduceSub, Int.reduceMul, Int.reduceNeg, Int.reduceLT, Int.reduceLE, Int.reduceToNat, Int.reduceEq, Int.reduceBEq, c70_1, joins, Bool.not_true]
          exact ⟨(), trivial⟩
        · rintro _ M' rfl
          exact nsealTail ⟨he, hn⟩ (hb.kept0 k0) hS hl.2 (k0.more (by simp)) (by rw [addN, if_pos hin]; exact hN.kept0 k0) (fun b hb => .inl hb) _ hpos (by omega)
      | none =>
        rw [hf] at lk
        simp -implicitDefEqProofs (disch := (first | omega | (simp only [lenB, lowB_len, numB_len] <;> omega) | fail)) only [admQ, lenB, lowB_len, numB_len, aFill, AK.cls, implies_true, ↓reduceIte, reduceCtorEq, if_true, if_false, Nat.reduceAdd, Nat.reduceEqDiff, Nat.reduceMod, Nat.reduceLT, Nat.reduceLeDiff, Nat.reduceSub, Nat.reduceMul, Nat.reduceBEq, Int.reduceAdd, Int.reduceSub, Int.reduceMul, Int.reduceNeg, Int.reduceLT, Int.reduceLE, Int.reduceToNat, Int.reduceEq, Int.reduceBEq, rowOf_own g1, rowOf_own o0, mapR, lk, lookR]
        have hin := fidx_none.mp hf
        have hpos : S.length + 1 = posN (e, n, head, plain) S := by simp [posN, hf]
        refine wp_join2 [4, 12] (fun _ : Unit => [(4, bx), (12, .int .i64 ((S.length + 1 : Nat) : Int))]) (fun _ M' => ∃ W', Kept (x :: bs :: bt :: blkOf v) M M' ∧ RdB M' bx plain ∧ Nm M' x W' (S ++ [(e, n, head, plain)]) T ∧ ∀ b ∈ W', b ∈ x :: bs :: bt :: blkOf v ∨ M.length ≤ b) rfl ?_ ?_
        · simp -implicitDefEqProofs (disch := (first | omega | (simp only [lenB, lowB_len, numB_len] <;> omega) | fail)) only [admQ, lenB, lowB_len, numB_len, aFill, AK.cls, implies_true, ↓reduceIte, reduceCtorEq, if_true, if_false, Nat.reduceAdd, Nat.reduceEqDiff, Nat.reduceMod, Nat.reduceLT, Nat.reduceLeDiff, Nat.reduceSub, Nat.reduceMul, Nat.reduceBEq, Int.reduceAdd, Int.reduceSub, Int.reduceMul, Int.reduceNeg, Int.reduceLT, Int.reduceLE, Int.reduceToNat, Int.reduceEq, Int.reduceBEq, c70_1, joins, Bool.not_false, rowOf_own g1, rowOf_own o0]
          have hsl := sd_len S
          have hvM : M.length ∉ blkOf v := fun h => by have := hN.lt M.length (by simp [h]); omega
          have hvA : A.length ∉ blkOf v := fun h => by have := hN.lt A.length (by simp [h]); omega
          have hxM : x < M.length := hN.lt x (by simp)
          have kB := Kept.app [] A [Blk.row (sdC (e, n, head, plain)) false]
          have hBE : (A ++ [Blk.row (sdC (e, n, head, plain)) false])[A.length]? = some (.row (sdC (e, n, head, plain)) false) := by simp
          have hBl : (A ++ [Blk.row (sdC (e, n, head, plain)) false]).length = A.length + 1 := by simp
          obtain ⟨v2, m2, e2, gv2, kv2, av2, nv2⟩ := GrA.pushs5 (bytes := 48) (k := 1) (y := .sl A.length 0 1 1 0) (l2 := sdC (e, n, head, plain)) (g3.kept0 kB) (by omega) (elemsS_one A rfl) rfl rfl (by omega) (Nat.zero_le _)
          refine someW_eq e2 ?_
          generalize A ++ [Blk.row (sdC (e, n, head, plain)) false] = B at *
          have x1 := kv2.own (kB.own g1 (by simp)) h7
          have oM := kv2.own (kB.own o0 (by simp)) hvM
          have cE : m2[A.length]? = some (.row [.int .i64 e, .int .i64 n, .str (strOf head), .str (strOf plain)] false) := by rw [kv2.eq _ (by omega) hvA]; exact hBE
          have kM2 : Kept (x :: bs :: bt :: blkOf v) M m2 := (((k0.trans kB).more (by simp)).trans (kv2.more fun q hq _ => by simp [hq]))
          have hbsx : bs ≠ x := MapR.ne_own h2 h1
          have hbtx : bt ≠ x := MapR.ne_own h4 h1
          have hbsM : bs < M.length := h2.lt
          have hbtM : bt < M.length := h4.lt
          have hx2 := own_lt x1
          have hvbs : bs ∉ blkOf v := MapR.ne_gr h2 h3
          have hvbt : bt ∉ blkOf v := MapR.ne_gr h4 h3
          have hv2b : ∀ b ∈ blkOf v2, B.length ≤ b := nv2 (by omega)
          have hxv2 : x ∉ blkOf v2 := fun h => by have := hv2b x h; omega
          have hbsv2 : bs ∉ blkOf v2 := fun h => by have := hv2b bs h; omega
          have gb2 := (g2.kept kB (by simp)).kept kv2 hvbs
          have gt2 := (g4.kept kB (by simp)).kept kv2 hvbt
          have kX := Kept.set1 m2 x (.row [.map bs, v2, .map bt] false)
          have x3 := own_set hx2 [AV.map bs, v2, AV.map bt]
          have oM3 := own_set_ne' oM (show x ≠ M.length by omega) (.row [.map bs, v2, .map bt] false)
          have gv3 := gv2.kept kX (by simpa using fun b hb (h : b = x) => hxv2 (h ▸ hb))
          have gb3 := gb2.kept kX (by simpa using hbsx)
          have gt3 := gt2.kept kX (by simpa using hbtx)
          have cE3 : (m2.set x (.row [.map bs, v2, .map bt] false))[A.length]? = some (.row [.int .i64 e, .int .i64 n, .str (strOf head), .str (strOf plain)] false) := by rw [List.getElem?_set_ne (by omega)]; exact cE
          have kM3 := kM2.trans (kX.more fun q hq _ => by simp at hq; simp [hq])
          simp -implicitDefEqProofs (disch := (first | omega | (simp only [lenB, lowB_len, numB_len] <;> omega) | fail)) only [admQ, lenB, lowB_len, numB_len, aFill, AK.cls, implies_true, ↓reduceIte, reduceCtorEq, if_true, if_false, Nat.reduceAdd, Nat.reduceEqDiff, Nat.reduceMod, Nat.reduceLT, Nat.reduceLeDiff, Nat.reduceSub, Nat.reduceMul, Nat.reduceBEq, Int.reduceAdd, Int.reduceSub, Int.reduceMul, Int.reduceNeg, Int.reduceLT, Int.reduceLE, Int.reduceToNat, Int.reduceEq, Int.reduceBEq, rowOf_own x1, rowOf_own oM, x1, cE, (gr_one gv2).1, (gr_one gv2).2, rowOf_own x3, rowOf_own oM3, x3, cE3]
          obtain ⟨bv, nn, rfl, hn0, hnl, hbv, _⟩ := gv3.sl (by intro h0; have := congrArg List.length h0; simp [sdC] at this)
          have hnn : nn = S.length + 1 := by
            rw [List.length_append, hsl] at hnl
            simp only [sdC, List.length_cons, List.length_nil] at hnl
            omega
          subst hnn
          generalize m2.set x (.row [.map bs, .sl bv 0 (S.length + 1) (S.length + 1) 4, .map bt] false) = m3 at *
          obtain ⟨m4, eM, mr4, k4⟩ := gb3.add sd_key sd_fit hin
          have eM' : aMapSet (.agg [.i, .i, .s, .s]) m3 [.map bs, .agg [.int .i64 e, .int .i64 n, .str (strOf head), .str (strOf plain)], .int .i64 ((S.length + 1 : Nat) : Int)] = some (.tup [], m4) := eM
          have x4 := k4.own x3 (by simpa using hbsx.symm)
          have oM4 := k4.own oM3 (by simp; omega)
          simp -implicitDefEqProofs (disch := (first | omega | (simp only [lenB, lowB_len, numB_len] <;> omega) | fail)) only [admQ, lenB, lowB_len, numB_len, aFill, AK.cls, implies_true, ↓reduceIte, reduceCtorEq, if_true, if_false, Nat.reduceAdd, Nat.reduceEqDiff, Nat.reduceMod, Nat.reduceLT, Nat.reduceLeDiff, Nat.reduceSub, Nat.reduceMul, Nat.reduceBEq, Int.reduceAdd, Int.reduceSub, Int.reduceMul, Int.reduceNeg, Int.reduceLT, Int.reduceLE, Int.reduceToNat, Int.reduceEq, Int.reduceBEq, rowOf_own x3, rowOf_own oM3, mapR, eM', rowOf_own x4, rowOf_own oM4, joins]
          have kM4 := kM3.trans (k4.more fun q hq _ => by simp at hq; simp [hq])
          refine ⟨(), x :: bs :: bt :: blkOf (.sl bv 0 (S.length + 1) (S.length + 1) 4), kM4, hb.kept kM4 (fun b o n cap s h => hd b (by rw [h]; simp [blkOf])), ⟨bs, _, bt, x4, mr4, ?_, gt3.kept k4 (by simpa using h6.symm), rfl, h6, hxv2⟩, fun b hb => ?_⟩
          · rw [List.flatMap_append, List.flatMap_singleton]
            exact gv3.kept k4 (by simpa using fun b hb (h : b = bs) => hbsv2 (h ▸ hb))
          · simp only [List.mem_cons] at hb ⊢
            rcases hb with rfl | rfl | rfl | hb
            · exact .inl (.inl rfl)
            · exact .inl (.inr (.inl rfl))
            · exact .inl (.inr (.inr (.inl rfl)))
            · have := hv2b b hb; exact .inr (by omega)
        · rintro _ M' ⟨W', hk, hb', hN', hW⟩
          exact nsealTail ⟨he, hn⟩ hb' hS hl.2 hk (by rw [addN, if_neg hin]; exact hN') hW _ hpos (by omega)
    · simp -implicitDefEqProofs (disch := (first | omega | (simp only [lenB, lowB_len, numB_len] <;> omega) | fail)) only [admQ, lenB, lowB_len, numB_len, aFill, AK.cls, implies_true, ↓reduceIte, reduceCtorEq, if_true, if_false, Nat.reduceAdd, Nat.reduceEqDiff, Nat.reduceMod, Nat.reduceLT, Nat.reduceLeDiff, Nat.reduceSub, Nat.reduceMul, Nat.reduceBEq, Int.reduceAdd, Int.reduceSub, Int.reduceMul, Int.reduceNeg, Int.reduceLT, Int.reduceLE, Int.reduceToNat, Int.reduceEq, Int.reduceBEq, dec_f hn, Bool.not_false]
      exact ⟨fun h => absurd h.2 hn, fun _ => by first | exact ⟨rfl, .refl _ _⟩ | exact .refl _ _⟩
  · simp -implicitDefEqProofs (disch := (first | omega | (simp only [lenB, lowB_len, numB_len] <;> omega) | fail)) only [admQ, lenB, lowB_len, numB_len, aFill, AK.cls, implies_true, ↓reduceIte, reduceCtorEq, if_true, if_false, Nat.reduceAdd, Nat.reduceEqDiff, Nat.reduceMod, Nat.reduceLT, Nat.reduceLeDiff, Nat.reduceSub, Nat.reduceMul, Nat.reduceBEq, Int.reduceAdd, Int.reduceSub, Int.reduceMul, Int.reduceNeg, Int.reduceLT, Int.reduceLE, Int.reduceToNat, Int.reduceEq, Int.reduceBEq, dec_f he, Bool.not_false]
    exact ⟨fun h => absurd h.1 he, fun _ => by first | exact ⟨rfl, .refl _ _⟩ | exact .refl _ _⟩
/-- What is opened: the place of what was sealed so. -/
def nopenP (S : List Sd) (e n : Int) (head b : List B8) : Prop :=
  32 ≤ b.length ∧ ∃ i, fidx (e, n, head, b.take (b.length - 32)) S = some i ∧ b.drop (b.length - 32) = zeros 24 ++ numB (i + 1)
theorem ans_nopen {m : Mem} {x : Nat} {W : List Nat} {S : List Sd} {T : List (List B8)} {hx bx : AV} {e n : Int} {head b : List B8} (hN : Nm m x W S T) (hh : RdB m hx head) (hb : RdB m bx b) (hS : S.length ≤ 1000) (hl : head.length ≤ 100000 ∧ b.length ≤ 100000) :
    Ans Tryd.prog 69 [.ptr x 0, .int .i64 e, .int .i64 n, hx, bx] m fun r m' => Kept [] m m' ∧
      (nopenP S e n head b → ∃ v, r = .tup [v, .bool true] ∧ GrB m.length m' v (b.take (b.length - 32)) ∧ ∀ q ∈ blkOf v, m.length ≤ q) ∧ (¬ nopenP S e n head b → r = .tup [.nils, .bool false]) := by
  refine ans_ret mixed ok69 ?_
  by_cases h32 : b.length < 32
  · have hno : ¬ nopenP S e n head b := fun h => by have := h.1; omega
    simp -implicitDefEqProofs (disch := (first | omega | (simp only [lenB, lowB_len, numB_len] <;> omega) | fail)) only [admQ, lenB, lowB_len, numB_len, aFill, AK.cls, implies_true, ↓reduceIte, reduceCtorEq, if_true, if_false, Nat.reduceAdd, Nat.reduceEqDiff, Nat.reduceMod, Nat.reduceLT, Nat.reduceLeDiff, Nat.reduceSub, Nat.reduceMul, Nat.reduceBEq, Int.reduceAdd, Int.reduceSub, Int.reduceMul, Int.reduceNeg, Int.reduceLT, Int.reduceLE, Int.reduceToNat, Int.reduceEq, Int.reduceBEq, c69, r69, hb.len]
    exact ⟨.refl _ _, fun h => absurd h hno⟩
  · obtain ⟨q, o, cap, sl, cc, rfl, hrow, hat, hlen, hcap, hsl, htk⟩ := hb.cons (i := 0) (by omega)
    obtain ⟨bs, v, bt, h1, h2, h3, h4, rfl, h6, h7⟩ := hN.ex
    have hpl := hb.take (k := b.length - 32) (by omega)
    have htg := hb.drop (k := b.length - 32) (by omega)
    have hp8 : (b.take (b.length - 32)).length = b.length - 32 := by simp
    have ht8 : (b.drop (b.length - 32)).length = 32 := by simp; omega
    have lk : rLookup (.agg [.i, .i, .s, .s]) (.int .i64 0) true m [.map bs, .agg [.int .i64 e, .int .i64 n, .str (strOf head), .str (strOf (b.take (b.length - 32)))]] = some (lookR (fidx (e, n, head, b.take (b.length - 32)) S)) := h2.look sd_key sd_fit (e, n, head, b.take (b.length - 32))
    cases hf : fidx (e, n, head, b.take (b.length - 32)) S with
    | none =>
      rw [hf] at lk
      have hno : ¬ nopenP S e n head b := fun h => by obtain ⟨_, i, hi, _⟩ := h; rw [hf] at hi; cases hi
      simp -implicitDefEqProofs (disch := (first | omega | (simp only [lenB, lowB_len, numB_len] <;> omega) | fail)) only [admQ, lenB, lowB_len, numB_len, aFill, AK.cls, implies_true, ↓reduceIte, reduceCtorEq, if_true, if_false, Nat.reduceAdd, Nat.reduceEqDiff, Nat.reduceMod, Nat.reduceLT, Nat.reduceLeDiff, Nat.reduceSub, Nat.reduceMul, Nat.reduceBEq, Int.reduceAdd, Int.reduceSub, Int.reduceMul, Int.reduceNeg, Int.reduceLT, Int.reduceLE, Int.reduceToNat, Int.reduceEq, Int.reduceBEq, c69, r69, rowOf_own h1, mapR, hh.b2s, hpl.b2s, lk, lookR, Bool.not_false]
      exact ⟨.refl _ _, fun h => absurd h hno⟩
    | some i =>
      rw [hf] at lk
      have hi := fidx_lt hf
      simp -implicitDefEqProofs (disch := (first | omega | (simp only [lenB, lowB_len, numB_len] <;> omega) | fail)) only [admQ, lenB, lowB_len, numB_len, aFill, AK.cls, implies_true, ↓reduceIte, reduceCtorEq, if_true, if_false, Nat.reduceAdd, Nat.reduceEqDiff, Nat.reduceMod, Nat.reduceLT, Nat.reduceLeDiff, Nat.reduceSub, Nat.reduceMul, Nat.reduceBEq, Int.reduceAdd, Int.reduceSub, Int.reduceMul, Int.reduceNeg, Int.reduceLT, Int.reduceLE, Int.reduceToNat, Int.reduceEq, Int.reduceBEq, c69, r69, rowOf_own h1, mapR, hh.b2s, hpl.b2s, lk, lookR, Bool.not_true]
      have hr : rep 24 [AV.int .u8 0] = bys (zeros 24) := rfl
      simp -implicitDefEqProofs (disch := (first | omega | (simp only [lenB, lowB_len, numB_len] <;> omega) | fail)) only [admQ, lenB, lowB_len, numB_len, aFill, AK.cls, implies_true, ↓reduceIte, reduceCtorEq, if_true, if_false, Nat.reduceAdd, Nat.reduceEqDiff, Nat.reduceMod, Nat.reduceLT, Nat.reduceLeDiff, Nat.reduceSub, Nat.reduceMul, Nat.reduceBEq, Int.reduceAdd, Int.reduceSub, Int.reduceMul, Int.reduceNeg, Int.reduceLT, Int.reduceLE, Int.reduceToNat, Int.reduceEq, Int.reduceBEq, hr]
      refine (ans_nnumber (i + 1) (by omega) _).mono ?_
      rintro _ m1 ⟨p, rfl, k1, hp1, op⟩
      have oZ : own (m ++ [Blk.row (bys (zeros 24)) false]) m.length = some (bys (zeros 24)) := by rw [own_app_at0]; rfl
      have kA := Kept.app [] m [Blk.row (bys (zeros 24)) false]
      have hAl : (m ++ [Blk.row (bys (zeros 24)) false]).length = m.length + 1 := by simp
      have hEq : (m ++ [Blk.row (bys (zeros 24)) false])[m.length]? = some (.row (bys (zeros 24)) false) := by simp
      generalize m ++ [Blk.row (bys (zeros 24)) false] = A at *
      have hE : m1[m.length]? = some (.row (bys (zeros 24)) false) := by rw [k1.eq _ (by omega) (by simp)]; exact hEq
      simp -implicitDefEqProofs (disch := (first | omega | (simp only [lenB, lowB_len, numB_len] <;> omega) | fail)) only [admQ, lenB, lowB_len, numB_len, aFill, AK.cls, implies_true, ↓reduceIte, reduceCtorEq, if_true, if_false, Nat.reduceAdd, Nat.reduceEqDiff, Nat.reduceMod, Nat.reduceLT, Nat.reduceLeDiff, Nat.reduceSub, Nat.reduceMul, Nat.reduceBEq, Int.reduceAdd, Int.reduceSub, Int.reduceMul, Int.reduceNeg, Int.reduceLT, Int.reduceLE, Int.reduceToNat, Int.reduceEq, Int.reduceBEq, hE]
      have oZ1 := k1.own oZ (by simp)
      have K1 := kA.trans k1
      have rl : RdL (m1 ++ [Blk.row [.sl m.length 0 24 24 0, .sl p 0 8 8 0] false]) [.sl m.length 0 24 24 0, .sl p 0 8 8 0] [zeros 24, numB (i + 1)] :=
        .cons (RdB.row (l := zeros 24) 24 0 (rowOf_own (own_app oZ1 _)) (by simp [zeros])) (.cons (RdB.row (l := numB (i + 1)) 8 0 (rowOf_own (own_app op _)) (by rw [numB_len]; omega)) (.nil _))
      have hfl : [zeros 24, numB (i + 1)].flatten = zeros 24 ++ numB (i + 1) := by simp
      have K2 := K1.more_app [Blk.row [.sl m.length 0 24 24 0, .sl p 0 8 8 0] false]
      have rB : rowOf (m1 ++ [Blk.row [.sl m.length 0 24 24 0, .sl p 0 8 8 0] false]) m1.length = some [.sl m.length 0 24 24 0, .sl p 0 8 8 0] := by rw [rowOf_app_at0]; rfl
      have hE2 : (m1 ++ [Blk.row [.sl m.length 0 24 24 0, .sl p 0 8 8 0] false])[m.length]? = some (.row (bys (zeros 24)) false) := by rw [List.getElem?_append_left (by have := k1.len; omega)]; exact hE
      have hB2 : (m1 ++ [Blk.row [.sl m.length 0 24 24 0, .sl p 0 8 8 0] false])[m1.length]? = some (.row [.sl m.length 0 24 24 0, .sl p 0 8 8 0] false) := by simp
      have hCl : (m1 ++ [Blk.row [.sl m.length 0 24 24 0, .sl p 0 8 8 0] false]).length = m1.length + 1 := by simp
      have hm1 := K1.len
      generalize m1 ++ [Blk.row [.sl m.length 0 24 24 0, .sl p 0 8 8 0] false] = C at *
      refine (ans_slconcat (k := 2) rB rl rfl ⟨by omega, by simp [zeros, numB_len]⟩).mono ?_
      rintro r m3 ⟨k3, g3⟩
      rw [hfl] at g3
      have hE3 : m3[m.length]? = some (.row (bys (zeros 24)) false) := by rw [k3.eq _ (by omega) (by simp)]; exact hE2
      have hB3 : m3[m1.length]? = some (.row [.sl m.length 0 24 24 0, .sl p 0 8 8 0] false) := by rw [k3.eq _ (by omega) (by simp)]; exact hB2
      have K3 := K2.trans k3
      simp -implicitDefEqProofs (disch := (first | omega | (simp only [lenB, lowB_len, numB_len] <;> omega) | fail)) only [admQ, lenB, lowB_len, numB_len, aFill, AK.cls, implies_true, ↓reduceIte, reduceCtorEq, if_true, if_false, Nat.reduceAdd, Nat.reduceEqDiff, Nat.reduceMod, Nat.reduceLT, Nat.reduceLeDiff, Nat.reduceSub, Nat.reduceMul, Nat.reduceBEq, Int.reduceAdd, Int.reduceSub, Int.reduceMul, Int.reduceNeg, Int.reduceLT, Int.reduceLE, Int.reduceToNat, Int.reduceEq, Int.reduceBEq, hE3, hB3]
      refine (ans_slequal (htg.kept0 K3) g3.rd (by omega)).mono ?_
      rintro _ M ⟨rfl, hM⟩
      subst hM
      by_cases hq : b.drop (b.length - 32) = zeros 24 ++ numB (i + 1)
      · have hyes : nopenP S e n head b := ⟨by omega, i, hf, hq⟩
        simp -implicitDefEqProofs (disch := (first | omega | (simp only [lenB, lowB_len, numB_len] <;> omega) | fail)) only [admQ, lenB, lowB_len, numB_len, aFill, AK.cls, implies_true, ↓reduceIte, reduceCtorEq, if_true, if_false, Nat.reduceAdd, Nat.reduceEqDiff, Nat.reduceMod, Nat.reduceLT, Nat.reduceLeDiff, Nat.reduceSub, Nat.reduceMul, Nat.reduceBEq, Int.reduceAdd, Int.reduceSub, Int.reduceMul, Int.reduceNeg, Int.reduceLT, Int.reduceLE, Int.reduceToNat, Int.reduceEq, Int.reduceBEq, beq_iff_eq.mpr hq, Bool.not_true, hE3, hB3]
        refine (ans_slclone (hpl.kept0 K3) (by omega)).mono ?_
        rintro v m4 ⟨k4, g4, hb4⟩
        simp -implicitDefEqProofs (disch := (first | omega | (simp only [lenB, lowB_len, numB_len] <;> omega) | fail)) only [admQ, lenB, lowB_len, numB_len, aFill, AK.cls, implies_true, ↓reduceIte, reduceCtorEq, if_true, if_false, Nat.reduceAdd, Nat.reduceEqDiff, Nat.reduceMod, Nat.reduceLT, Nat.reduceLeDiff, Nat.reduceSub, Nat.reduceMul, Nat.reduceBEq, Int.reduceAdd, Int.reduceSub, Int.reduceMul, Int.reduceNeg, Int.reduceLT, Int.reduceLE, Int.reduceToNat, Int.reduceEq, Int.reduceBEq]
        have := K3.len
        exact ⟨K3.trans k4, fun _ => ⟨v, rfl, g4.low this, fun q hq => Nat.le_trans this (hb4 q hq)⟩, fun h => absurd hyes h⟩
      · have hno : ¬ nopenP S e n head b := fun h => by
          obtain ⟨_, j, hj, hq'⟩ := h
          rw [hf] at hj; cases hj
          exact hq hq'
        simp -implicitDefEqProofs (disch := (first | omega | (simp only [lenB, lowB_len, numB_len] <;> omega) | fail)) only [admQ, lenB, lowB_len, numB_len, aFill, AK.cls, implies_true, ↓reduceIte, reduceCtorEq, if_true, if_false, Nat.reduceAdd, Nat.reduceEqDiff, Nat.reduceMod, Nat.reduceLT, Nat.reduceLeDiff, Nat.reduceSub, Nat.reduceMul, Nat.reduceBEq, Int.reduceAdd, Int.reduceSub, Int.reduceMul, Int.reduceNeg, Int.reduceLT, Int.reduceLE, Int.reduceToNat, Int.reduceEq, Int.reduceBEq, beq_eq_false_iff_ne.mpr hq, Bool.not_false, hE3, hB3]
        exact ⟨K3, fun h => absurd h hno⟩
/-- What is told of a sum: ones, and the number. -/
def nsumB (T : List (List B8)) (b : List B8) : List B8 := List.replicate 24 1#8 ++ numB (posN b T)
theorem nsumB_len (T : List (List B8)) (b : List B8) : (nsumB T b).length = 32 := by simp [nsumB, numB_len]
end Go.Proofs.YtmnlmjlmbceimaaDoor
end
section
/- Names: what the statements share. -/
namespace Go.Proofs.YtmnlmjlmbceimaaDoor
open Go Go.Adm
set_option linter.unusedSimpArgs false
set_option linter.unusedVariables false
set_option maxRecDepth 100000
/-- May it be sealed? -/
def mayP (s : Sd) : Prop := within s.1 ∧ within s.2.1
instance (s : Sd) : Decidable (mayP s) := by unfold mayP; infer_instance
theorem nsealB_len (S : List Sd) (s : Sd) : (nsealB S s).length = s.2.2.2.length + 32 := by simp [nsealB, zeros, numB_len]
theorem nopenP_seal {S : List Sd} {e n : Int} {head plain : List B8} (S' : List Sd) (h : fidx (e, n, head, plain) S' = some (posN (e, n, head, plain) S - 1)) : nopenP S' e n head (nsealB S (e, n, head, plain)) ∧ (nsealB S (e, n, head, plain)).take ((nsealB S (e, n, head, plain)).length - 32) = plain := by
  have hl := nsealB_len S (e, n, head, plain)
  simp only at hl
  have e0 : (nsealB S (e, n, head, plain)).length - 32 = plain.length := by omega
  have e1 : (nsealB S (e, n, head, plain)).take plain.length = plain := by simp [nsealB]
  have e2 : (nsealB S (e, n, head, plain)).drop plain.length = zeros 24 ++ numB (posN (e, n, head, plain) S) := by simp [nsealB]
  rw [nopenP, e0, e1]
  refine ⟨⟨by omega, _, h, ?_⟩, rfl⟩
  rw [e2]; rfl
end Go.Proofs.YtmnlmjlmbceimaaDoor
end
section
/- Names: sums are apart just if the texts are. -/
namespace Go.Proofs.YtmnlmjlmbceimaaDoor
open Go Go.Adm
set_option linter.unusedSimpArgs false
set_option linter.unusedVariables false
set_option maxRecDepth 100000
theorem fidx_add {α : Type} [DecidableEq α] {a b : α} {T : List α} {i : Nat} (h : fidx a T = some i) : fidx a (addN b T) = some i := by
  unfold addN; split
  · exact h
  · exact fidx_append h
theorem fidx_addself {α : Type} [DecidableEq α] (a : α) (T : List α) : fidx a (addN a T) = some (posN a T - 1) := by
  unfold addN posN
  by_cases h : a ∈ T
  · rw [if_pos h]
    cases hf : fidx a T with
    | none => exact absurd h (fidx_none.mp hf)
    | some i => simp
  · rw [if_neg h, fidx_new h, fidx_none.mpr h]; simp
theorem addN_len {α : Type} [DecidableEq α] (a : α) (T : List α) : (addN a T).length ≤ T.length + 1 := by
  unfold addN; split <;> simp
theorem posN_le {α : Type} [DecidableEq α] (a : α) (T : List α) : 1 ≤ posN a T ∧ posN a T ≤ T.length + 1 := by
  unfold posN
  cases hf : fidx a T with
  | none => simp
  | some i => have := fidx_lt hf; simp; omega
theorem addN_in {α : Type} [DecidableEq α] {a : α} {T : List α} {n : Nat} (h : fidx a T = some n) : addN a T = T ∧ posN a T = n + 1 :=
  ⟨if_pos (List.mem_of_getElem? (fidx_some h)), by simp [posN, h]⟩
end Go.Proofs.YtmnlmjlmbceimaaDoor
end
section
/- Names: what is sealed stays. -/
namespace Go.Proofs.YtmnlmjlmbceimaaDoor
open Go Go.Adm
set_option linter.unusedSimpArgs false
set_option linter.unusedVariables false
set_option maxRecDepth 100000
/-- What is remembered, and answered, behind a Seal. -/
def sealS2 (S : List Sd) (s : Sd) : List Sd := if mayP s then addN s S else S
def sealR (S : List Sd) (s : Sd) : List B8 := if mayP s then nsealB S s else []
theorem sealS2_len (S : List Sd) (s : Sd) : (sealS2 S s).length ≤ S.length + 1 := by
  unfold sealS2; split
  · exact addN_len s S
  · omega
theorem sealR_len (S : List Sd) (s : Sd) : (sealR S s).length ≤ s.2.2.2.length + 32 := by
  unfold sealR; split
  · rw [nsealB_len]; omega
  · simp
/-- Blocks that are none of a Names' own. -/
def Ap (B W : List Nat) : Prop := ∀ b ∈ B, b ∉ W
theorem Ap.new {B W W' : List Nat} {k : Nat} (h : Ap B W) (hW : ∀ b ∈ W', b ∈ W ∨ k ≤ b) (hB : ∀ b ∈ B, b < k) : Ap B W' := fun b hb hw => by
  rcases hW b hw with h1 | h1
  · exact h b hb h1
  · have := hB b hb; omega
theorem Ap.symm {B W : List Nat} (h : Ap B W) : Ap W B := fun b h1 h2 => h b h2 h1
theorem Ap.low {B W : List Nat} {k : Nat} (hB : ∀ b ∈ B, b < k) (hW : ∀ b ∈ W, k ≤ b) : Ap B W := fun b h1 h2 => by
  have := hB b h1
  have := hW b h2
  omega
theorem ans_nseal2 {m : Mem} {x : Nat} {W : List Nat} {S : List Sd} {T : List (List B8)} {hx bx : AV} {s : Sd} (hN : Nm m x W S T) (hh : RdB m hx s.2.2.1) (hb : RdB m bx s.2.2.2)
    (hd : Ap (blkOf bx) W) (hS : S.length ≤ 1000) (hl : s.2.2.1.length ≤ 100000 ∧ s.2.2.2.length ≤ 100000) :
    Ans Tryd.prog 70 [.ptr x 0, .int .i64 s.1, .int .i64 s.2.1, hx, bx] m fun r m' => ∃ W', Kept W m m' ∧ Nm m' x W' (sealS2 S s) T ∧ (∀ b ∈ W', b ∈ W ∨ m.length ≤ b) ∧ GrB m.length m' r (sealR S s) ∧ Ap (blkOf r) W' ∧ ∀ b ∈ blkOf r, m.length ≤ b ∧ b < m'.length := by
  obtain ⟨e, n, head, plain⟩ := s
  refine (ans_nseal hN hh hb hd hS hl).mono fun r m' ⟨h1, h2⟩ => ?_
  by_cases hp : mayP (e, n, head, plain)
  · obtain ⟨W', k, hN', hW, g, d⟩ := h1 hp
    refine ⟨W', k, by rw [sealS2, if_pos hp]; exact hN', hW, by rw [sealR, if_pos hp]; exact g, d, fun b hb => ⟨?_, g.lt b hb⟩⟩
    exact GrA.blk g (by intro h0; have := congrArg List.length h0; rw [List.length_map, nsealB_len] at this; simp at this) b hb
  · obtain ⟨rfl, k⟩ := h2 hp
    exact ⟨W, k.more (by simp), by rw [sealS2, if_neg hp]; exact hN.kept0 k, fun b hb => .inl hb, by rw [sealR, if_neg hp]; exact .nils .., by simp [Ap, blkOf], by simp [blkOf]⟩
end Go.Proofs.YtmnlmjlmbceimaaDoor
end
section
/- Names: nothing is forged. -/
namespace Go.Proofs.YtmnlmjlmbceimaaDoor
open Go Go.Adm
set_option linter.unusedSimpArgs false
set_option linter.unusedVariables false
set_option maxRecDepth 100000
theorem mem_seal {S : List Sd} {s t : Sd} : t ∈ sealS2 S s ↔ t ∈ S ∨ (t = s ∧ mayP s) := by
  unfold sealS2 addN
  by_cases hp : mayP s
  · rw [if_pos hp]
    by_cases hs : s ∈ S
    · rw [if_pos hs]
      constructor
      · exact .inl
      · rintro (h | ⟨rfl, _⟩)
        · exact h
        · exact hs
    · rw [if_neg hs]; simp [hp]
  · rw [if_neg hp]; simp [hp]
theorem fidx_seal {S : List Sd} {s t : Sd} {i : Nat} (h : fidx t S = some i) : fidx t (sealS2 S s) = some i := by
  unfold sealS2; split
  · exact fidx_add h
  · exact h
end Go.Proofs.YtmnlmjlmbceimaaDoor
end
section
/- Sectors: numbers as bytes. -/
namespace Go.Proofs.YtmnlmjlmbceimaaDoor
open Go Go.Adm
set_option linter.unusedSimpArgs false
set_option linter.unusedVariables false
/-- The number that bytes are, the highest first. -/
def beN (l : List B8) : Nat := l.foldl (fun a b => a * 256 + b.toNat) 0
theorem beN_snoc (l : List B8) (b : B8) : beN (l ++ [b]) = beN l * 256 + b.toNat := by simp [beN]
theorem snoc_of {l : List B8} {n : Nat} (h : l.length = n + 1) : ∃ l' b, l = l' ++ [b] ∧ l'.length = n := by
  have h0 : l ≠ [] := by rintro rfl; simp at h
  exact ⟨l.dropLast, l.getLast h0, (List.dropLast_concat_getLast h0).symm, by rw [List.length_dropLast]; omega⟩
theorem beN_lt : ∀ (n : Nat) (l : List B8), l.length = n → beN l < 256 ^ n := by
  intro n
  induction n with
  | zero => intro l h; rw [List.length_eq_zero_iff.mp h]; simp [beN]
  | succ n ih =>
    intro l h
    obtain ⟨l, b, rfl, h'⟩ := snoc_of h
    rw [beN_snoc]
    have := ih l h'
    have hb := b.isLt
    rw [Nat.pow_succ]
    omega
theorem byV_next (v k : Nat) : byV v (k + 1) = byV (v >>> 8) k := by
  unfold byV
  rw [← Nat.shiftRight_add]
  congr 2
  omega
theorem byV_zero (v : Nat) : (byV v 0).toNat = v % 256 := by simp [byV]
theorem lowB_succ (v n : Nat) : lowB v (n + 1) = lowB (v >>> 8) n ++ [byV v 0] := by
  rw [lowB, tab_succ]
  congr 1
  · refine tab_ext fun i hi => ?_
    rw [show n + 1 - 1 - i = (n - 1 - i) + 1 by omega, byV_next]
  · rw [show n + 1 - 1 - n = 0 by omega]
theorem beN_lowB : ∀ (n v : Nat), beN (lowB v n) = v % 256 ^ n := by
  intro n
  induction n with
  | zero => intro v; simp [lowB, tab, beN, Nat.mod_one]
  | succ n ih =>
    intro v
    have e : v >>> 8 = v / 256 := Nat.shiftRight_eq_div_pow v 8
    rw [lowB_succ, beN_snoc, ih, byV_zero, e, Nat.pow_succ, Nat.mul_comm (256 ^ n), Nat.mod_mul]
    omega
theorem lowB_beN : ∀ (n : Nat) (l : List B8), l.length = n → lowB (beN l) n = l := by
  intro n
  induction n with
  | zero => intro l h; rw [List.length_eq_zero_iff.mp h]; rfl
  | succ n ih =>
    intro l h
    obtain ⟨l, b, rfl, h'⟩ := snoc_of h
    have hb := b.isLt
    rw [lowB_succ, beN_snoc]
    congr 1
    · rw [show (beN l * 256 + b.toNat) >>> 8 = beN l by rw [Nat.shiftRight_eq_div_pow]; omega]
      exact ih l h'
    · congr 1
      apply BitVec.eq_of_toNat_eq
      rw [byV_zero]
      omega
theorem beN_numB {v : Nat} (h : v < 18446744073709551616) : beN (numB v) = v := by
  rw [numB, beN_lowB]
  exact Nat.mod_eq_of_lt h
theorem numB_beN {l : List B8} (h : l.length = 8) : numB (beN l) = l := lowB_beN 8 l h
/-- The integer that eight bytes are read as. -/
def intB (l : List B8) : Int := IntKind.i64.wrap (beN l : Int)
end Go.Proofs.YtmnlmjlmbceimaaDoor
end
section
/- Numbers as bytes: the program's packing. -/
namespace Go.Proofs.YtmnlmjlmbceimaaDoor
open Go Go.Adm
set_option linter.unusedSimpArgs false
set_option linter.unusedVariables false
set_option maxRecDepth 100000
/-- Bytes that fill a block that was made for them. -/
def OwB (m0 : Nat) (m : Mem) (x : AV) (l : List B8) : Prop := ∃ p, x = .sl p 0 l.length l.length 0 ∧ own m p = some (bys l) ∧ m0 ≤ p
theorem OwB.rd {m0 : Nat} {m : Mem} {x : AV} {l : List B8} (h : OwB m0 m x l) : RdB m x l := by
  obtain ⟨p, rfl, ho, _⟩ := h
  exact RdB.row l.length 0 (rowOf_own ho) (Nat.le_refl _)
theorem OwB.kept {m0 : Nat} {m m' : Mem} {x : AV} {l : List B8} {X : List Nat} (h : OwB m0 m x l) (hk : Kept X m m') (hX : ∀ b ∈ blkOf x, b ∉ X) : OwB m0 m' x l := by
  obtain ⟨p, rfl, ho, h3⟩ := h
  exact ⟨p, rfl, hk.own ho (hX p (by simp [blkOf])), h3⟩
theorem OwB.kept0 {m0 : Nat} {m m' : Mem} {x : AV} {l : List B8} (h : OwB m0 m x l) (hk : Kept [] m m') : OwB m0 m' x l := h.kept hk (by simp)
theorem OwB.low {m0 : Nat} {m : Mem} {x : AV} {l : List B8} (h : OwB m0 m x l) : ∀ b ∈ blkOf x, m0 ≤ b := by
  obtain ⟨p, rfl, _, h⟩ := h
  simpa [blkOf] using h
/-- Bytes behind bytes that fill their block: a new block. -/
theorem OwB.app {m0 : Nat} {m : Mem} {x y : AV} {l l2 : List B8} (h : OwB m0 m x l) (hy : RdB m y l2) (hb : l.length + l2.length ≤ 1000000000) :
    ∃ x' m', aAppend 1 1 x y m = some (x', m') ∧ Kept [] m m' ∧ RdB m' x' (l ++ l2) ∧ (∀ b ∈ blkOf x', b ∈ blkOf x ∨ m.length ≤ b) ∧ cellsV x' = [x'] ∧ x'.solid = true := by
  have hr := h.rd
  obtain ⟨p, rfl, ho, hp⟩ := h
  by_cases h2 : l2.length = 0
  · obtain rfl : l2 = [] := List.length_eq_zero_iff.mp h2
    exact ⟨_, m, app_none (by rw [hy.lenA]; rfl) rfl, .refl _ _, by rw [List.append_nil]; exact hr, fun b hb => .inl hb, rfl, rfl⟩
  · refine ⟨.sl m.length 0 (l.length + l2.length) (l.length + l2.length) 1, m ++ [.row (bys (l ++ l2)) false], ?_, .app _ _ _, ?_, by simp [blkOf], rfl, rfl⟩
    · unfold aAppend
      simp only [hy.lenA, Option.bind_some, if_neg h2, hy.elems, if_neg (show ¬ l.length + l2.length ≤ l.length by omega), if_pos (show (l.length + l2.length) * 1 ≤ 1099511627776 ∧ l.length + l2.length ≤ 1099511627776 by omega), hr.elems]
      simp [bys]
    · have := RdB.row (m := m ++ [.row (bys (l ++ l2)) false]) (l := l ++ l2) (b := m.length) (l ++ l2).length 1 (by rw [rowOf_app_at0]; rfl) (Nat.le_refl _)
      rwa [List.length_append] at this
/-- Bytes under way in a block that was made with room for n. -/
def Rm0 (m0 : Nat) (m : Mem) (x : AV) (l : List B8) (n : Nat) : Prop := ∃ p, x = .sl p 0 l.length n 0 ∧ own m p = some (bys (l ++ List.replicate (n - l.length) 0#8)) ∧ m0 ≤ p ∧ l.length ≤ n
theorem Rm0.push {m0 n : Nat} {m : Mem} {x y : AV} {l l2 : List B8} (h : Rm0 m0 m x l n) (hy : RdB m y l2) (hb : l.length + l2.length ≤ n) :
    ∃ x' m', aAppend 1 1 x y m = some (x', m') ∧ Rm0 m0 m' x' (l ++ l2) n ∧ Kept (blkOf x) m m' := by
  by_cases h2 : l2.length = 0
  · obtain rfl : l2 = [] := List.length_eq_zero_iff.mp h2
    refine ⟨x, m, app_none (by rw [hy.lenA]; rfl) ?_, by rwa [List.append_nil], .refl _ _⟩
    obtain ⟨p, rfl, _⟩ := h; rfl
  · obtain ⟨p, rfl, ho, hp, hl⟩ := h
    refine ⟨.sl p 0 (l.length + l2.length) n 0, m.set p (.row (bys (l ++ l2 ++ List.replicate (n - (l.length + l2.length)) 0#8)) false), ?_, ⟨p, by simp, ?_, hp, by simpa using hb⟩, .set1 _ _ _⟩
    · unfold aAppend
      simp only [hy.lenA, Option.bind_some, if_neg h2, hy.elems, if_pos hb, ho, Nat.mul_one, Nat.zero_add]
      rw [if_pos ⟨by simp; omega, by simp⟩]
      congr 3
      congr 1
      rw [splice]
      show List.take l.length ((l ++ List.replicate (n - l.length) 0#8).map b8) ++ l2.map b8 ++ List.drop (l.length + (l2.map b8).length) ((l ++ List.replicate (n - l.length) 0#8).map b8) = _
      rw [← List.map_take, ← List.map_drop, ← List.map_append, ← List.map_append, List.take_left' rfl, List.length_map, List.drop_append, List.drop_replicate, List.drop_of_length_le (by omega), List.nil_append, show n - l.length - (l.length + l2.length - l.length) = n - (l.length + l2.length) by omega]
    · rw [own_set (own_lt ho)]; simp
theorem Rm0.all {m0 n : Nat} {m : Mem} {x : AV} {l : List B8} (h : Rm0 m0 m x l n) (hl : l.length = n) : OwB m0 m x l := by
  obtain ⟨p, rfl, ho, hp, _⟩ := h
  subst hl
  rw [Nat.sub_self] at ho
  simp only [List.replicate_zero, List.append_nil] at ho
  exact ⟨p, rfl, ho, hp⟩
theorem Rm0.low {m0 n : Nat} {m : Mem} {x : AV} {l : List B8} (h : Rm0 m0 m x l n) : ∀ b ∈ blkOf x, m0 ≤ b := by
  obtain ⟨p, rfl, _, hp, _⟩ := h
  simpa [blkOf] using hp
theorem rm0_new (m : Mem) (n : Nat) : Rm0 m.length (m ++ [.row (rep n [.int .u8 0]) false]) (.sl m.length 0 0 n 0) [] n := by
  refine ⟨m.length, rfl, ?_, Nat.le_refl _, Nat.zero_le _⟩
  rw [own_app_at0]
  have hr : rep n [AV.int .u8 0] = bys (List.replicate n 0#8) := by rw [← bys_rep]; simp [rep]
  simp [own_c0, hr]
theorem ans_pbehind {m : Mem} {x y : AV} {l l2 : List B8} (hx : RdB m x l) (hy : RdB m y l2) (hb : l.length + l2.length ≤ 1000000000) :
    Ans Tryd.prog 28 [x, y] m fun r m' => Kept [] m m' ∧ OwB m.length m' r (l ++ l2) := by
  refine ans_ret mixed ok28 ?_
  simp -implicitDefEqProofs (disch := (first | omega | (simp only [lenB, lowB_len, numB_len, nsumB_len] <;> omega) | fail)) only [admQ, lenB, lowB_len, numB_len, nsumB_len, aFill, AK.cls, implies_true, ↓reduceIte, reduceCtorEq, if_true, if_false, Nat.reduceAdd, Nat.reduceEqDiff, Nat.reduceMod, Nat.reduceLT, Nat.reduceLeDiff, Nat.reduceSub, Nat.reduceMul, Nat.reduceBEq, Int.reduceAdd, Int.reduceSub, Int.reduceMul, Int.reduceNeg, Int.reduceLT, Int.reduceLE, Int.reduceToNat, Int.reduceEq, Int.reduceBEq, c28, r28, hx.len, hy.len]
  have k0 := Kept.app [] m [Blk.row (rep (l.length + l2.length) [.int .u8 0]) false]
  have g0 := rm0_new m (l.length + l2.length)
  generalize m ++ [Blk.row (rep (l.length + l2.length) [.int .u8 0]) false] = A at *
  obtain ⟨x1, m1, e1, g1, k1⟩ := g0.push (hx.kept0 k0) (by simp)
  refine someW_eq e1 ?_
  have K1 : Kept [] m m1 := k0.upon k1 g0.low
  obtain ⟨x2, m2, e2, g2, k2⟩ := g1.push (hy.kept0 K1) (by simp)
  simp -implicitDefEqProofs (disch := (first | omega | (simp only [lenB, lowB_len, numB_len, nsumB_len] <;> omega) | fail)) only [admQ, lenB, lowB_len, numB_len, nsumB_len, aFill, AK.cls, implies_true, ↓reduceIte, reduceCtorEq, if_true, if_false, Nat.reduceAdd, Nat.reduceEqDiff, Nat.reduceMod, Nat.reduceLT, Nat.reduceLeDiff, Nat.reduceSub, Nat.reduceMul, Nat.reduceBEq, Int.reduceAdd, Int.reduceSub, Int.reduceMul, Int.reduceNeg, Int.reduceLT, Int.reduceLE, Int.reduceToNat, Int.reduceEq, Int.reduceBEq]
  refine someW_eq e2 ?_
  simp -implicitDefEqProofs (disch := (first | omega | (simp only [lenB, lowB_len, numB_len, nsumB_len] <;> omega) | fail)) only [admQ, lenB, lowB_len, numB_len, nsumB_len, aFill, AK.cls, implies_true, ↓reduceIte, reduceCtorEq, if_true, if_false, Nat.reduceAdd, Nat.reduceEqDiff, Nat.reduceMod, Nat.reduceLT, Nat.reduceLeDiff, Nat.reduceSub, Nat.reduceMul, Nat.reduceBEq, Int.reduceAdd, Int.reduceSub, Int.reduceMul, Int.reduceNeg, Int.reduceLT, Int.reduceLE, Int.reduceToNat, Int.reduceEq, Int.reduceBEq]
  exact ⟨K1.upon k2 g1.low, g2.all (by simp)⟩
theorem ans_peight (v : Nat) (hv : v < 4611686018427387904) (m : Mem) : Ans Tryd.prog 29 [.int .i64 v] m fun r m' => Kept [] m m' ∧ OwB m.length m' r (numB v) := by
  refine ans_ret mixed ok29 ?_
  have hw : ∀ k : Nat, IntKind.u8.wrap ((v >>> (8 * k) : Nat) : Int) = ((byV v k).toNat : Int) := fun k => wrap_u8 _
  have h7 : IntKind.u8.wrap ((v >>> 56 : Nat) : Int) = ((byV v 7).toNat : Int) := hw 7
  have h6 : IntKind.u8.wrap ((v >>> 48 : Nat) : Int) = ((byV v 6).toNat : Int) := hw 6
  have h5 : IntKind.u8.wrap ((v >>> 40 : Nat) : Int) = ((byV v 5).toNat : Int) := hw 5
  have h4 : IntKind.u8.wrap ((v >>> 32 : Nat) : Int) = ((byV v 4).toNat : Int) := hw 4
  have h3 : IntKind.u8.wrap ((v >>> 24 : Nat) : Int) = ((byV v 3).toNat : Int) := hw 3
  have h2 : IntKind.u8.wrap ((v >>> 16 : Nat) : Int) = ((byV v 2).toNat : Int) := hw 2
  have h1 : IntKind.u8.wrap ((v >>> 8 : Nat) : Int) = ((byV v 1).toNat : Int) := hw 1
  have h0 : IntKind.u8.wrap (v : Int) = ((byV v 0).toNat : Int) := hw 0
  simp -implicitDefEqProofs (disch := (first | omega | (simp only [lenB, lowB_len, numB_len, nsumB_len] <;> omega) | fail)) only [admQ, lenB, lowB_len, numB_len, nsumB_len, aFill, AK.cls, implies_true, ↓reduceIte, reduceCtorEq, if_true, if_false, Nat.reduceAdd, Nat.reduceEqDiff, Nat.reduceMod, Nat.reduceLT, Nat.reduceLeDiff, Nat.reduceSub, Nat.reduceMul, Nat.reduceBEq, Int.reduceAdd, Int.reduceSub, Int.reduceMul, Int.reduceNeg, Int.reduceLT, Int.reduceLE, Int.reduceToNat, Int.reduceEq, Int.reduceBEq, c29, r29, fdiv_nat, @nw64, h0, h1, h2, h3, h4, h5, h6, h7]
  exact ⟨.app _ _ _, m.length, by rw [numB_len], by rw [own_app_at0]; rfl, Nat.le_refl _⟩
theorem ans_pint {m : Mem} {x : AV} {l : List B8} (v : Nat) (hv : v < 4611686018427387904) (hx : RdB m x l) (hb : l.length ≤ 900000000) :
    Ans Tryd.prog 21 [x, .int .i64 v] m fun r m' => Kept [] m m' ∧ OwB m.length m' r (l ++ numB v) := by
  refine ans_ret mixed ok21 ?_
  simp -implicitDefEqProofs (disch := (first | omega | (simp only [lenB, lowB_len, numB_len, nsumB_len] <;> omega) | fail)) only [admQ, lenB, lowB_len, numB_len, nsumB_len, aFill, AK.cls, implies_true, ↓reduceIte, reduceCtorEq, if_true, if_false, Nat.reduceAdd, Nat.reduceEqDiff, Nat.reduceMod, Nat.reduceLT, Nat.reduceLeDiff, Nat.reduceSub, Nat.reduceMul, Nat.reduceBEq, Int.reduceAdd, Int.reduceSub, Int.reduceMul, Int.reduceNeg, Int.reduceLT, Int.reduceLE, Int.reduceToNat, Int.reduceEq, Int.reduceBEq, c21, r21]
  refine (ans_peight v hv m).mono ?_
  rintro y m1 ⟨k1, g1⟩
  simp -implicitDefEqProofs (disch := (first | omega | (simp only [lenB, lowB_len, numB_len, nsumB_len] <;> omega) | fail)) only [admQ, lenB, lowB_len, numB_len, nsumB_len, aFill, AK.cls, implies_true, ↓reduceIte, reduceCtorEq, if_true, if_false, Nat.reduceAdd, Nat.reduceEqDiff, Nat.reduceMod, Nat.reduceLT, Nat.reduceLeDiff, Nat.reduceSub, Nat.reduceMul, Nat.reduceBEq, Int.reduceAdd, Int.reduceSub, Int.reduceMul, Int.reduceNeg, Int.reduceLT, Int.reduceLE, Int.reduceToNat, Int.reduceEq, Int.reduceBEq]
  refine (ans_pbehind (hx.kept0 k1) g1.rd (by rw [numB_len]; omega)).mono ?_
  rintro r m2 ⟨k2, g2⟩
  simp -implicitDefEqProofs (disch := (first | omega | (simp only [lenB, lowB_len, numB_len, nsumB_len] <;> omega) | fail)) only [admQ, lenB, lowB_len, numB_len, nsumB_len, aFill, AK.cls, implies_true, ↓reduceIte, reduceCtorEq, if_true, if_false, Nat.reduceAdd, Nat.reduceEqDiff, Nat.reduceMod, Nat.reduceLT, Nat.reduceLeDiff, Nat.reduceSub, Nat.reduceMul, Nat.reduceBEq, Int.reduceAdd, Int.reduceSub, Int.reduceMul, Int.reduceNeg, Int.reduceLT, Int.reduceLE, Int.reduceToNat, Int.reduceEq, Int.reduceBEq]
  obtain ⟨p, e, ho, hp⟩ := g2
  exact ⟨k1.trans k2, p, e, ho, Nat.le_trans k1.len hp⟩
theorem num_step {U : Nat} {b : B8} (h : U < 72057594037927936) :
    IntKind.u64.wrap ((BitVec.ofInt IntKind.u64.bits (IntKind.u64.wrap ((U : Int) * 2 ^ Nat.min 8 IntKind.u64.bits)) ||| BitVec.ofInt IntKind.u64.bits (IntKind.u64.wrap ((BitVec.toNat b : Nat) : Int))).toNat : Int) = ((U * 256 + b.toNat : Nat) : Int) := by
  have hb := b.isLt
  have e0 : (U : Int) * 2 ^ Nat.min 8 IntKind.u64.bits = ((U * 256 : Nat) : Int) := by
    rw [show (2 : Int) ^ Nat.min 8 IntKind.u64.bits = 256 from by decide]; omega
  rw [e0, nw64 (show U * 256 < 18446744073709551616 by omega), nw64 (show b.toNat < 18446744073709551616 by omega)]
  show IntKind.u64.wrap ((BitVec.ofInt 64 ((U * 256 : Nat) : Int) ||| BitVec.ofInt 64 ((b.toNat : Nat) : Int)).toNat : Int) = _
  rw [BitVec.ofInt_natCast, BitVec.ofInt_natCast, BitVec.toNat_or, BitVec.toNat_ofNat, BitVec.toNat_ofNat, Nat.mod_eq_of_lt (show U * 256 < 2 ^ 64 by omega), Nat.mod_eq_of_lt (show b.toNat < 2 ^ 64 by omega)]
  have e1 : U * 256 ||| b.toNat = U * 256 + b.toNat := by
    have := Nat.shiftLeft_add_eq_or_of_lt (i := 8) (b := b.toNat) hb U
    rw [Nat.shiftLeft_eq] at this
    exact this.symm
  rw [e1, nw64 (by omega)]
theorem ans_pnumber {m : Mem} {x : AV} {l : List B8} (hx : RdB m x l) (hl : l.length = 8) : Ans Tryd.prog 31 [x] m fun r m' => r = .int .i64 (intB l) ∧ m' = m := by
  refine ans_ret mixed ok31 ?_
  simp -implicitDefEqProofs (disch := (first | omega | (simp only [lenB, lowB_len, numB_len, nsumB_len] <;> omega) | fail)) only [admQ, lenB, lowB_len, numB_len, nsumB_len, aFill, AK.cls, implies_true, ↓reduceIte, reduceCtorEq, if_true, if_false, Nat.reduceAdd, Nat.reduceEqDiff, Nat.reduceMod, Nat.reduceLT, Nat.reduceLeDiff, Nat.reduceSub, Nat.reduceMul, Nat.reduceBEq, Int.reduceAdd, Int.reduceSub, Int.reduceMul, Int.reduceNeg, Int.reduceLT, Int.reduceLE, Int.reduceToNat, Int.reduceEq, Int.reduceBEq, c31, r31, hx.len]
  refine LoopW.on (fun i : Nat => [(3, .int .u64 (beN (l.take i) : Nat)), (6, x), (7, .int .i64 l.length), (8, .int .i64 i)]) (fun i => l.length - i) (fun i M => i ≤ l.length ∧ M = m) ?_ 0 _ _ rfl ⟨by omega, rfl⟩
  rintro i M X ⟨hi, rfl⟩ hX
  by_cases hlt : i < l.length
  · obtain ⟨b, o, cap, sl, c, rfl, hrow, hat, _⟩ := hx.cons hlt
    have e := hat i hlt
    simp -implicitDefEqProofs (disch := (first | omega | (simp only [lenB, lowB_len, numB_len, nsumB_len] <;> omega) | fail)) only [admQ, lenB, lowB_len, numB_len, nsumB_len, aFill, AK.cls, implies_true, ↓reduceIte, reduceCtorEq, if_true, if_false, Nat.reduceAdd, Nat.reduceEqDiff, Nat.reduceMod, Nat.reduceLT, Nat.reduceLeDiff, Nat.reduceSub, Nat.reduceMul, Nat.reduceBEq, Int.reduceAdd, Int.reduceSub, Int.reduceMul, Int.reduceNeg, Int.reduceLT, Int.reduceLE, Int.reduceToNat, Int.reduceEq, Int.reduceBEq, hrow, e]
    refine hX (i + 1) _ _ ?_ (by omega) ⟨by omega, rfl⟩
    have hlt256 := beN_lt i (l.take i) (by rw [List.length_take]; omega)
    have hp : 256 ^ i ≤ 256 ^ 7 := Nat.pow_le_pow_right (by omega) (by omega)
    rw [num_step (by omega), ← beN_snoc, ← take_gb hlt]
    rfl
  · obtain rfl : i = l.length := by omega
    rw [List.take_length]
    simp -implicitDefEqProofs (disch := (first | omega | (simp only [lenB, lowB_len, numB_len, nsumB_len] <;> omega) | fail)) only [admQ, lenB, lowB_len, numB_len, nsumB_len, aFill, AK.cls, implies_true, ↓reduceIte, reduceCtorEq, if_true, if_false, Nat.reduceAdd, Nat.reduceEqDiff, Nat.reduceMod, Nat.reduceLT, Nat.reduceLeDiff, Nat.reduceSub, Nat.reduceMul, Nat.reduceBEq, Int.reduceAdd, Int.reduceSub, Int.reduceMul, Int.reduceNeg, Int.reduceLT, Int.reduceLE, Int.reduceToNat, Int.reduceEq, Int.reduceBEq]
    rfl
/-- A reader at r: what is left lies in a block of its own; it is not bad. -/
def Rdr (m : Mem) (r : Nat) (l : List B8) : Prop := ∃ p o cap sl B, own m r = some [.sl p o l.length cap sl, .bool false] ∧ own m p = some B ∧ RdB m (.sl p o l.length cap sl) l ∧ p ≠ r
theorem ans_pread {m : Mem} {x : AV} {l : List B8} (hx : RdB m x l) (hb : l.length ≤ 900000000) : Ans Tryd.prog 23 [x] m fun r m' => Kept [] m m' ∧ ∃ p, r = .ptr p 0 ∧ m.length ≤ p ∧ Rdr m' p l := by
  refine ans_ret mixed ok23 ?_
  simp -implicitDefEqProofs (disch := (first | omega | (simp only [lenB, lowB_len, numB_len, nsumB_len] <;> omega) | fail)) only [admQ, lenB, lowB_len, numB_len, nsumB_len, aFill, AK.cls, implies_true, ↓reduceIte, reduceCtorEq, if_true, if_false, Nat.reduceAdd, Nat.reduceEqDiff, Nat.reduceMod, Nat.reduceLT, Nat.reduceLeDiff, Nat.reduceSub, Nat.reduceMul, Nat.reduceBEq, Int.reduceAdd, Int.reduceSub, Int.reduceMul, Int.reduceNeg, Int.reduceLT, Int.reduceLE, Int.reduceToNat, Int.reduceEq, Int.reduceBEq, c23, r23]
  refine (ans_pbehind hx (.nils m) (by simp; omega)).mono ?_
  rintro y m1 ⟨k1, g1⟩
  rw [List.append_nil] at g1
  have hr := g1.rd
  obtain ⟨p, rfl, ho, hp⟩ := g1
  simp -implicitDefEqProofs (disch := (first | omega | (simp only [lenB, lowB_len, numB_len, nsumB_len] <;> omega) | fail)) only [admQ, lenB, lowB_len, numB_len, nsumB_len, aFill, AK.cls, implies_true, ↓reduceIte, reduceCtorEq, if_true, if_false, Nat.reduceAdd, Nat.reduceEqDiff, Nat.reduceMod, Nat.reduceLT, Nat.reduceLeDiff, Nat.reduceSub, Nat.reduceMul, Nat.reduceBEq, Int.reduceAdd, Int.reduceSub, Int.reduceMul, Int.reduceNeg, Int.reduceLT, Int.reduceLE, Int.reduceToNat, Int.reduceEq, Int.reduceBEq]
  have hl := own_lt ho
  have hkl := k1.len
  exact ⟨k1.more_app _, m1.length, rfl, hkl, p, 0, l.length, 0, bys l, by rw [own_app_at0]; rfl, own_app ho _, hr.app _, by omega⟩
theorem ans_print {m : Mem} {r : Nat} {l : List B8} (h : Rdr m r l) (hl : 8 ≤ l.length) : Ans Tryd.prog 24 [.ptr r 0] m fun v m' => v = .int .i64 (intB (l.take 8)) ∧ Kept [r] m m' ∧ Rdr m' r (l.drop 8) := by
  refine ans_ret mixed ok24 ?_
  obtain ⟨p, o, cap, sl, B, h1, h2, h3, h4⟩ := h
  have htk : Ans Tryd.prog 30 [.ptr r 0, .int .i64 8, .fn (.func 31) [] []] m fun v m' => v = .int .i64 (intB (l.take 8)) ∧ Kept [r] m m' ∧ Rdr m' r (l.drop 8) := by
    refine ans_ret mixed ok30 ?_
    obtain ⟨_, _, _, _, cc, e, hrow, hat, hlen, hcap, hsl, htk⟩ := h3.cons (i := 0) (by omega)
    cases e
    have hr := own_lt h1
    have h1' := own_set hr [AV.sl p (o + 8) (l.length - 8) (cap - 8) sl, .bool false]
    simp -implicitDefEqProofs (disch := (first | omega | (simp only [lenB, lowB_len, numB_len, nsumB_len] <;> omega) | fail)) only [admQ, lenB, lowB_len, numB_len, nsumB_len, aFill, AK.cls, implies_true, ↓reduceIte, reduceCtorEq, if_true, if_false, Nat.reduceAdd, Nat.reduceEqDiff, Nat.reduceMod, Nat.reduceLT, Nat.reduceLeDiff, Nat.reduceSub, Nat.reduceMul, Nat.reduceBEq, Int.reduceAdd, Int.reduceSub, Int.reduceMul, Int.reduceNeg, Int.reduceLT, Int.reduceLE, Int.reduceToNat, Int.reduceEq, Int.reduceBEq, c30, r30, rowOf_own h1, h1, rowOf_own h1']
    have kX := Kept.set1 m r (.row [AV.sl p (o + 8) (l.length - 8) (cap - 8) sl, .bool false] false)
    have h38 := h3.kept kX (fun b o n cap s e => by cases e; simpa using h4)
    refine (ans_pnumber (h38.take (k := 8) hl) (by simp; omega)).mono ?_
    rintro _ M ⟨rfl, hM⟩
    subst hM
    simp -implicitDefEqProofs (disch := (first | omega | (simp only [lenB, lowB_len, numB_len, nsumB_len] <;> omega) | fail)) only [admQ, lenB, lowB_len, numB_len, nsumB_len, aFill, AK.cls, implies_true, ↓reduceIte, reduceCtorEq, if_true, if_false, Nat.reduceAdd, Nat.reduceEqDiff, Nat.reduceMod, Nat.reduceLT, Nat.reduceLeDiff, Nat.reduceSub, Nat.reduceMul, Nat.reduceBEq, Int.reduceAdd, Int.reduceSub, Int.reduceMul, Int.reduceNeg, Int.reduceLT, Int.reduceLE, Int.reduceToNat, Int.reduceEq, Int.reduceBEq]
    have hdr := h38.drop (k := 8) hl
    have hld : (l.drop 8).length = l.length - 8 := by simp
    refine ⟨kX, p, o + 8, cap - 8, sl, B, ?_, kX.own h2 (by simpa using h4), ?_, h4⟩
    · rw [hld]; exact h1'
    · rw [hld]; exact hdr
  simp -implicitDefEqProofs (disch := (first | omega | (simp only [lenB, lowB_len, numB_len, nsumB_len] <;> omega) | fail)) only [admQ, lenB, lowB_len, numB_len, nsumB_len, aFill, AK.cls, implies_true, ↓reduceIte, reduceCtorEq, if_true, if_false, Nat.reduceAdd, Nat.reduceEqDiff, Nat.reduceMod, Nat.reduceLT, Nat.reduceLeDiff, Nat.reduceSub, Nat.reduceMul, Nat.reduceBEq, Int.reduceAdd, Int.reduceSub, Int.reduceMul, Int.reduceNeg, Int.reduceLT, Int.reduceLE, Int.reduceToNat, Int.reduceEq, Int.reduceBEq, c24, r24]
  refine htk.mono ?_
  rintro v m' ⟨rfl, h5, h6⟩
  simp -implicitDefEqProofs (disch := (first | omega | (simp only [lenB, lowB_len, numB_len, nsumB_len] <;> omega) | fail)) only [admQ, lenB, lowB_len, numB_len, nsumB_len, aFill, AK.cls, implies_true, ↓reduceIte, reduceCtorEq, if_true, if_false, Nat.reduceAdd, Nat.reduceEqDiff, Nat.reduceMod, Nat.reduceLT, Nat.reduceLeDiff, Nat.reduceSub, Nat.reduceMul, Nat.reduceBEq, Int.reduceAdd, Int.reduceSub, Int.reduceMul, Int.reduceNeg, Int.reduceLT, Int.reduceLE, Int.reduceToNat, Int.reduceEq, Int.reduceBEq]
  exact ⟨h5, h6⟩
end Go.Proofs.YtmnlmjlmbceimaaDoor
end
section
/- Either crypt: a box, or names. -/
namespace Go.Proofs.YtmnlmjlmbceimaaDoor
open Go Go.Adm
set_option linter.unusedSimpArgs false
set_option linter.unusedVariables false
set_option maxRecDepth 100000
/-- What a crypt holds. -/
inductive CyS where
  | box (key : List B8)
  | nm (S : List Sd) (T : List (List B8))
def cyT : CyS → TypeId
  | .box _ => 26
  | .nm _ _ => 28
def cySf : CyS → FuncId
  | .box _ => 55
  | .nm _ _ => 70
def cyOf : CyS → FuncId
  | .box _ => 54
  | .nm _ _ => 69
theorem cym_seal (s : CyS) : methodD Tryd.prog (cyT s) "Seal" = some (cySf s) := by
  cases s
  · show methodD Tryd.prog 26 "Seal" = some 55
    kernel_rfl
  · show methodD Tryd.prog 28 "Seal" = some 70
    kernel_rfl
theorem cym_open (s : CyS) : methodD Tryd.prog (cyT s) "Open" = some (cyOf s) := by
  cases s
  · show methodD Tryd.prog 26 "Open" = some 54
    kernel_rfl
  · show methodD Tryd.prog 28 "Open" = some 69
    kernel_rfl
theorem cyn_seal (s : CyS) (b o : Nat) : pNil [.fn (.method "Seal") [.iface (cyT s) (.ptr b o)] []] = some (.fn (.method "Seal") [.iface (cyT s) (.ptr b o)] []) := by
  cases s <;> rfl
theorem cyn_open (s : CyS) (b o : Nat) : pNil [.fn (.method "Open") [.iface (cyT s) (.ptr b o)] []] = some (.fn (.method "Open") [.iface (cyT s) (.ptr b o)] []) := by
  cases s <;> rfl
/-- A crypt: at x; the blocks W are written, R are read. -/
def Cy (m : Mem) (x : Nat) (W R : List Nat) : CyS → Prop
  | .box key => ∃ c kb k, SBox m x c kb k key ∧ W = [] ∧ R = [x, c, kb, k, 0]
  | .nm S T => Nm m x W S T ∧ R = W
def cyOk : CyS → Nat → Prop
  | .box _, _ => True
  | .nm S _, k => S.length ≤ k
def cyNx (s : CyS) (d : Sd) : CyS := match s with
  | .box key => .box key
  | .nm S T => .nm (sealS2 S d) T
def cySl (s : CyS) (d : Sd) : List B8 := match s with
  | .box key => if mayP d then sealB key d.2.2.1 d.1 d.2.1 d.2.2.2 else []
  | .nm S T => sealR S d
open Classical in
/-- What is opened. -/
noncomputable def cyOp (s : CyS) (e n : Int) (head b : List B8) : Option (List B8) := match s with
  | .box key => if openP key head e n b then some (turnB key e n (b.take (b.length - 32))) else none
  | .nm S T => if nopenP S e n head b then some (b.take (b.length - 32)) else none
theorem Cy.sub {m : Mem} {x : Nat} {W R : List Nat} {s : CyS} (h : Cy m x W R s) : ∀ b ∈ W, b ∈ R := by
  cases s with
  | box key => obtain ⟨c, kb, k, _, rfl, _⟩ := h; simp
  | nm S T => obtain ⟨_, rfl⟩ := h; exact fun _ h => h
theorem Cy.lt {m : Mem} {x : Nat} {W R : List Nat} {s : CyS} (h : Cy m x W R s) : ∀ b ∈ R, b < m.length := by
  cases s with
  | box key =>
    obtain ⟨c, kb, k, hs, _, rfl⟩ := h
    have h1 := rowOf_lt hs.hd
    have h2 := rowOf_lt hs.au
    have h3 := rowOf_lt hs.kT
    have h4 := rowOf_lt hs.ci.hd
    have h5 := rowOf_lt hs.ci.keys
    simp only [List.mem_cons, List.not_mem_nil, or_false]
    rintro b (rfl | rfl | rfl | rfl | rfl) <;> assumption
  | nm S T => obtain ⟨h, rfl⟩ := h; exact h.lt
theorem Cy.kept {m m' : Mem} {x : Nat} {W R X : List Nat} {s : CyS} (h : Cy m x W R s) (hk : Kept X m m') (hX : ∀ b ∈ R, b ∉ X) : Cy m' x W R s := by
  cases s with
  | box key =>
    obtain ⟨c, kb, k, hs, rfl, rfl⟩ := h
    exact ⟨c, kb, k, hs.kept hk ⟨hX x (by simp), hX c (by simp), hX kb (by simp), hX k (by simp), hX 0 (by simp)⟩, rfl, rfl⟩
  | nm S T => obtain ⟨h, rfl⟩ := h; exact ⟨h.kept hk hX, rfl⟩
theorem Cy.kept0 {m m' : Mem} {x : Nat} {W R : List Nat} {s : CyS} (h : Cy m x W R s) (hk : Kept [] m m') : Cy m' x W R s := h.kept hk (by simp)
theorem cySl_len (s : CyS) (d : Sd) : (cySl s d).length ≤ d.2.2.2.length + 32 := by
  cases s with
  | box key =>
    simp only [cySl]
    split
    · rw [sealB_len]; omega
    · simp
  | nm S T => exact sealR_len S d
theorem ans_cyseal {m : Mem} {x : Nat} {W R : List Nat} {s : CyS} {d : Sd} {hx bx : AV} (hC : Cy m x W R s) (hh : RdB m hx d.2.2.1) (hb : RdB m bx d.2.2.2) (hd : ∀ b ∈ blkOf bx, b ∉ W) (hk : cyOk s 1000) (hl : d.2.2.1.length ≤ 100000 ∧ d.2.2.2.length ≤ 100000) :
    Ans Tryd.prog (cySf s) [.ptr x 0, .int .i64 d.1, .int .i64 d.2.1, hx, bx] m fun r m' => ∃ W' R', Kept W m m' ∧ Cy m' x W' R' (cyNx s d) ∧ (∀ b ∈ R', b ∈ R ∨ m.length ≤ b) ∧ GrB m.length m' r (cySl s d) ∧ ∀ b ∈ blkOf r, m.length ≤ b ∧ b ∉ R' := by
  cases s with
  | box key =>
    have hlt := hC.lt
    obtain ⟨c, kb, k, hs, rfl, rfl⟩ := hC
    refine (ans_seseal (e := d.1) (n := d.2.1) hs hh hb hl).mono ?_
    rintro r m' ⟨k1, h1, h2⟩
    refine ⟨[], [x, c, kb, k, 0], k1, ⟨c, kb, k, hs.kept0 k1, rfl, rfl⟩, fun b hb => .inl hb, ?_⟩
    simp only [cySl]
    by_cases hp : mayP d
    · have hp' : placedP d.1 d.2.1 := hp
      have g := h1 hp'
      have hlow := GrA.blk g (by intro h0; have := congrArg List.length h0; rw [bys_len, sealB_len] at this; simp at this)
      rw [if_pos hp]
      exact ⟨g, fun b hb => ⟨hlow b hb, fun h => by have := hlt b h; have := hlow b hb; omega⟩⟩
    · rw [if_neg hp, h2 hp]
      exact ⟨.nils .., by simp [blkOf]⟩
  | nm S T =>
    obtain ⟨hN, rfl⟩ := hC
    refine (ans_nseal2 hN hh hb hd hk hl).mono ?_
    rintro r m' ⟨W', k1, hN', hW, g, ap, lo⟩
    exact ⟨W', W', k1, ⟨hN', rfl⟩, hW, g, fun b hb => ⟨(lo b hb).1, ap b hb⟩⟩
theorem ans_cyopen {m : Mem} {x : Nat} {W R : List Nat} {s : CyS} {e n : Int} {head b : List B8} {hx bx : AV} (hC : Cy m x W R s) (hh : RdB m hx head) (hb : RdB m bx b) (hk : cyOk s 1000) (hl : head.length ≤ 100000 ∧ b.length ≤ 100000) :
    Ans Tryd.prog (cyOf s) [.ptr x 0, .int .i64 e, .int .i64 n, hx, bx] m fun r m' => Kept [] m m' ∧ ∃ v, r = .tup [v, .bool (cyOp s e n head b).isSome] ∧ RdB m' v ((cyOp s e n head b).getD []) ∧ ∀ q ∈ blkOf v, m.length ≤ q := by
  cases s with
  | box key =>
    obtain ⟨c, kb, k, hs, rfl, rfl⟩ := hC
    refine (ans_seopen (e := e) (n := n) hs hh hb hl).mono ?_
    rintro r m' ⟨k1, h1, h2⟩
    refine ⟨k1, ?_⟩
    simp only [cyOp]
    by_cases hp : openP key head e n b
    · obtain ⟨p, hp1, rfl, ho⟩ := h1 hp
      rw [if_pos hp]
      have hl8 : (turnB key e n (b.take (b.length - 32))).length = b.length - 32 := by rw [turnB_len]; simp
      have hrd := RdB.row (l := turnB key e n (b.take (b.length - 32))) (b.length - 32) 0 (rowOf_own ho) (by omega)
      rw [hl8] at hrd
      exact ⟨_, rfl, hrd, by simpa [blkOf] using hp1⟩
    · rw [if_neg hp]
      exact ⟨.nils, h2 hp, .nils _, by simp [blkOf]⟩
  | nm S T =>
    obtain ⟨hN, rfl⟩ := hC
    refine (ans_nopen (e := e) (n := n) hN hh hb hk hl).mono ?_
    rintro r m' ⟨k1, h1, h2⟩
    refine ⟨k1, ?_⟩
    simp only [cyOp]
    by_cases hp : nopenP S e n head b
    · obtain ⟨v, rfl, g, hv⟩ := h1 hp
      rw [if_pos hp]
      exact ⟨v, rfl, g.rd, hv⟩
    · rw [if_neg hp]
      exact ⟨.nils, h2 hp, .nils _, by simp [blkOf]⟩
end Go.Proofs.YtmnlmjlmbceimaaDoor
end
section
/- Sectors: put and got, with either crypt. -/
namespace Go.Proofs.YtmnlmjlmbceimaaDoor
open Go Go.Adm
set_option linter.unusedSimpArgs false
set_option linter.unusedVariables false
set_option maxRecDepth 100000
/-- A sector: its kind, epoch, number, place, plain text. -/
structure Sec where
  k : Int
  e : Int
  n : Int
  a : Int
  p : List B8
deriving DecidableEq
def secV (s : Sec) (v : AV) : AV := .agg [.int .i64 s.k, .int .i64 s.e, .int .i64 s.n, .int .i64 s.a, v]
def rightP (e n a : Int) : Prop := (0 ≤ e ∧ 0 ≤ n ∧ 0 ≤ a) ∧ (e ≤ 1099511627776 ∧ n ≤ 1099511627776) ∧ a < 4096
instance (e n a : Int) : Decidable (rightP e n a) := by unfold rightP; infer_instance
theorem ans_scright (e n a : Int) (m : Mem) : Ans Tryd.prog 20 [.int .i64 e, .int .i64 n, .int .i64 a] m fun r m' => r = .bool (decide (rightP e n a)) ∧ m' = m := by
  refine ans_ret mixed ok20 ?_
  by_cases h1 : min (min e n) a ≥ 0
  · have hmx : (if n > e then n else e) = max e n := by omega
    by_cases h2 : max e n ≤ 1099511627776
    · by_cases h3 : a < 4096
      · simp -implicitDefEqProofs (disch := (first | omega | (simp only [lenB, lowB_len, numB_len, nsumB_len] <;> omega) | fail)) only [admQ, lenB, lowB_len, numB_len, nsumB_len, aFill, AK.cls, implies_true, ↓reduceIte, reduceCtorEq, if_true, if_false, Nat.reduceAdd, Nat.reduceEqDiff, Nat.reduceMod, Nat.reduceLT, Nat.reduceLeDiff, Nat.reduceSub, Nat.reduceMul, Nat.reduceBEq, Int.reduceAdd, Int.reduceSub, Int.reduceMul, Int.reduceNeg, Int.reduceLT, Int.reduceLE, Int.reduceToNat, Int.reduceEq, Int.reduceBEq, c20, r20, dec_t h1, hmx, dec_t h2, dec_t h3, dec_t (show rightP e n a from ⟨by omega, by omega, h3⟩)]
      · simp -implicitDefEqProofs (disch := (first | omega | (simp only [lenB, lowB_len, numB_len, nsumB_len] <;> omega) | fail)) only [admQ, lenB, lowB_len, numB_len, nsumB_len, aFill, AK.cls, implies_true, ↓reduceIte, reduceCtorEq, if_true, if_false, Nat.reduceAdd, Nat.reduceEqDiff, Nat.reduceMod, Nat.reduceLT, Nat.reduceLeDiff, Nat.reduceSub, Nat.reduceMul, Nat.reduceBEq, Int.reduceAdd, Int.reduceSub, Int.reduceMul, Int.reduceNeg, Int.reduceLT, Int.reduceLE, Int.reduceToNat, Int.reduceEq, Int.reduceBEq, c20, r20, dec_t h1, hmx, dec_t h2, dec_f h3, dec_f (show ¬ rightP e n a from fun h => h3 h.2.2)]
    · simp -implicitDefEqProofs (disch := (first | omega | (simp only [lenB, lowB_len, numB_len, nsumB_len] <;> omega) | fail)) only [admQ, lenB, lowB_len, numB_len, nsumB_len, aFill, AK.cls, implies_true, ↓reduceIte, reduceCtorEq, if_true, if_false, Nat.reduceAdd, Nat.reduceEqDiff, Nat.reduceMod, Nat.reduceLT, Nat.reduceLeDiff, Nat.reduceSub, Nat.reduceMul, Nat.reduceBEq, Int.reduceAdd, Int.reduceSub, Int.reduceMul, Int.reduceNeg, Int.reduceLT, Int.reduceLE, Int.reduceToNat, Int.reduceEq, Int.reduceBEq, c20, r20, dec_t h1, hmx, dec_f h2, dec_f (show ¬ rightP e n a from fun h => h2 (by have := h.2.1; omega))]
  · simp -implicitDefEqProofs (disch := (first | omega | (simp only [lenB, lowB_len, numB_len, nsumB_len] <;> omega) | fail)) only [admQ, lenB, lowB_len, numB_len, nsumB_len, aFill, AK.cls, implies_true, ↓reduceIte, reduceCtorEq, if_true, if_false, Nat.reduceAdd, Nat.reduceEqDiff, Nat.reduceMod, Nat.reduceLT, Nat.reduceLeDiff, Nat.reduceSub, Nat.reduceMul, Nat.reduceBEq, Int.reduceAdd, Int.reduceSub, Int.reduceMul, Int.reduceNeg, Int.reduceLT, Int.reduceLE, Int.reduceToNat, Int.reduceEq, Int.reduceBEq, c20, r20, dec_f h1, dec_f (show ¬ rightP e n a from fun h => h1 (by have := h.1; omega))]
def kB (k : Int) : B8 := BitVec.ofInt 8 k
/-- What is sealed with a plain text. -/
def headB (k : Int) (a : Nat) : List B8 := kB k :: numB a
theorem headB_len (k : Int) (a : Nat) : (headB k a).length = 9 := by simp [headB, numB_len]
theorem ans_schead (k : Int) (a : Nat) (ha : a < 4611686018427387904) (m : Mem) : Ans Tryd.prog 22 [.int .i64 k, .int .i64 a] m fun r m' => Kept [] m m' ∧ OwB m.length m' r (headB k a) := by
  refine ans_ret mixed ok22 ?_
  have hw : IntKind.u8.wrap k = ((kB k).toNat : Int) := wr_u8 k
  simp -implicitDefEqProofs (disch := (first | omega | (simp only [lenB, lowB_len, numB_len, nsumB_len] <;> omega) | fail)) only [admQ, lenB, lowB_len, numB_len, nsumB_len, aFill, AK.cls, implies_true, ↓reduceIte, reduceCtorEq, if_true, if_false, Nat.reduceAdd, Nat.reduceEqDiff, Nat.reduceMod, Nat.reduceLT, Nat.reduceLeDiff, Nat.reduceSub, Nat.reduceMul, Nat.reduceBEq, Int.reduceAdd, Int.reduceSub, Int.reduceMul, Int.reduceNeg, Int.reduceLT, Int.reduceLE, Int.reduceToNat, Int.reduceEq, Int.reduceBEq, c22, r22, hw]
  have hr := RdB.row (m := m ++ [Blk.row [b8 (kB k)] false]) (l := [kB k]) 1 0 (rowOf_app_at0 m _) (by simp)
  refine (ans_pint a ha hr (by simp)).mono ?_
  rintro r m' ⟨h1, p, h2, h3, h4⟩
  simp -implicitDefEqProofs (disch := (first | omega | (simp only [lenB, lowB_len, numB_len, nsumB_len] <;> omega) | fail)) only [admQ, lenB, lowB_len, numB_len, nsumB_len, aFill, AK.cls, implies_true, ↓reduceIte, reduceCtorEq, if_true, if_false, Nat.reduceAdd, Nat.reduceEqDiff, Nat.reduceMod, Nat.reduceLT, Nat.reduceLeDiff, Nat.reduceSub, Nat.reduceMul, Nat.reduceBEq, Int.reduceAdd, Int.reduceSub, Int.reduceMul, Int.reduceNeg, Int.reduceLT, Int.reduceLE, Int.reduceToNat, Int.reduceEq, Int.reduceBEq]
  rw [List.length_append] at h4
  exact ⟨(Kept.app [] m _).trans h1, p, h2, h3, by omega⟩
theorem ans_samesector {m : Mem} {s t : Sec} {v w : AV} (hv : RdB m v s.p) (hw : RdB m w t.p) (hl : s.p.length ≤ 1000000) : Ans Tryd.prog 14 [secV s v, secV t w] m fun r m' => r = .bool (decide (s = t)) ∧ Kept [] m m' := by
  refine ans_ret mixed ok14 ?_
  unfold secV
  have kA := Kept.app [] m [Blk.row [.int .i64 s.k, .int .i64 s.e, .int .i64 s.n, .int .i64 s.a, v] false, Blk.row [.int .i64 t.k, .int .i64 t.e, .int .i64 t.n, .int .i64 t.a, w] false]
  have ne : ∀ P : Prop, (s = t → P) → ¬ P → ¬ s = t := fun P h1 h2 h => h2 (h1 h)
  by_cases h1 : s.k = t.k
  · by_cases h2 : s.e = t.e
    · by_cases h3 : s.n = t.n
      · by_cases h4 : s.a = t.a
        · simp -implicitDefEqProofs (disch := (first | omega | (simp only [lenB, lowB_len, numB_len, nsumB_len] <;> omega) | fail)) only [admQ, lenB, lowB_len, numB_len, nsumB_len, aFill, AK.cls, implies_true, ↓reduceIte, reduceCtorEq, if_true, if_false, Nat.reduceAdd, Nat.reduceEqDiff, Nat.reduceMod, Nat.reduceLT, Nat.reduceLeDiff, Nat.reduceSub, Nat.reduceMul, Nat.reduceBEq, Int.reduceAdd, Int.reduceSub, Int.reduceMul, Int.reduceNeg, Int.reduceLT, Int.reduceLE, Int.reduceToNat, Int.reduceEq, Int.reduceBEq, c14, r14, (rd_one hv).1, (rd_one hv).2, (rd_one hw).1, (rd_one hw).2, beq_iff_eq.mpr h1, beq_iff_eq.mpr h2, beq_iff_eq.mpr h3, beq_iff_eq.mpr h4]
          refine (ans_samebytes (hv.app _) (hw.app _) (by omega)).mono ?_
          rintro _ M ⟨rfl, hM⟩
          subst hM
          simp -implicitDefEqProofs (disch := (first | omega | (simp only [lenB, lowB_len, numB_len, nsumB_len] <;> omega) | fail)) only [admQ, lenB, lowB_len, numB_len, nsumB_len, aFill, AK.cls, implies_true, ↓reduceIte, reduceCtorEq, if_true, if_false, Nat.reduceAdd, Nat.reduceEqDiff, Nat.reduceMod, Nat.reduceLT, Nat.reduceLeDiff, Nat.reduceSub, Nat.reduceMul, Nat.reduceBEq, Int.reduceAdd, Int.reduceSub, Int.reduceMul, Int.reduceNeg, Int.reduceLT, Int.reduceLE, Int.reduceToNat, Int.reduceEq, Int.reduceBEq]
          refine ⟨?_, kA⟩
          by_cases h5 : s.p = t.p
          · have : s = t := by
              obtain ⟨a1, a2, a3, a4, a5⟩ := s
              obtain ⟨b1, b2, b3, b4, b5⟩ := t
              simp_all
            rw [dec_t this, h5]; simp
          · rw [dec_f (ne _ (fun h => by rw [h]) h5), beq_eq_false_iff_ne.mpr h5]
        · simp -implicitDefEqProofs (disch := (first | omega | (simp only [lenB, lowB_len, numB_len, nsumB_len] <;> omega) | fail)) only [admQ, lenB, lowB_len, numB_len, nsumB_len, aFill, AK.cls, implies_true, ↓reduceIte, reduceCtorEq, if_true, if_false, Nat.reduceAdd, Nat.reduceEqDiff, Nat.reduceMod, Nat.reduceLT, Nat.reduceLeDiff, Nat.reduceSub, Nat.reduceMul, Nat.reduceBEq, Int.reduceAdd, Int.reduceSub, Int.reduceMul, Int.reduceNeg, Int.reduceLT, Int.reduceLE, Int.reduceToNat, Int.reduceEq, Int.reduceBEq, c14, r14, (rd_one hv).1, (rd_one hv).2, (rd_one hw).1, (rd_one hw).2, beq_iff_eq.mpr h1, beq_iff_eq.mpr h2, beq_iff_eq.mpr h3, beq_eq_false_iff_ne.mpr h4, dec_f (ne _ (fun h => by rw [h]) h4)]
          exact kA
      · simp -implicitDefEqProofs (disch := (first | omega | (simp only [lenB, lowB_len, numB_len, nsumB_len] <;> omega) | fail)) only [admQ, lenB, lowB_len, numB_len, nsumB_len, aFill, AK.cls, implies_true, ↓reduceIte, reduceCtorEq, if_true, if_false, Nat.reduceAdd, Nat.reduceEqDiff, Nat.reduceMod, Nat.reduceLT, Nat.reduceLeDiff, Nat.reduceSub, Nat.reduceMul, Nat.reduceBEq, Int.reduceAdd, Int.reduceSub, Int.reduceMul, Int.reduceNeg, Int.reduceLT, Int.reduceLE, Int.reduceToNat, Int.reduceEq, Int.reduceBEq, c14, r14, (rd_one hv).1, (rd_one hv).2, (rd_one hw).1, (rd_one hw).2, beq_iff_eq.mpr h1, beq_iff_eq.mpr h2, beq_eq_false_iff_ne.mpr h3, dec_f (ne _ (fun h => by rw [h]) h3)]
        exact kA
    · simp -implicitDefEqProofs (disch := (first | omega | (simp only [lenB, lowB_len, numB_len, nsumB_len] <;> omega) | fail)) only [admQ, lenB, lowB_len, numB_len, nsumB_len, aFill, AK.cls, implies_true, ↓reduceIte, reduceCtorEq, if_true, if_false, Nat.reduceAdd, Nat.reduceEqDiff, Nat.reduceMod, Nat.reduceLT, Nat.reduceLeDiff, Nat.reduceSub, Nat.reduceMul, Nat.reduceBEq, Int.reduceAdd, Int.reduceSub, Int.reduceMul, Int.reduceNeg, Int.reduceLT, Int.reduceLE, Int.reduceToNat, Int.reduceEq, Int.reduceBEq, c14, r14, (rd_one hv).1, (rd_one hv).2, (rd_one hw).1, (rd_one hw).2, beq_iff_eq.mpr h1, beq_eq_false_iff_ne.mpr h2, dec_f (ne _ (fun h => by rw [h]) h2)]
      exact kA
  · simp -implicitDefEqProofs (disch := (first | omega | (simp only [lenB, lowB_len, numB_len, nsumB_len] <;> omega) | fail)) only [admQ, lenB, lowB_len, numB_len, nsumB_len, aFill, AK.cls, implies_true, ↓reduceIte, reduceCtorEq, if_true, if_false, Nat.reduceAdd, Nat.reduceEqDiff, Nat.reduceMod, Nat.reduceLT, Nat.reduceLeDiff, Nat.reduceSub, Nat.reduceMul, Nat.reduceBEq, Int.reduceAdd, Int.reduceSub, Int.reduceMul, Int.reduceNeg, Int.reduceLT, Int.reduceLE, Int.reduceToNat, Int.reduceEq, Int.reduceBEq, c14, r14, (rd_one hv).1, (rd_one hv).2, (rd_one hw).1, (rd_one hw).2, beq_eq_false_iff_ne.mpr h1, dec_f (ne _ (fun h => by rw [h]) h1)]
    exact kA
/-- The kind that bytes claim. -/
def kindB (b : List B8) : Int := if b.length < 17 ∨ (gb b 0).toNat < 1 ∨ 5 < (gb b 0).toNat then 0 else (gb b 0).toNat
theorem ans_sckind {m : Mem} {x : AV} {b : List B8} (hb : RdB m x b) : Ans Tryd.prog 15 [x] m fun r m' => r = .int .i64 (kindB b) ∧ m' = m := by
  refine ans_ret mixed ok15 ?_
  have hbl := (gb b 0).isLt
  unfold kindB
  by_cases h1 : b.length < 17
  · rw [if_pos (.inl h1)]
    simp -implicitDefEqProofs (disch := (first | omega | (simp only [lenB, lowB_len, numB_len, nsumB_len] <;> omega) | fail)) only [admQ, lenB, lowB_len, numB_len, nsumB_len, aFill, AK.cls, implies_true, ↓reduceIte, reduceCtorEq, if_true, if_false, Nat.reduceAdd, Nat.reduceEqDiff, Nat.reduceMod, Nat.reduceLT, Nat.reduceLeDiff, Nat.reduceSub, Nat.reduceMul, Nat.reduceBEq, Int.reduceAdd, Int.reduceSub, Int.reduceMul, Int.reduceNeg, Int.reduceLT, Int.reduceLE, Int.reduceToNat, Int.reduceEq, Int.reduceBEq, c15, r15, hb.len, dec_t (show (b.length : Int) < 17 by omega)]
  · obtain ⟨q, o, cap, sl, cc, rfl, hrow, hat, _⟩ := hb.cons (i := 0) (by omega)
    have e0 := hat 0 (by omega)
    simp only [Nat.add_zero] at e0
    by_cases h2 : (gb b 0).toNat < 1
    · rw [if_pos (.inr (.inl h2))]
      simp -implicitDefEqProofs (disch := (first | omega | (simp only [lenB, lowB_len, numB_len, nsumB_len] <;> omega) | fail)) only [admQ, lenB, lowB_len, numB_len, nsumB_len, aFill, AK.cls, implies_true, ↓reduceIte, reduceCtorEq, if_true, if_false, Nat.reduceAdd, Nat.reduceEqDiff, Nat.reduceMod, Nat.reduceLT, Nat.reduceLeDiff, Nat.reduceSub, Nat.reduceMul, Nat.reduceBEq, Int.reduceAdd, Int.reduceSub, Int.reduceMul, Int.reduceNeg, Int.reduceLT, Int.reduceLE, Int.reduceToNat, Int.reduceEq, Int.reduceBEq, c15, r15, hrow, e0, dec_f (show ¬ (b.length : Int) < 17 by omega), dec_t (show ((gb b 0).toNat : Int) < 1 by omega)]
    · by_cases h3 : 5 < (gb b 0).toNat
      · rw [if_pos (.inr (.inr h3))]
        simp -implicitDefEqProofs (disch := (first | omega | (simp only [lenB, lowB_len, numB_len, nsumB_len] <;> omega) | fail)) only [admQ, lenB, lowB_len, numB_len, nsumB_len, aFill, AK.cls, implies_true, ↓reduceIte, reduceCtorEq, if_true, if_false, Nat.reduceAdd, Nat.reduceEqDiff, Nat.reduceMod, Nat.reduceLT, Nat.reduceLeDiff, Nat.reduceSub, Nat.reduceMul, Nat.reduceBEq, Int.reduceAdd, Int.reduceSub, Int.reduceMul, Int.reduceNeg, Int.reduceLT, Int.reduceLE, Int.reduceToNat, Int.reduceEq, Int.reduceBEq, c15, r15, hrow, e0, dec_f (show ¬ (b.length : Int) < 17 by omega), dec_f (show ¬ ((gb b 0).toNat : Int) < 1 by omega), dec_t (show ((gb b 0).toNat : Int) > 5 by omega)]
      · rw [if_neg (by omega)]
        simp -implicitDefEqProofs (disch := (first | omega | (simp only [lenB, lowB_len, numB_len, nsumB_len] <;> omega) | fail)) only [admQ, lenB, lowB_len, numB_len, nsumB_len, aFill, AK.cls, implies_true, ↓reduceIte, reduceCtorEq, if_true, if_false, Nat.reduceAdd, Nat.reduceEqDiff, Nat.reduceMod, Nat.reduceLT, Nat.reduceLeDiff, Nat.reduceSub, Nat.reduceMul, Nat.reduceBEq, Int.reduceAdd, Int.reduceSub, Int.reduceMul, Int.reduceNeg, Int.reduceLT, Int.reduceLE, Int.reduceToNat, Int.reduceEq, Int.reduceBEq, c15, r15, hrow, e0, dec_f (show ¬ (b.length : Int) < 17 by omega), dec_f (show ¬ ((gb b 0).toNat : Int) < 1 by omega), dec_f (show ¬ ((gb b 0).toNat : Int) > 5 by omega), wrap_i64 (show (-9223372036854775808 : Int) ≤ ((gb b 0).toNat : Int) by omega) (show ((gb b 0).toNat : Int) < 9223372036854775808 by omega)]
end Go.Proofs.YtmnlmjlmbceimaaDoor
end
section
/- Sectors: put. -/
namespace Go.Proofs.YtmnlmjlmbceimaaDoor
open Go Go.Adm
set_option linter.unusedSimpArgs false
set_option linter.unusedVariables false
set_option maxRecDepth 100000
def okP (s : Sec) : Prop := (1 ≤ s.k ∧ s.k ≤ 5) ∧ rightP s.e s.n s.a ∧ s.p.length ≤ 975
instance (s : Sec) : Decidable (okP s) := by unfold okP; infer_instance
def errP (s : Sec) : Int := if s.k < 1 ∨ s.k > 5 then 5 else if ¬ rightP s.e s.n s.a then 7 else if s.p.length > 975 then 3 else 0
theorem errP_ok (s : Sec) : errP s = 0 ↔ okP s := by
  unfold errP okP
  constructor
  · intro h
    split at h
    · cases h
    · split at h
      · cases h
      · split at h
        · cases h
        · rename_i h1 h2 h3
          exact ⟨by omega, Decidable.not_not.mp h2, by omega⟩
  · rintro ⟨h1, h2, h3⟩
    rw [if_neg (by omega), if_neg (by simpa using h2), if_neg (by omega)]
/-- What is sealed of a sector. -/
def secD (s : Sec) : Sd := (s.e, s.n, headB s.k s.a.toNat, s.p)
def putB (c : CyS) (s : Sec) : List B8 := (kB s.k :: numB s.e.toNat) ++ numB s.n.toNat ++ cySl c (secD s)
def putL (c : CyS) (s : Sec) : List B8 := if okP s then putB c s else []
def putC (c : CyS) (s : Sec) : CyS := if okP s then cyNx c (secD s) else c
theorem ans_scput {m : Mem} {x : Nat} {W R : List Nat} {c : CyS} {s : Sec} {v : AV} (hC : Cy m x W R c) (hv : RdB m v s.p) (hd : ∀ b ∈ blkOf v, b ∉ W) (hk : cyOk c 1000) (hl : s.p.length ≤ 100000) :
    Ans Tryd.prog 11 [.iface (cyT c) (.ptr x 0), secV s v] m fun r m' => ∃ W' R' w, Kept W m m' ∧ Cy m' x W' R' (putC c s) ∧ (∀ b ∈ R', b ∈ R ∨ m.length ≤ b) ∧ r = .tup [w, .int .i64 (errP s)] ∧ RdB m' w (putL c s) ∧ ∀ b ∈ blkOf w, m.length ≤ b ∧ b ∉ R' := by
  refine ans_ret mixed ok11 ?_
  unfold secV
  have hno : ∀ (m' : Mem) (er : Int), ¬ okP s → errP s = er → Kept [] m m' → ∃ W' R' w, Kept W m m' ∧ Cy m' x W' R' (putC c s) ∧ (∀ b ∈ R', b ∈ R ∨ m.length ≤ b) ∧ AV.tup [.nils, .int .i64 er] = .tup [w, .int .i64 (errP s)] ∧ RdB m' w (putL c s) ∧ ∀ b ∈ blkOf w, m.length ≤ b ∧ b ∉ R'   := fun m' er hn he hk =>
    ⟨W, R, .nils, hk.more (by simp), by rw [putC, if_neg hn]; exact hC.kept0 hk, fun b hb => .inl hb, by rw [he], by rw [putL, if_neg hn]; exact .nils _, by simp [blkOf]⟩
  by_cases h1 : s.k < 1
  · have he : errP s = 5 := by rw [errP, if_pos (.inl h1)]
    have hn : ¬ okP s := fun h => by have := h.1; omega
    simp -implicitDefEqProofs (disch := (first | omega | (simp only [lenB, lowB_len, numB_len, nsumB_len] <;> omega) | fail)) only [admQ, lenB, lowB_len, numB_len, nsumB_len, aFill, AK.cls, implies_true, ↓reduceIte, reduceCtorEq, if_true, if_false, Nat.reduceAdd, Nat.reduceEqDiff, Nat.reduceMod, Nat.reduceLT, Nat.reduceLeDiff, Nat.reduceSub, Nat.reduceMul, Nat.reduceBEq, Int.reduceAdd, Int.reduceSub, Int.reduceMul, Int.reduceNeg, Int.reduceLT, Int.reduceLE, Int.reduceToNat, Int.reduceEq, Int.reduceBEq, c11, r11, dec_t h1, (rd_one hv).1, (rd_one hv).2]
    exact hno _ _ hn he (.app _ _ _)
  by_cases h2 : s.k > 5
  · have he : errP s = 5 := by rw [errP, if_pos (.inr h2)]
    have hn : ¬ okP s := fun h => by have := h.1; omega
    simp -implicitDefEqProofs (disch := (first | omega | (simp only [lenB, lowB_len, numB_len, nsumB_len] <;> omega) | fail)) only [admQ, lenB, lowB_len, numB_len, nsumB_len, aFill, AK.cls, implies_true, ↓reduceIte, reduceCtorEq, if_true, if_false, Nat.reduceAdd, Nat.reduceEqDiff, Nat.reduceMod, Nat.reduceLT, Nat.reduceLeDiff, Nat.reduceSub, Nat.reduceMul, Nat.reduceBEq, Int.reduceAdd, Int.reduceSub, Int.reduceMul, Int.reduceNeg, Int.reduceLT, Int.reduceLE, Int.reduceToNat, Int.reduceEq, Int.reduceBEq, c11, r11, dec_f h1, dec_t h2, (rd_one hv).1, (rd_one hv).2]
    exact hno _ _ hn he (.app _ _ _)
  simp -implicitDefEqProofs (disch := (first | omega | (simp only [lenB, lowB_len, numB_len, nsumB_len] <;> omega) | fail)) only [admQ, lenB, lowB_len, numB_len, nsumB_len, aFill, AK.cls, implies_true, ↓reduceIte, reduceCtorEq, if_true, if_false, Nat.reduceAdd, Nat.reduceEqDiff, Nat.reduceMod, Nat.reduceLT, Nat.reduceLeDiff, Nat.reduceSub, Nat.reduceMul, Nat.reduceBEq, Int.reduceAdd, Int.reduceSub, Int.reduceMul, Int.reduceNeg, Int.reduceLT, Int.reduceLE, Int.reduceToNat, Int.reduceEq, Int.reduceBEq, c11, r11, dec_f h1, dec_f h2, (rd_one hv).1, (rd_one hv).2]
  have k0 := Kept.app [] m [Blk.row [.int .i64 s.k, .int .i64 s.e, .int .i64 s.n, .int .i64 s.a, v] false]
  have o0 : own (m ++ [Blk.row [.int .i64 s.k, .int .i64 s.e, .int .i64 s.n, .int .i64 s.a, v] false]) m.length = some [.int .i64 s.k, .int .i64 s.e, .int .i64 s.n, .int .i64 s.a, v] := by rw [own_app_at0]; rfl
  generalize m ++ [Blk.row [.int .i64 s.k, .int .i64 s.e, .int .i64 s.n, .int .i64 s.a, v] false] = A at k0 o0
  refine (ans_scright s.e s.n s.a A).mono ?_
  rintro _ M ⟨rfl, hM⟩
  subst hM
  by_cases h3 : rightP s.e s.n s.a
  · by_cases h4 : (s.p.length : Int) > 975
    · have he : errP s = 3 := by rw [errP, if_neg (by omega), if_neg (by simpa using h3), if_pos (by omega)]
      have hn : ¬ okP s := fun h => by have := h.2.2; omega
      simp -implicitDefEqProofs (disch := (first | omega | (simp only [lenB, lowB_len, numB_len, nsumB_len] <;> omega) | fail)) only [admQ, lenB, lowB_len, numB_len, nsumB_len, aFill, AK.cls, implies_true, ↓reduceIte, reduceCtorEq, if_true, if_false, Nat.reduceAdd, Nat.reduceEqDiff, Nat.reduceMod, Nat.reduceLT, Nat.reduceLeDiff, Nat.reduceSub, Nat.reduceMul, Nat.reduceBEq, Int.reduceAdd, Int.reduceSub, Int.reduceMul, Int.reduceNeg, Int.reduceLT, Int.reduceLE, Int.reduceToNat, Int.reduceEq, Int.reduceBEq, dec_t h3, Bool.not_true, rowOf_own o0, (hv.kept0 k0).len, dec_t h4]
      exact hno _ _ hn he k0
    · have hok : okP s := ⟨by omega, h3, by omega⟩
      have he := (errP_ok s).mpr hok
      clear hno
      obtain ⟨k, e, n, a, p⟩ := s
      simp only at *
      obtain ⟨⟨r1, r2, r3⟩, ⟨r4, r5⟩, r6⟩ := id h3
      obtain ⟨e, rfl⟩ : ∃ e' : Nat, e = e' := ⟨e.toNat, by omega⟩
      obtain ⟨n, rfl⟩ : ∃ n' : Nat, n = n' := ⟨n.toNat, by omega⟩
      obtain ⟨a, rfl⟩ : ∃ a' : Nat, a = a' := ⟨a.toNat, by omega⟩
      have hw : IntKind.u8.wrap k = ((kB k).toNat : Int) := wr_u8 k
      simp -implicitDefEqProofs (disch := (first | omega | (simp only [lenB, lowB_len, numB_len, nsumB_len] <;> omega) | fail)) only [admQ, lenB, lowB_len, numB_len, nsumB_len, aFill, AK.cls, implies_true, ↓reduceIte, reduceCtorEq, if_true, if_false, Nat.reduceAdd, Nat.reduceEqDiff, Nat.reduceMod, Nat.reduceLT, Nat.reduceLeDiff, Nat.reduceSub, Nat.reduceMul, Nat.reduceBEq, Int.reduceAdd, Int.reduceSub, Int.reduceMul, Int.reduceNeg, Int.reduceLT, Int.reduceLE, Int.reduceToNat, Int.reduceEq, Int.reduceBEq, dec_t h3, Bool.not_true, rowOf_own o0, (hv.kept0 k0).len, dec_f h4, hw]
      have k1 := Kept.app [] M [Blk.row [b8 (kB k)] false]
      have r1 := RdB.row (m := M ++ [Blk.row [b8 (kB k)] false]) (l := [kB k]) 1 0 (rowOf_app_at0 M _) (by simp)
      have e1 : (M ++ [Blk.row [b8 (kB k)] false])[M.length]? = some (.row [b8 (kB k)] false) := by simp
      generalize M ++ [Blk.row [b8 (kB k)] false] = B at *
      have o1 := k1.own o0 (by simp)
      simp -implicitDefEqProofs (disch := (first | omega | (simp only [lenB, lowB_len, numB_len, nsumB_len] <;> omega) | fail)) only [admQ, lenB, lowB_len, numB_len, nsumB_len, aFill, AK.cls, implies_true, ↓reduceIte, reduceCtorEq, if_true, if_false, Nat.reduceAdd, Nat.reduceEqDiff, Nat.reduceMod, Nat.reduceLT, Nat.reduceLeDiff, Nat.reduceSub, Nat.reduceMul, Nat.reduceBEq, Int.reduceAdd, Int.reduceSub, Int.reduceMul, Int.reduceNeg, Int.reduceLT, Int.reduceLE, Int.reduceToNat, Int.reduceEq, Int.reduceBEq, rowOf_own o1]
      refine (ans_pint e (by omega) r1 (by simp)).mono ?_
      rintro y1 m1 ⟨k2, g2⟩
      have o2 := k2.own o1 (by simp)
      have e2 : m1[M.length]? = some (.row [b8 (kB k)] false) := by rw [k2.eq _ (lt_of_get e1) (by simp)]; exact e1
      simp -implicitDefEqProofs (disch := (first | omega | (simp only [lenB, lowB_len, numB_len, nsumB_len] <;> omega) | fail)) only [admQ, lenB, lowB_len, numB_len, nsumB_len, aFill, AK.cls, implies_true, ↓reduceIte, reduceCtorEq, if_true, if_false, Nat.reduceAdd, Nat.reduceEqDiff, Nat.reduceMod, Nat.reduceLT, Nat.reduceLeDiff, Nat.reduceSub, Nat.reduceMul, Nat.reduceBEq, Int.reduceAdd, Int.reduceSub, Int.reduceMul, Int.reduceNeg, Int.reduceLT, Int.reduceLE, Int.reduceToNat, Int.reduceEq, Int.reduceBEq, rowOf_own o2, rowOf_own o1, e2]
      refine (ans_pint n (by omega) g2.rd (by simp [numB_len])).mono ?_
      rintro y2 m2 ⟨k3, g3⟩
      have o3 := k3.own o2 (by simp)
      have e3 : m2[M.length]? = some (.row [b8 (kB k)] false) := by rw [k3.eq _ (lt_of_get e2) (by simp)]; exact e2
      simp -implicitDefEqProofs (disch := (first | omega | (simp only [lenB, lowB_len, numB_len, nsumB_len] <;> omega) | fail)) only [admQ, lenB, lowB_len, numB_len, nsumB_len, aFill, AK.cls, implies_true, ↓reduceIte, reduceCtorEq, if_true, if_false, Nat.reduceAdd, Nat.reduceEqDiff, Nat.reduceMod, Nat.reduceLT, Nat.reduceLeDiff, Nat.reduceSub, Nat.reduceMul, Nat.reduceBEq, Int.reduceAdd, Int.reduceSub, Int.reduceMul, Int.reduceNeg, Int.reduceLT, Int.reduceLE, Int.reduceToNat, Int.reduceEq, Int.reduceBEq, rowOf_own o3, rowOf_own o2, rowOf_own o1, e3]
      refine (ans_schead k a (by omega) m2).mono ?_
      rintro y3 m3 ⟨k4, g4⟩
      have o4 := k4.own o3 (by simp)
      have K4 := ((k0.trans k1).trans k2).trans (k3.trans k4)
      simp -implicitDefEqProofs (disch := (first | omega | (simp only [lenB, lowB_len, numB_len, nsumB_len] <;> omega) | fail)) only [admQ, lenB, lowB_len, numB_len, nsumB_len, aFill, AK.cls, implies_true, ↓reduceIte, reduceCtorEq, if_true, if_false, Nat.reduceAdd, Nat.reduceEqDiff, Nat.reduceMod, Nat.reduceLT, Nat.reduceLeDiff, Nat.reduceSub, Nat.reduceMul, Nat.reduceBEq, Int.reduceAdd, Int.reduceSub, Int.reduceMul, Int.reduceNeg, Int.reduceLT, Int.reduceLE, Int.reduceToNat, Int.reduceEq, Int.reduceBEq, rowOf_own o4, rowOf_own o3, rowOf_own o2, cyn_seal c, opW_invoke _ (cym_seal c), opDW_invoke _ (cym_seal c)]
      refine (ans_cyseal (d := ((e : Int), (n : Int), headB k a, p)) (hC.kept0 K4) g4.rd (hv.kept0 K4) hd hk ⟨by rw [headB_len]; omega, hl⟩).mono ?_
      rintro z m4 ⟨W', R', kS, hC', hR', gz, hz⟩
      have hsd : secD ⟨k, e, n, a, p⟩ = ((e : Int), (n : Int), headB k a, p) := by simp [secD]
      have hRm : ∀ b ∈ R, b < m.length := hC.lt
      have hWR := hC.sub
      have nW : ∀ b, m.length ≤ b → b ∉ W := fun b h1 h2 => by have := hRm b (hWR b h2); omega
      have o5 := kS.own o4 (nW _ (Nat.le_refl _))
      have hm2 := ((k0.trans k1).trans k2).len
      have hm3 := K4.len
      have g3' := (g3.kept0 k4).kept kS fun b hb => nW b (by have := g3.low b hb; omega)
      have hsl := cySl_len c ((e : Int), (n : Int), headB k a, p)
      obtain ⟨w, m5, e5, k5, rw5, bw5, c5⟩ := OwB.app g3' gz.rd (by simp [numB_len]; simp at hsl; omega)
      simp -implicitDefEqProofs (disch := (first | omega | (simp only [lenB, lowB_len, numB_len, nsumB_len] <;> omega) | fail)) only [admQ, lenB, lowB_len, numB_len, nsumB_len, aFill, AK.cls, implies_true, ↓reduceIte, reduceCtorEq, if_true, if_false, Nat.reduceAdd, Nat.reduceEqDiff, Nat.reduceMod, Nat.reduceLT, Nat.reduceLeDiff, Nat.reduceSub, Nat.reduceMul, Nat.reduceBEq, Int.reduceAdd, Int.reduceSub, Int.reduceMul, Int.reduceNeg, Int.reduceLT, Int.reduceLE, Int.reduceToNat, Int.reduceEq, Int.reduceBEq, rowOf_own o5, rowOf_own o4, rowOf_own o3, rowOf_own o2]
      refine someW_eq e5 ?_
      have o6 := k5.own o5 (by simp)
      simp -implicitDefEqProofs (disch := (first | omega | (simp only [lenB, lowB_len, numB_len, nsumB_len] <;> omega) | fail)) only [admQ, lenB, lowB_len, numB_len, nsumB_len, aFill, AK.cls, implies_true, ↓reduceIte, reduceCtorEq, if_true, if_false, Nat.reduceAdd, Nat.reduceEqDiff, Nat.reduceMod, Nat.reduceLT, Nat.reduceLeDiff, Nat.reduceSub, Nat.reduceMul, Nat.reduceBEq, Int.reduceAdd, Int.reduceSub, Int.reduceMul, Int.reduceNeg, Int.reduceLT, Int.reduceLE, Int.reduceToNat, Int.reduceEq, Int.reduceBEq, rowOf_own o6, rowOf_own o5, rowOf_own o4, rowOf_own o3, rowOf_own o2]
      have hm1 := (k0.trans k1).len
      have hk2 := k2.len
      have hk3 := k3.len
      have hk4 := k4.len
      have hkS := kS.len
      have hY := g3.low
      have hRlt := hC'.lt
      have g3lt := g3.rd.blk_lt
      refine ⟨W', R', w, (K4.more (by simp)).trans (kS.trans (k5.more (by simp))), ?_, fun b hb => (hR' b hb).imp id fun h => by omega, ?_, ?_, fun b hb => ?_⟩
      · rw [putC, if_pos hok, hsd]; exact hC'.kept0 k5
      · rw [he]
      · rw [putL, if_pos hok, putB, hsd]
        simpa using rw5
      · rcases bw5 b hb with h | h
        · have h1 := hY b h
          have h2 := g3lt b h
          refine ⟨by omega, fun h3 => ?_⟩
          rcases hR' b h3 with h4 | h4
          · have := hRm b h4; omega
          · omega
        · refine ⟨by omega, fun h3 => ?_⟩
          have := hRlt b h3; omega
  · have he : errP s = 7 := by rw [errP, if_neg (by omega), if_pos h3]
    have hn : ¬ okP s := fun h => h3 h.2.1
    simp -implicitDefEqProofs (disch := (first | omega | (simp only [lenB, lowB_len, numB_len, nsumB_len] <;> omega) | fail)) only [admQ, lenB, lowB_len, numB_len, nsumB_len, aFill, AK.cls, implies_true, ↓reduceIte, reduceCtorEq, if_true, if_false, Nat.reduceAdd, Nat.reduceEqDiff, Nat.reduceMod, Nat.reduceLT, Nat.reduceLeDiff, Nat.reduceSub, Nat.reduceMul, Nat.reduceBEq, Int.reduceAdd, Int.reduceSub, Int.reduceMul, Int.reduceNeg, Int.reduceLT, Int.reduceLE, Int.reduceToNat, Int.reduceEq, Int.reduceBEq, dec_f h3, Bool.not_false]
    exact hno _ _ hn he k0
end Go.Proofs.YtmnlmjlmbceimaaDoor
end
section
/- Sectors: got. -/
namespace Go.Proofs.YtmnlmjlmbceimaaDoor
open Go Go.Adm
set_option linter.unusedSimpArgs false
set_option linter.unusedVariables false
set_option maxRecDepth 100000
theorem rdb_ap {X : List Nat} {m m' : Mem} {x : AV} {l : List B8} (h : RdB m x l) (hk : Kept X m m') (ha : ∀ b ∈ blkOf x, b ∉ X) : RdB m' x l :=
  h.kept hk fun b o n cap s e => ha b (by rw [e]; simp [blkOf])
def nE (b : List B8) : Int := intB ((b.drop 1).take 8)
def nN (b : List B8) : Int := intB ((b.drop 9).take 8)
open Classical in
noncomputable def getE (c : CyS) (k a : Int) (b : List B8) : Int :=
  if b.length < 17 then 2 else if b.length > 1024 then 3 else if k = 0 ∨ kindB b ≠ k then 5 else if ¬ rightP (nE b) (nN b) a then 7 else
  match cyOp c (nE b) (nN b) (headB k a.toNat) (b.drop 17) with
  | none => 19
  | some _ => 0
def sec0 : Sec := ⟨0, 0, 0, 0, []⟩
open Classical in
noncomputable def getS (c : CyS) (k a : Int) (b : List B8) : Sec :=
  if getE c k a b = 0 then ⟨k, nE b, nN b, a, (cyOp c (nE b) (nN b) (headB k a.toNat) (b.drop 17)).getD []⟩ else sec0
theorem ans_scget {m : Mem} {x : Nat} {W R : List Nat} {c : CyS} {k a : Int} {y : AV} {b : List B8} (hC : Cy m x W R c) (hy : RdB m y b) (hk : cyOk c 1000) (hl : b.length ≤ 100000) :
    Ans Tryd.prog 13 [.iface (cyT c) (.ptr x 0), .int .i64 k, .int .i64 a, y] m fun r m' => Kept [] m m' ∧ ∃ w, r = .tup [secV (getS c k a b) w, .int .i64 (getE c k a b)] ∧ RdB m' w (getS c k a b).p ∧ ∀ q ∈ blkOf w, m.length ≤ q := by
  refine ans_ret mixed ok13 ?_
  have hno : ∀ (m' : Mem) (er : Int), er ≠ 0 → getE c k a b = er → Kept [] m m' → Kept [] m m' ∧ ∃ w, AV.tup [.agg [.int .i64 0, .int .i64 0, .int .i64 0, .int .i64 0, .nils], .int .i64 er] = .tup [secV (getS c k a b) w, .int .i64 (getE c k a b)] ∧ RdB m' w (getS c k a b).p ∧ ∀ q ∈ blkOf w, m.length ≤ q := fun m' er h0 he hk => by
    rw [he]
    have hs : getS c k a b = sec0 := by rw [getS, he, if_neg h0]
    rw [hs]
    exact ⟨hk, .nils, rfl, .nils _, by simp [blkOf]⟩
  by_cases h1 : b.length < 17
  · have he : getE c k a b = 2 := by rw [getE, if_pos h1]
    simp -implicitDefEqProofs (disch := (first | omega | (simp only [lenB, lowB_len, numB_len, nsumB_len] <;> omega) | fail)) only [admQ, lenB, lowB_len, numB_len, nsumB_len, aFill, AK.cls, implies_true, ↓reduceIte, reduceCtorEq, if_true, if_false, Nat.reduceAdd, Nat.reduceEqDiff, Nat.reduceMod, Nat.reduceLT, Nat.reduceLeDiff, Nat.reduceSub, Nat.reduceMul, Nat.reduceBEq, Int.reduceAdd, Int.reduceSub, Int.reduceMul, Int.reduceNeg, Int.reduceLT, Int.reduceLE, Int.reduceToNat, Int.reduceEq, Int.reduceBEq, c13, r13, hy.len, dec_t (show (b.length : Int) < 17 by omega)]
    exact hno _ _ (by omega) he (.app _ _ _)
  by_cases h2 : b.length > 1024
  · have he : getE c k a b = 3 := by rw [getE, if_neg h1, if_pos h2]
    simp -implicitDefEqProofs (disch := (first | omega | (simp only [lenB, lowB_len, numB_len, nsumB_len] <;> omega) | fail)) only [admQ, lenB, lowB_len, numB_len, nsumB_len, aFill, AK.cls, implies_true, ↓reduceIte, reduceCtorEq, if_true, if_false, Nat.reduceAdd, Nat.reduceEqDiff, Nat.reduceMod, Nat.reduceLT, Nat.reduceLeDiff, Nat.reduceSub, Nat.reduceMul, Nat.reduceBEq, Int.reduceAdd, Int.reduceSub, Int.reduceMul, Int.reduceNeg, Int.reduceLT, Int.reduceLE, Int.reduceToNat, Int.reduceEq, Int.reduceBEq, c13, r13, hy.len, dec_f (show ¬ (b.length : Int) < 17 by omega), dec_t (show (b.length : Int) > 1024 by omega)]
    exact hno _ _ (by omega) he (.app _ _ _)
  by_cases h3 : k = 0
  · have he : getE c k a b = 5 := by rw [getE, if_neg h1, if_neg h2, if_pos (.inl h3)]
    simp -implicitDefEqProofs (disch := (first | omega | (simp only [lenB, lowB_len, numB_len, nsumB_len] <;> omega) | fail)) only [admQ, lenB, lowB_len, numB_len, nsumB_len, aFill, AK.cls, implies_true, ↓reduceIte, reduceCtorEq, if_true, if_false, Nat.reduceAdd, Nat.reduceEqDiff, Nat.reduceMod, Nat.reduceLT, Nat.reduceLeDiff, Nat.reduceSub, Nat.reduceMul, Nat.reduceBEq, Int.reduceAdd, Int.reduceSub, Int.reduceMul, Int.reduceNeg, Int.reduceLT, Int.reduceLE, Int.reduceToNat, Int.reduceEq, Int.reduceBEq, c13, r13, hy.len, dec_f (show ¬ (b.length : Int) < 17 by omega), dec_f (show ¬ (b.length : Int) > 1024 by omega), beq_iff_eq.mpr h3]
    exact hno _ _ (by omega) he (.app _ _ _)
  simp -implicitDefEqProofs (disch := (first | omega | (simp only [lenB, lowB_len, numB_len, nsumB_len] <;> omega) | fail)) only [admQ, lenB, lowB_len, numB_len, nsumB_len, aFill, AK.cls, implies_true, ↓reduceIte, reduceCtorEq, if_true, if_false, Nat.reduceAdd, Nat.reduceEqDiff, Nat.reduceMod, Nat.reduceLT, Nat.reduceLeDiff, Nat.reduceSub, Nat.reduceMul, Nat.reduceBEq, Int.reduceAdd, Int.reduceSub, Int.reduceMul, Int.reduceNeg, Int.reduceLT, Int.reduceLE, Int.reduceToNat, Int.reduceEq, Int.reduceBEq, c13, r13, hy.len, dec_f (show ¬ (b.length : Int) < 17 by omega), dec_f (show ¬ (b.length : Int) > 1024 by omega), beq_eq_false_iff_ne.mpr h3]
  have k0 := Kept.app [] m [Blk.row [.int .i64 0, .int .i64 0, .int .i64 0, .int .i64 0, .nils] false]
  have o0 : own (m ++ [Blk.row [.int .i64 0, .int .i64 0, .int .i64 0, .int .i64 0, .nils] false]) m.length = some [.int .i64 0, .int .i64 0, .int .i64 0, .int .i64 0, .nils] := by rw [own_app_at0]; rfl
  generalize m ++ [Blk.row [.int .i64 0, .int .i64 0, .int .i64 0, .int .i64 0, .nils] false] = A at k0 o0
  have hyA := hy.kept0 k0
  refine (ans_sckind hyA).mono ?_
  rintro _ M ⟨rfl, hM⟩
  subst hM
  by_cases h4 : kindB b = k
  · obtain ⟨q, o, cap, sl, cc, rfl, hrow, hat, hlen, hcap, hsl, htk⟩ := hyA.cons (i := 0) (by omega)
    have hsub : RdB M (.sl q (o + 1) 16 (cap - 1) sl) ((b.drop 1).take 16) := by
      have hd := hyA.drop (k := 1) (by omega)
      have h := hd.take (k := 16) (by omega)
      exact h
    simp -implicitDefEqProofs (disch := (first | omega | (simp only [lenB, lowB_len, numB_len, nsumB_len] <;> omega) | fail)) only [admQ, lenB, lowB_len, numB_len, nsumB_len, aFill, AK.cls, implies_true, ↓reduceIte, reduceCtorEq, if_true, if_false, Nat.reduceAdd, Nat.reduceEqDiff, Nat.reduceMod, Nat.reduceLT, Nat.reduceLeDiff, Nat.reduceSub, Nat.reduceMul, Nat.reduceBEq, Int.reduceAdd, Int.reduceSub, Int.reduceMul, Int.reduceNeg, Int.reduceLT, Int.reduceLE, Int.reduceToNat, Int.reduceEq, Int.reduceBEq, beq_eq_false_iff_ne.mpr h3, beq_iff_eq.mpr h4, Bool.not_true]
    have hl16 : ((b.drop 1).take 16).length = 16 := by rw [List.length_take, List.length_drop]; omega
    refine (ans_pread hsub (by omega)).mono ?_
    rintro _ m1 ⟨k1, p, rfl, hp, hR1⟩
    simp -implicitDefEqProofs (disch := (first | omega | (simp only [lenB, lowB_len, numB_len, nsumB_len] <;> omega) | fail)) only [admQ, lenB, lowB_len, numB_len, nsumB_len, aFill, AK.cls, implies_true, ↓reduceIte, reduceCtorEq, if_true, if_false, Nat.reduceAdd, Nat.reduceEqDiff, Nat.reduceMod, Nat.reduceLT, Nat.reduceLeDiff, Nat.reduceSub, Nat.reduceMul, Nat.reduceBEq, Int.reduceAdd, Int.reduceSub, Int.reduceMul, Int.reduceNeg, Int.reduceLT, Int.reduceLE, Int.reduceToNat, Int.reduceEq, Int.reduceBEq]
    refine (ans_print hR1 (by omega)).mono ?_
    rintro _ m2 ⟨rfl, k2, hR2⟩
    simp -implicitDefEqProofs (disch := (first | omega | (simp only [lenB, lowB_len, numB_len, nsumB_len] <;> omega) | fail)) only [admQ, lenB, lowB_len, numB_len, nsumB_len, aFill, AK.cls, implies_true, ↓reduceIte, reduceCtorEq, if_true, if_false, Nat.reduceAdd, Nat.reduceEqDiff, Nat.reduceMod, Nat.reduceLT, Nat.reduceLeDiff, Nat.reduceSub, Nat.reduceMul, Nat.reduceBEq, Int.reduceAdd, Int.reduceSub, Int.reduceMul, Int.reduceNeg, Int.reduceLT, Int.reduceLE, Int.reduceToNat, Int.reduceEq, Int.reduceBEq]
    refine (ans_print hR2 (by rw [List.length_drop]; omega)).mono ?_
    rintro _ m3 ⟨rfl, k3, -⟩
    have e1 : ((b.drop 1).take 16).take 8 = (b.drop 1).take 8 := by rw [List.take_take]; rfl
    have e2 : (((b.drop 1).take 16).drop 8).take 8 = (b.drop 9).take 8 := by rw [List.drop_take, List.take_take, List.drop_drop]; rfl
    have hE : intB (((b.drop 1).take 16).take 8) = nE b := by rw [e1]; rfl
    have hNn : intB ((((b.drop 1).take 16).drop 8).take 8) = nN b := by rw [e2]; rfl
    have K3 : Kept [] M m3 := (k1.upon k2 (by simpa using hp)).upon k3 (by simpa using hp)
    have o3 := K3.own o0 (by simp)
    rw [hE, hNn]
    simp -implicitDefEqProofs (disch := (first | omega | (simp only [lenB, lowB_len, numB_len, nsumB_len] <;> omega) | fail)) only [admQ, lenB, lowB_len, numB_len, nsumB_len, aFill, AK.cls, implies_true, ↓reduceIte, reduceCtorEq, if_true, if_false, Nat.reduceAdd, Nat.reduceEqDiff, Nat.reduceMod, Nat.reduceLT, Nat.reduceLeDiff, Nat.reduceSub, Nat.reduceMul, Nat.reduceBEq, Int.reduceAdd, Int.reduceSub, Int.reduceMul, Int.reduceNeg, Int.reduceLT, Int.reduceLE, Int.reduceToNat, Int.reduceEq, Int.reduceBEq]
    have k4 := Kept.app [] m3 [Blk.row [.int .i64 k, .int .i64 (nE b), .int .i64 (nN b), .int .i64 a, .nils] false]
    have b4 : own (m3 ++ [Blk.row [.int .i64 k, .int .i64 (nE b), .int .i64 (nN b), .int .i64 a, .nils] false]) m3.length = some [.int .i64 k, .int .i64 (nE b), .int .i64 (nN b), .int .i64 a, .nils] := by rw [own_app_at0]; rfl
    generalize m3 ++ [Blk.row [.int .i64 k, .int .i64 (nE b), .int .i64 (nN b), .int .i64 a, .nils] false] = B at k4 b4
    have o4 := k4.own o3 (by simp)
    have KB := (k0.trans K3).trans k4
    have hMl := own_lt o0
    have hK3l := K3.len
    refine (ans_scright (nE b) (nN b) a B).mono ?_
    rintro _ M2 ⟨rfl, hM⟩
    subst hM
    by_cases h5 : rightP (nE b) (nN b) a
    · simp -implicitDefEqProofs (disch := (first | omega | (simp only [lenB, lowB_len, numB_len, nsumB_len] <;> omega) | fail)) only [admQ, lenB, lowB_len, numB_len, nsumB_len, aFill, AK.cls, implies_true, ↓reduceIte, reduceCtorEq, if_true, if_false, Nat.reduceAdd, Nat.reduceEqDiff, Nat.reduceMod, Nat.reduceLT, Nat.reduceLeDiff, Nat.reduceSub, Nat.reduceMul, Nat.reduceBEq, Int.reduceAdd, Int.reduceSub, Int.reduceMul, Int.reduceNeg, Int.reduceLT, Int.reduceLE, Int.reduceToNat, Int.reduceEq, Int.reduceBEq, dec_t h5, Bool.not_true, rowOf_own b4]
      obtain ⟨a, rfl⟩ : ∃ a' : Nat, a = a' := ⟨a.toNat, by have := h5.1; omega⟩
      have ha := h5.2.2
      refine (ans_schead k a (by omega) M2).mono ?_
      rintro y1 m5 ⟨k5, g5⟩
      have b5 := k5.own b4 (by simp)
      have K5 := KB.trans k5
      have hy5 := hy.kept0 K5
      have hdr := hy5.drop (k := 17) (by omega)
      simp -implicitDefEqProofs (disch := (first | omega | (simp only [lenB, lowB_len, numB_len, nsumB_len] <;> omega) | fail)) only [admQ, lenB, lowB_len, numB_len, nsumB_len, aFill, AK.cls, implies_true, ↓reduceIte, reduceCtorEq, if_true, if_false, Nat.reduceAdd, Nat.reduceEqDiff, Nat.reduceMod, Nat.reduceLT, Nat.reduceLeDiff, Nat.reduceSub, Nat.reduceMul, Nat.reduceBEq, Int.reduceAdd, Int.reduceSub, Int.reduceMul, Int.reduceNeg, Int.reduceLT, Int.reduceLE, Int.reduceToNat, Int.reduceEq, Int.reduceBEq, rowOf_own b5, rowOf_own b4, cyn_open c, opW_invoke _ (cym_open c), opDW_invoke _ (cym_open c)]
      refine (ans_cyopen (e := nE b) (n := nN b) (hC.kept0 K5) g5.rd hdr hk ⟨by rw [headB_len]; omega, by rw [List.length_drop]; omega⟩).mono ?_
      rintro _ m6 ⟨k6, w, rfl, rw6, lw6⟩
      have b6 := k6.own b5 (by simp)
      have K6 := K5.trans k6
      have o6 := (k5.trans k6).own o4 (by simp)
      have h8 := K6.len
      have hne : m3.length ≠ m.length := by omega
      cases hop : cyOp c (nE b) (nN b) (headB k a) (b.drop 17) with
      | none =>
        have he : getE c k a b = 19 := by rw [getE, if_neg h1, if_neg h2, if_neg (by rintro (h | h); exact h3 h; exact h h4), if_neg (by simpa using h5), Int.toNat_natCast, hop]
        simp -implicitDefEqProofs (disch := (first | omega | (simp only [lenB, lowB_len, numB_len, nsumB_len] <;> omega) | fail)) only [admQ, lenB, lowB_len, numB_len, nsumB_len, aFill, AK.cls, implies_true, ↓reduceIte, reduceCtorEq, if_true, if_false, Nat.reduceAdd, Nat.reduceEqDiff, Nat.reduceMod, Nat.reduceLT, Nat.reduceLeDiff, Nat.reduceSub, Nat.reduceMul, Nat.reduceBEq, Int.reduceAdd, Int.reduceSub, Int.reduceMul, Int.reduceNeg, Int.reduceLT, Int.reduceLE, Int.reduceToNat, Int.reduceEq, Int.reduceBEq, rowOf_own b6, rowOf_own b5, rowOf_own b4, Option.isSome_none, Bool.not_false, o6, own_set (own_lt o6), rowOf_own (own_set (own_lt o6) _)]
        exact hno _ _ (by omega) he (K6.write (.inr (Nat.le_refl _)) _)
      | some pl =>
        have he : getE c k a b = 0 := by rw [getE, if_neg h1, if_neg h2, if_neg (by rintro (h | h); exact h3 h; exact h h4), if_neg (by simpa using h5), Int.toNat_natCast, hop]
        have hs : getS c k a b = ⟨k, nE b, nN b, a, pl⟩ := by rw [getS, if_pos he, Int.toNat_natCast, hop]; rfl
        have w1 := own_set (own_lt b6) [AV.int .i64 k, .int .i64 (nE b), .int .i64 (nN b), .int .i64 a, w]
        have o7 := own_set_ne' o6 hne (.row [AV.int .i64 k, .int .i64 (nE b), .int .i64 (nN b), .int .i64 a, w] false)
        rw [hop] at rw6
        simp -implicitDefEqProofs (disch := (first | omega | (simp only [lenB, lowB_len, numB_len, nsumB_len] <;> omega) | fail)) only [admQ, lenB, lowB_len, numB_len, nsumB_len, aFill, AK.cls, implies_true, ↓reduceIte, reduceCtorEq, if_true, if_false, Nat.reduceAdd, Nat.reduceEqDiff, Nat.reduceMod, Nat.reduceLT, Nat.reduceLeDiff, Nat.reduceSub, Nat.reduceMul, Nat.reduceBEq, Int.reduceAdd, Int.reduceSub, Int.reduceMul, Int.reduceNeg, Int.reduceLT, Int.reduceLE, Int.reduceToNat, Int.reduceEq, Int.reduceBEq, rowOf_own b6, rowOf_own b5, rowOf_own b4, Option.isSome_some, Bool.not_true, b6, (rd_one rw6).1, (rd_one rw6).2, rowOf_own w1, w1, o7, own_set (own_lt o7), rowOf_own (own_set (own_lt o7) _)]
        have KX := (Kept.set (X := [m.length, m3.length]) m6 m3.length (.row [AV.int .i64 k, .int .i64 (nE b), .int .i64 (nN b), .int .i64 a, w] false) (by simp)).trans (.set _ m.length (.row [AV.int .i64 k, .int .i64 (nE b), .int .i64 (nN b), .int .i64 a, w] false) (by simp))
        refine ⟨(K6.write (.inr (by omega)) _).write (.inr (Nat.le_refl _)) _, w, by rw [hs, he]; rfl, ?_, fun q hq => Nat.le_trans K5.len (lw6 q hq)⟩
        rw [hs]
        refine rdb_ap rw6 KX fun q hq hX => ?_
        have h9 := lw6 q hq
        have h10 := K5.len
        have h11 := own_lt b5
        have h12 := own_lt (k5.own o4 (by simp))
        simp only [List.mem_cons, List.not_mem_nil, or_false] at hX
        omega
    · have he : getE c k a b = 7 := by rw [getE, if_neg h1, if_neg h2, if_neg (by rintro (h | h); exact h3 h; exact h h4), if_pos h5]
      simp -implicitDefEqProofs (disch := (first | omega | (simp only [lenB, lowB_len, numB_len, nsumB_len] <;> omega) | fail)) only [admQ, lenB, lowB_len, numB_len, nsumB_len, aFill, AK.cls, implies_true, ↓reduceIte, reduceCtorEq, if_true, if_false, Nat.reduceAdd, Nat.reduceEqDiff, Nat.reduceMod, Nat.reduceLT, Nat.reduceLeDiff, Nat.reduceSub, Nat.reduceMul, Nat.reduceBEq, Int.reduceAdd, Int.reduceSub, Int.reduceMul, Int.reduceNeg, Int.reduceLT, Int.reduceLE, Int.reduceToNat, Int.reduceEq, Int.reduceBEq, dec_f h5, Bool.not_false, o4, own_set (own_lt o4), rowOf_own (own_set (own_lt o4) _)]
      exact hno _ _ (by omega) he (KB.write (.inr (Nat.le_refl _)) _)
  · have he : getE c k a b = 5 := by rw [getE, if_neg h1, if_neg h2, if_pos (.inr h4)]
    simp -implicitDefEqProofs (disch := (first | omega | (simp only [lenB, lowB_len, numB_len, nsumB_len] <;> omega) | fail)) only [admQ, lenB, lowB_len, numB_len, nsumB_len, aFill, AK.cls, implies_true, ↓reduceIte, reduceCtorEq, if_true, if_false, Nat.reduceAdd, Nat.reduceEqDiff, Nat.reduceMod, Nat.reduceLT, Nat.reduceLeDiff, Nat.reduceSub, Nat.reduceMul, Nat.reduceBEq, Int.reduceAdd, Int.reduceSub, Int.reduceMul, Int.reduceNeg, Int.reduceLT, Int.reduceLE, Int.reduceToNat, Int.reduceEq, Int.reduceBEq, beq_eq_false_iff_ne.mpr h4, Bool.not_false, o0, own_set (own_lt o0), rowOf_own (own_set (own_lt o0) _)]
    exact hno _ _ (by omega) he (k0.write (.inr (Nat.le_refl _)) _)
end Go.Proofs.YtmnlmjlmbceimaaDoor
end
section
/- Sectors: what was put is got, and what is got was put; purely. -/
namespace Go.Proofs.YtmnlmjlmbceimaaDoor
open Go Go.Adm
set_option linter.unusedSimpArgs false
set_option linter.unusedVariables false
set_option maxRecDepth 100000
theorem intB_nn {l : List B8} (hl : l.length = 8) (h : 0 ≤ intB l) : numB (intB l).toNat = l := by
  have h1 := beN_lt 8 l hl
  have e0 : (256 : Nat) ^ 8 = 18446744073709551616 := by decide
  have e1 : (2 : Int) ^ IntKind.i64.bits = 18446744073709551616 := by decide
  have e2 : (2 : Int) ^ (IntKind.i64.bits - 1) = 9223372036854775808 := by decide
  rw [e0] at h1
  have h2 : intB l = beN l := by
    unfold intB IntKind.wrap at h ⊢
    simp only [e1, e2, IntKind.signed, Bool.true_and, decide_eq_true_eq, ge_iff_le] at h ⊢
    split at h
    · split <;> omega
    · split <;> omega
  rw [h2, Int.toNat_natCast, numB_beN hl]
theorem intB_num {v : Nat} (h : v < 9223372036854775808) : intB (numB v) = v := by
  rw [intB, beN_numB (by omega), wrap_i64 (by omega) (by omega)]
theorem kB_nat {k : Int} (h : 1 ≤ k ∧ k ≤ 5) : ((kB k).toNat : Int) = k := by
  have : k = 1 ∨ k = 2 ∨ k = 3 ∨ k = 4 ∨ k = 5 := by omega
  rcases this with rfl | rfl | rfl | rfl | rfl <;> decide
theorem okP_may {s : Sec} (h : okP s) : mayP (secD s) := ⟨⟨h.2.1.1.1, h.2.1.2.1.1⟩, h.2.1.1.2.1, h.2.1.2.1.2⟩
theorem secD_inj {s t : Sec} (hs : okP s) (ht : okP t) (h : secD s = secD t) : s = t := by
  obtain ⟨k, e, n, a, p⟩ := s
  obtain ⟨k', e', n', a', p'⟩ := t
  simp only [secD, headB, Prod.mk.injEq, List.cons.injEq] at h
  obtain ⟨h1, h2, ⟨h3, h4⟩, h5⟩ := h
  have k1 := kB_nat hs.1
  have k2 := kB_nat ht.1
  simp only at k1 k2
  have hk : k = k' := by rw [← k1, ← k2, h3]
  have a1 := hs.2.1
  have a2 := ht.2.1
  simp only [rightP] at a1 a2
  have b1 := beN_numB (v := a.toNat) (by omega)
  have b2 := beN_numB (v := a'.toNat) (by omega)
  rw [h4] at b1
  have ha : a.toNat = a'.toNat := b1.symm.trans b2
  subst h1; subst h2; subst hk; subst h5
  have : a = a' := by omega
  rw [this]
/-- What was sealed by c as d is still known to c2. -/
def cyHas : CyS → CyS → Sd → Prop
  | .box k, .box k2, _ => k2 = k
  | .nm S _, .nm S2 _, d => fidx d S2 = some (posN d S - 1)
  | _, _, _ => False
theorem cyHas_nx (c : CyS) {d : Sd} (hd : mayP d) : cyHas c (cyNx c d) d := by
  cases c with
  | box k => rfl
  | nm S T => simp only [cyNx, cyHas, sealS2, if_pos hd]; exact fidx_addself d S
theorem cyHas_more {c c2 : CyS} {d : Sd} (h : cyHas c c2 d) (d2 : Sd) : cyHas c (cyNx c2 d2) d := by
  cases c with
  | box k => cases c2 with
    | box k2 => exact h
    | nm S2 T2 => exact h
  | nm S T => cases c2 with
    | box k2 => exact h
    | nm S2 T2 => simp only [cyNx, cyHas] at h ⊢; exact fidx_seal h
theorem cySl_has {c : CyS} {d : Sd} (hd : mayP d) : (cySl c d).length = d.2.2.2.length + 32 := by
  cases c with
  | box key => simp only [cySl, if_pos hd, sealB_len]
  | nm S T => simp only [cySl, sealR, if_pos hd, nsealB_len]
theorem cyOp_seal {c c2 : CyS} {d : Sd} (hd : mayP d) (h : cyHas c c2 d) : cyOp c2 d.1 d.2.1 d.2.2.1 (cySl c d) = some d.2.2.2 := by
  cases c with
  | box k => cases c2 with
    | box k2 =>
      simp only [cyHas] at h
      subst h
      have hs : cySl (.box k2) d = sealB k2 d.2.2.1 d.1 d.2.1 d.2.2.2 := by simp only [cySl, if_pos hd]
      rw [hs, cyOp, if_pos (openP_seal _ hd), sealB_take, turnB_back]
    | nm S2 T2 => exact h.elim
  | nm S T => cases c2 with
    | box k2 => exact h.elim
    | nm S2 T2 =>
      obtain ⟨e, n, hd', pl⟩ := d
      simp only [cyHas] at h
      obtain ⟨h1, h2⟩ := nopenP_seal S2 h
      have hs : cySl (.nm S T) (e, n, hd', pl) = nsealB S (e, n, hd', pl) := by simp only [cySl, sealR, if_pos hd]
      rw [hs, cyOp, if_pos h1, h2]
theorem putL_len {c : CyS} {s : Sec} (h : okP s) : (putL c s).length = 49 + s.p.length := by
  rw [putL, if_pos h, putB]
  simp only [List.length_append, List.length_cons, numB_len, cySl_has (okP_may h)]
  simp only [secD]; omega
theorem putL_parts {c : CyS} {s : Sec} (h : okP s) : kindB (putL c s) = s.k ∧ nE (putL c s) = s.e ∧ nN (putL c s) = s.n ∧ (putL c s).drop 17 = cySl c (secD s) := by
  have hl := putL_len (c := c) h
  rw [putL, if_pos h, putB] at hl ⊢
  have hr := h.2.1
  simp only [rightP] at hr
  have hk := kB_nat h.1
  have l1 : (kB s.k :: numB s.e.toNat).length = 9 := by simp [numB_len]
  have l2 : (kB s.k :: numB s.e.toNat ++ numB s.n.toNat).length = 17 := by simp [numB_len]
  refine ⟨?_, ?_, ?_, List.drop_left' l2⟩
  · unfold kindB
    have e0 : gb (kB s.k :: numB s.e.toNat ++ numB s.n.toNat ++ cySl c (secD s)) 0 = kB s.k := rfl
    rw [e0, if_neg (by have := h.1; omega), hk]
  · unfold nE
    rw [List.append_assoc, List.cons_append, List.drop_succ_cons, List.drop_zero, List.take_left' (numB_len _), intB_num (by omega)]
    omega
  · unfold nN
    rw [List.append_assoc, List.drop_left' l1, List.take_left' (numB_len _), intB_num (by omega)]
    omega
/-- What was put is got. -/
theorem get_put {c c2 : CyS} {s : Sec} (h : okP s) (hc : cyHas c c2 (secD s)) : getE c2 s.k s.a (putL c s) = 0 ∧ getS c2 s.k s.a (putL c s) = s := by
  obtain ⟨h1, h2, h3, h4⟩ := putL_parts (c := c) h
  have hl := putL_len (c := c) h
  have ho : cyOp c2 s.e s.n (headB s.k s.a.toNat) (cySl c (secD s)) = some s.p := cyOp_seal (okP_may h) hc
  have he : getE c2 s.k s.a (putL c s) = 0 := by
    have := h.1
    have := h.2.2
    rw [getE, if_neg (by omega), if_neg (by omega), if_neg (by rw [h1]; omega), h2, h3, h4, ho, if_neg (by simpa using h.2.1)]
  refine ⟨he, ?_⟩
  rw [getS, if_pos he, h2, h3, h4, ho]
  rfl
theorem seal_open {key head : List B8} {e n : Int} {s : List B8} (h : openP key head e n s) : sealB key head e n (turnB key e n (s.take (s.length - 32))) = s := by
  rw [sealB, turnB_back, h.2.2, List.take_append_drop]
/-- What is opened was sealed. -/
theorem cyOp_back {c : CyS} {d : Sd} {b : List B8} (hd : mayP d) (h : cyOp c d.1 d.2.1 d.2.2.1 b = some d.2.2.2) : cySl c d = b ∧ cyHas c c d := by
  obtain ⟨e, n, hd', pl⟩ := d
  simp only at h
  cases c with
  | box key =>
    simp only [cyOp] at h
    split at h
    · rename_i ho
      simp only [Option.some.injEq] at h
      refine ⟨?_, rfl⟩
      simp only [cySl, if_pos hd]
      rw [← h, seal_open ho]
    · cases h
  | nm S T =>
    simp only [cyOp] at h
    split at h
    · rename_i ho
      simp only [Option.some.injEq] at h
      obtain ⟨hl, i, hi, hz⟩ := ho
      rw [h] at hi
      obtain ⟨-, hp⟩ := addN_in hi
      refine ⟨?_, ?_⟩
      · simp only [cySl, sealR, if_pos hd, nsealB]
        rw [hp, List.append_assoc, ← hz, ← h, List.take_append_drop]
      · simp only [cyHas]; rw [hp, hi]; rfl
    · cases h
/-- What is got was put: by the same crypt it is put as just these bytes. -/
theorem put_get {c : CyS} {k a : Int} {b : List B8} (h : getE c k a b = 0) :
    okP (getS c k a b) ∧ (getS c k a b).k = k ∧ (getS c k a b).a = a ∧ putL c (getS c k a b) = b ∧ cyHas c c (secD (getS c k a b)) := by
  have hh := h
  rw [getE] at hh
  split at hh
  · cases hh
  split at hh
  · cases hh
  split at hh
  · cases hh
  split at hh
  · cases hh
  rename_i h1 h2 h3 h4
  have h3a : k ≠ 0 := fun h => h3 (.inl h)
  have h3b : kindB b = k := Decidable.not_not.mp fun h => h3 (.inr h)
  have h4 := Decidable.not_not.mp h4
  cases ho : cyOp c (nE b) (nN b) (headB k a.toNat) (b.drop 17) with
  | none => rw [ho] at hh; cases hh
  | some pl =>
    have hs : getS c k a b = ⟨k, nE b, nN b, a, pl⟩ := by rw [getS, if_pos h, ho]; rfl
    rw [hs]
    have hm : mayP (nE b, nN b, headB k a.toNat, pl) := ⟨⟨h4.1.1, h4.2.1.1⟩, h4.1.2.1, h4.2.1.2⟩
    obtain ⟨q1, q2⟩ := cyOp_back (d := (nE b, nN b, headB k a.toNat, pl)) hm ho
    have hpl : pl.length + 32 = b.length - 17 := by
      have := cySl_has (c := c) hm
      rw [q1, List.length_drop] at this
      exact this.symm
    have hk5 : 1 ≤ k ∧ k ≤ 5 ∧ ((gb b 0).toNat : Int) = k := by
      unfold kindB at h3b
      split at h3b
      · exact absurd h3b.symm h3a
      · omega
    have hok : okP ⟨k, nE b, nN b, a, pl⟩ := ⟨⟨hk5.1, hk5.2.1⟩, h4, by simp only; omega⟩
    refine ⟨hok, rfl, rfl, ?_, q2⟩
    rw [putL, if_pos hok, putB]
    have e1 : numB (nE b).toNat = (b.drop 1).take 8 := intB_nn (by rw [List.length_take, List.length_drop]; omega) h4.1.1
    have e2 : numB (nN b).toNat = (b.drop 9).take 8 := intB_nn (by rw [List.length_take, List.length_drop]; omega) h4.1.2.1
    simp only [secD]
    rw [e1, e2, q1]
    have e3 : kB k = gb b 0 := by
      have := kB_nat ⟨hk5.1, hk5.2.1⟩
      apply BitVec.eq_of_toNat_eq
      omega
    rw [e3]
    cases b with
    | nil => simp at h1
    | cons x l =>
      have e4 : gb (x :: l) 0 = x := rfl
      rw [e4]
      simp only [List.drop_succ_cons, List.drop_zero, List.cons_append, List.append_assoc, List.cons.injEq, true_and]
      have e5 : l.drop 16 = (l.drop 8).drop 8 := by rw [List.drop_drop]
      rw [e5, List.take_append_drop, List.take_append_drop]
theorem getS_no {c : CyS} {k a : Int} {b : List B8} (h : getE c k a b ≠ 0) : getS c k a b = sec0 := by rw [getS, if_neg h]
/-- Of Names: the sectors that were put are read, and no others. -/
theorem has_mem {S : List Sd} {T T' : List (List B8)} {d : Sd} : cyHas (.nm S T) (.nm S T') d ↔ d ∈ S := by
  simp only [cyHas]
  constructor
  · exact fun h => List.mem_of_getElem? (fidx_some h)
  · intro h
    cases hf : fidx d S with
    | none => exact absurd h (fidx_none.mp hf)
    | some i => rw [(addN_in hf).2]; rfl
theorem putL_has {c c2 : CyS} {s : Sec} (h : cyHas c c2 (secD s)) : putL c2 s = putL c s := by
  have hs : cySl c2 (secD s) = cySl c (secD s) := by
    cases c with
    | box k => cases c2 with
      | box k2 => simp only [cyHas] at h; subst h; rfl
      | nm S2 T2 => exact h.elim
    | nm S T => cases c2 with
      | box k2 => exact h.elim
      | nm S2 T2 =>
        simp only [cyHas] at h
        obtain ⟨-, hp⟩ := addN_in h
        have h1 := (posN_le (secD s) S).1
        have h2 : posN (secD s) S2 = posN (secD s) S := by omega
        simp only [cySl, sealR, nsealB, h2]
  rw [putL, putL, putB, putB, hs]
end Go.Proofs.YtmnlmjlmbceimaaDoor
end
section
/- Sectors: what may be; the known example. -/
namespace Go.Proofs.YtmnlmjlmbceimaaDoor
open Go Go.Adm
set_option linter.unusedSimpArgs false
set_option linter.unusedVariables false
set_option maxRecDepth 100000
def plainK : List B8 := [112#8, 108#8, 97#8, 105#8, 110#8]
def secK : Sec := ⟨4, 1, 2, 3, plainK⟩
theorem secK_ok : okP secK := by decide
theorem known_no (T : List (List B8)) : getE (putC (.nm [] T) secK) 4 4 (putL (.nm [] T) secK) = 19 := by
  obtain ⟨h1, h2, h3, h4⟩ := putL_parts (c := .nm [] T) secK_ok
  have hl := putL_len (c := .nm [] T) secK_ok
  have hl2 : secK.p.length = 5 := rfl
  have hc : putC (.nm [] T) secK = .nm [secD secK] T := by
    rw [putC, if_pos secK_ok, cyNx, sealS2, if_pos (okP_may secK_ok)]
    simp [addN]
  have hr : rightP (nE (putL (.nm [] T) secK)) (nN (putL (.nm [] T) secK)) 4 := by rw [h2, h3]; decide
  rw [hc, getE, if_neg (by omega), if_neg (by omega), if_neg (by rw [h1]; decide), if_neg (by simpa using hr)]
  cases ho : cyOp (.nm [secD secK] T) (nE (putL (.nm [] T) secK)) (nN (putL (.nm [] T) secK)) (headB 4 (4 : Int).toNat) ((putL (.nm [] T) secK).drop 17) with
  | none => rfl
  | some pl =>
    exfalso
    obtain ⟨-, h6⟩ := cyOp_back (d := (nE (putL (.nm [] T) secK), nN (putL (.nm [] T) secK), headB 4 (4 : Int).toNat, pl)) ⟨⟨hr.1.1, hr.2.1.1⟩, hr.1.2.1, hr.2.1.2⟩ ho
    have h7 := has_mem.mp h6
    rw [List.mem_singleton] at h7
    have h8 : headB 4 (4 : Int).toNat = headB 4 (3 : Int).toNat := congrArg (fun d : Sd => d.2.2.1) h7
    exact absurd h8 (by decide)
theorem ans_scknown {m : Mem} (hK : rowOf m 0 = some (wds kT)) : Ans Tryd.prog 8 [] m fun r m' => r = .bool true ∧ Kept [] m m' := by
  refine ans_ret mixed ok8 ?_
  simp -implicitDefEqProofs (disch := (first | omega | (simp only [lenB, lowB_len, numB_len, nsumB_len] <;> omega) | fail)) only [admQ, lenB, lowB_len, numB_len, nsumB_len, aFill, AK.cls, implies_true, ↓reduceIte, reduceCtorEq, if_true, if_false, Nat.reduceAdd, Nat.reduceEqDiff, Nat.reduceMod, Nat.reduceLT, Nat.reduceLeDiff, Nat.reduceSub, Nat.reduceMul, Nat.reduceBEq, Int.reduceAdd, Int.reduceSub, Int.reduceMul, Int.reduceNeg, Int.reduceLT, Int.reduceLE, Int.reduceToNat, Int.reduceEq, Int.reduceBEq, c8, r8, opW_mark, opDW_mark, rMark, rmD_r]
  generalize hA : m ++ _ = A
  have k0 : Kept [] m A := by rw [← hA]; exact .app _ _ _
  have rP : RdB A (.sl m.length 0 5 5 0) plainK := by
    rw [← hA]; exact RdB.row (l := [112#8, 108#8, 97#8, 105#8, 110#8]) 5 0 (by rw [rowOf_app_at0]; rfl) (by simp)
  have o0 : own A (m.length + 1) = some [.int .i64 4, .int .i64 1, .int .i64 2, .int .i64 3, .sl m.length 0 5 5 0] := by
    rw [← hA, own_app_at]; rfl
  have hAl : A.length = m.length + 2 := by rw [← hA]; simp
  clear hA
  refine (ans_nnew A).mono ?_
  rintro _ m1 ⟨x, W, rfl, k1, hN, hW⟩
  have hC : Cy m1 x W W (.nm [] []) := ⟨hN, rfl⟩
  have o1 := k1.own o0 (by simp)
  have rP1 := rP.kept0 k1
  have K1 := k0.trans k1
  simp -implicitDefEqProofs (disch := (first | omega | (simp only [lenB, lowB_len, numB_len, nsumB_len] <;> omega) | fail)) only [admQ, lenB, lowB_len, numB_len, nsumB_len, aFill, AK.cls, implies_true, ↓reduceIte, reduceCtorEq, if_true, if_false, Nat.reduceAdd, Nat.reduceEqDiff, Nat.reduceMod, Nat.reduceLT, Nat.reduceLeDiff, Nat.reduceSub, Nat.reduceMul, Nat.reduceBEq, Int.reduceAdd, Int.reduceSub, Int.reduceMul, Int.reduceNeg, Int.reduceLT, Int.reduceLE, Int.reduceToNat, Int.reduceEq, Int.reduceBEq, opW_mark, opDW_mark, rMark, rmD_r, rowOf_own o1]
  generalize hB : m1 ++ _ = B
  have k2 : Kept [] m1 B := by rw [← hB]; exact .app _ _ _
  have oK : own B m1.length = some [.int .u8 107, .int .u8 101, .int .u8 121] := by rw [← hB, own_app_at0]; rfl
  have rK : RdB B (.sl m1.length 0 3 3 0) [107#8, 101#8, 121#8] := RdB.row (l := [107#8, 101#8, 121#8]) 3 0 (rowOf_own oK) (by simp)
  have o2 := k2.own o1 (by simp)
  have K2 := K1.trans k2
  clear hB
  have hkl : ([107#8, 101#8, 121#8] : List B8).length = 3 := rfl
  generalize hkey : ([107#8, 101#8, 121#8] : List B8) = key at rK hkl
  refine (ans_senew (K2.row hK (by simp)) rK (by omega)).mono ?_
  rintro _ m3 ⟨y, c, kb, k, rfl, k3, hlow, hs⟩
  have hS : Cy m3 y [] [y, c, kb, k, 0] (.box key) := ⟨c, kb, k, hs, rfl, rfl⟩
  have o3 := k3.own o2 (by simp)
  have K3 := K2.trans k3
  have oK3 := k3.own oK (by simp)
  have K13 := k2.trans k3
  have hm1 := k1.len
  have hm2 := K2.len
  have hm3 := K13.len
  have he : errP secK = 0 := (errP_ok _).mpr secK_ok
  simp -implicitDefEqProofs (disch := (first | omega | (simp only [lenB, lowB_len, numB_len, nsumB_len] <;> omega) | fail)) only [admQ, lenB, lowB_len, numB_len, nsumB_len, aFill, AK.cls, implies_true, ↓reduceIte, reduceCtorEq, if_true, if_false, Nat.reduceAdd, Nat.reduceEqDiff, Nat.reduceMod, Nat.reduceLT, Nat.reduceLeDiff, Nat.reduceSub, Nat.reduceMul, Nat.reduceBEq, Int.reduceAdd, Int.reduceSub, Int.reduceMul, Int.reduceNeg, Int.reduceLT, Int.reduceLE, Int.reduceToNat, Int.reduceEq, Int.reduceBEq, opW_mark, opDW_mark, rMark, rmD_r, rowOf_own o3, rowOf_own o2]
  refine (ans_scput (s := secK) hS (rP1.kept0 K13) (by simp) trivial (by decide)).mono ?_
  rintro _ m4 ⟨W4, R4, w4, k4, -, -, rfl, rw4, bw4⟩
  have o4 := k4.own o3 (by simp)
  have oK4 := k4.own oK3 (by simp)
  have K14 := K13.trans k4
  have hm4 := k4.len
  rw [he]
  simp -implicitDefEqProofs (disch := (first | omega | (simp only [lenB, lowB_len, numB_len, nsumB_len] <;> omega) | fail)) only [admQ, lenB, lowB_len, numB_len, nsumB_len, aFill, AK.cls, implies_true, ↓reduceIte, reduceCtorEq, if_true, if_false, Nat.reduceAdd, Nat.reduceEqDiff, Nat.reduceMod, Nat.reduceLT, Nat.reduceLeDiff, Nat.reduceSub, Nat.reduceMul, Nat.reduceBEq, Int.reduceAdd, Int.reduceSub, Int.reduceMul, Int.reduceNeg, Int.reduceLT, Int.reduceLE, Int.reduceToNat, Int.reduceEq, Int.reduceBEq, opW_mark, opDW_mark, rMark, rmD_r, rowOf_own o4, rowOf_own o3, rowOf_own o2, oK4, own_some oK4, Option.isSome_some]
  refine (ans_scput (s := secK) (hC.kept0 K14) (rP1.kept0 K14) (by simp only [blkOf, List.mem_singleton]; rintro b rfl hb; have := hW _ hb; omega) (show 0 ≤ 1000 by omega) (by decide)).mono ?_
  rintro _ m5 ⟨W5, R5, w5, k5, hC5, hR5, rfl, rw5, bw5⟩
  have o5 := k5.own o4 (by intro h; have := hW _ h; omega)
  have hWl := hC.lt
  have rw45 : RdB m5 w4 (putL (.box key) secK) := rdb_ap rw4 k5 fun q hq h => by have := (bw4 q hq).1; have := hWl q h; omega
  rw [he]
  simp -implicitDefEqProofs (disch := (first | omega | (simp only [lenB, lowB_len, numB_len, nsumB_len] <;> omega) | fail)) only [admQ, lenB, lowB_len, numB_len, nsumB_len, aFill, AK.cls, implies_true, ↓reduceIte, reduceCtorEq, if_true, if_false, Nat.reduceAdd, Nat.reduceEqDiff, Nat.reduceMod, Nat.reduceLT, Nat.reduceLeDiff, Nat.reduceSub, Nat.reduceMul, Nat.reduceBEq, Int.reduceAdd, Int.reduceSub, Int.reduceMul, Int.reduceNeg, Int.reduceLT, Int.reduceLE, Int.reduceToNat, Int.reduceEq, Int.reduceBEq, opW_mark, opDW_mark, rMark, rmD_r, rowOf_own o5]
  have K5 : Kept [] m m5 := (K3.trans k4).upon k5 fun q hq => by have := hW q hq; omega
  generalize hD : m5 ++ _ = D
  have k6 : Kept [] m5 D := by rw [← hD]; exact .app _ _ _
  have rK6 : RdB D (.sl m5.length 0 3 3 0) [107#8, 101#8, 121#8] := by
    rw [← hD]; exact RdB.row (l := [107#8, 101#8, 121#8]) 3 0 (by rw [rowOf_app_at0]; rfl) (by simp)
  clear hD
  rw [hkey] at rK6
  refine (ans_senew ((K5.trans k6).row hK (by simp)) rK6 (by omega)).mono ?_
  rintro _ m7 ⟨y7, c7, kb7, kk7, rfl, k7, hlow7, hs7⟩
  have hS7 : Cy m7 y7 [] [y7, c7, kb7, kk7, 0] (.box key) := ⟨c7, kb7, kk7, hs7, rfl, rfl⟩
  have K57 := k6.trans k7
  have hP1 : (putL (.box key) secK).length = 54 := putL_len secK_ok
  have hP2 : (putL (.nm [] []) secK).length = 54 := putL_len secK_ok
  obtain ⟨g1, g2⟩ := get_put (c := .box key) (c2 := .box key) secK_ok rfl
  simp -implicitDefEqProofs (disch := (first | omega | (simp only [lenB, lowB_len, numB_len, nsumB_len] <;> omega) | fail)) only [admQ, lenB, lowB_len, numB_len, nsumB_len, aFill, AK.cls, implies_true, ↓reduceIte, reduceCtorEq, if_true, if_false, Nat.reduceAdd, Nat.reduceEqDiff, Nat.reduceMod, Nat.reduceLT, Nat.reduceLeDiff, Nat.reduceSub, Nat.reduceMul, Nat.reduceBEq, Int.reduceAdd, Int.reduceSub, Int.reduceMul, Int.reduceNeg, Int.reduceLT, Int.reduceLE, Int.reduceToNat, Int.reduceEq, Int.reduceBEq, opW_mark, opDW_mark, rMark, rmD_r, rowOf_own o5]
  refine (ans_scget (k := 4) (a := 3) hS7 (rw45.kept0 K57) trivial (by omega)).mono ?_
  rintro _ m8 ⟨k8, w8, rfl, rw8, bw8⟩
  rw [show getE (.box key) 4 3 (putL (.box key) secK) = 0 from g1, show getS (.box key) 4 3 (putL (.box key) secK) = secK from g2] at *
  unfold secV
  simp -implicitDefEqProofs (disch := (first | omega | (simp only [lenB, lowB_len, numB_len, nsumB_len] <;> omega) | fail)) only [admQ, lenB, lowB_len, numB_len, nsumB_len, aFill, AK.cls, implies_true, ↓reduceIte, reduceCtorEq, if_true, if_false, Nat.reduceAdd, Nat.reduceEqDiff, Nat.reduceMod, Nat.reduceLT, Nat.reduceLeDiff, Nat.reduceSub, Nat.reduceMul, Nat.reduceBEq, Int.reduceAdd, Int.reduceSub, Int.reduceMul, Int.reduceNeg, Int.reduceLT, Int.reduceLE, Int.reduceToNat, Int.reduceEq, Int.reduceBEq, (rd_one rw8).1, (rd_one rw8).2]
  generalize hE : m8 ++ _ = E
  have k9 : Kept [] m8 E := by rw [← hE]; exact .app _ _ _
  have o9 : own E m8.length = some [.int .i64 secK.k, .int .i64 secK.e, .int .i64 secK.n, .int .i64 secK.a, w8] := by rw [← hE, own_app_at0]; rfl
  clear hE
  have K59 := (K57.trans k8).trans k9
  have cS : CyS.nm [secD secK] [] = putC (.nm [] []) secK := by
    rw [putC, if_pos secK_ok, cyNx, sealS2, if_pos (okP_may secK_ok)]
    simp [addN]
  have hC9 : Cy E x W5 R5 (putC (.nm [] []) secK) := hC5.kept0 K59
  have hok9 : cyOk (putC (.nm [] []) secK) 1000 := by rw [← cS]; exact (by decide : (1 : Nat) ≤ 1000)
  obtain ⟨g3, g4⟩ := get_put (c := .nm [] []) (c2 := putC (.nm [] []) secK) secK_ok (by rw [putC, if_pos secK_ok]; exact cyHas_nx _ (okP_may secK_ok))
  have g5 := known_no []
  have cT : ∀ z : Nat, AV.iface 28 (.ptr z 0) = .iface (cyT (putC (.nm [] []) secK)) (.ptr z 0) := fun z => by rw [← cS]; rfl
  rw [cT]
  refine (ans_scget (k := 4) (a := 3) hC9 (rw5.kept0 K59) hok9 (by omega)).mono ?_
  rintro _ m10 ⟨k10, w10, rfl, rw10, bw10⟩
  rw [show getE (putC (.nm [] []) secK) 4 3 (putL (.nm [] []) secK) = 0 from g3, show getS (putC (.nm [] []) secK) 4 3 (putL (.nm [] []) secK) = secK from g4] at *
  unfold secV
  simp -implicitDefEqProofs (disch := (first | omega | (simp only [lenB, lowB_len, numB_len, nsumB_len] <;> omega) | fail)) only [admQ, lenB, lowB_len, numB_len, nsumB_len, aFill, AK.cls, implies_true, ↓reduceIte, reduceCtorEq, if_true, if_false, Nat.reduceAdd, Nat.reduceEqDiff, Nat.reduceMod, Nat.reduceLT, Nat.reduceLeDiff, Nat.reduceSub, Nat.reduceMul, Nat.reduceBEq, Int.reduceAdd, Int.reduceSub, Int.reduceMul, Int.reduceNeg, Int.reduceLT, Int.reduceLE, Int.reduceToNat, Int.reduceEq, Int.reduceBEq, (rd_one rw10).1, (rd_one rw10).2]
  generalize hF : m10 ++ _ = F
  have k11 : Kept [] m10 F := by rw [← hF]; exact .app _ _ _
  have o11 : own F m10.length = some [.int .i64 secK.k, .int .i64 secK.e, .int .i64 secK.n, .int .i64 secK.a, w10] := by rw [← hF, own_app_at0]; rfl
  clear hF
  have K511 := (K59.trans k10).trans k11
  rw [cT]
  refine (ans_scget (k := 4) (a := 4) (hC5.kept0 K511) (rw5.kept0 K511) hok9 (by omega)).mono ?_
  rintro _ m12 ⟨k12, w12, rfl, rw12, bw12⟩
  rw [g5] at *
  unfold secV
  have K512 := K511.trans k12
  simp -implicitDefEqProofs (disch := (first | omega | (simp only [lenB, lowB_len, numB_len, nsumB_len] <;> omega) | fail)) only [admQ, lenB, lowB_len, numB_len, nsumB_len, aFill, AK.cls, implies_true, ↓reduceIte, reduceCtorEq, if_true, if_false, Nat.reduceAdd, Nat.reduceEqDiff, Nat.reduceMod, Nat.reduceLT, Nat.reduceLeDiff, Nat.reduceSub, Nat.reduceMul, Nat.reduceBEq, Int.reduceAdd, Int.reduceSub, Int.reduceMul, Int.reduceNeg, Int.reduceLT, Int.reduceLE, Int.reduceToNat, Int.reduceEq, Int.reduceBEq, (rd_one rw12).1, (rd_one rw12).2, (rw45.kept0 K512).len, (rw5.kept0 K512).len, hP1, hP2]
  generalize hG : m12 ++ _ = G
  have k13 : Kept [] m12 G := by rw [← hG]; exact .app _ _ _
  clear hG
  have k1013 := (k11.trans k12).trans k13
  have k813 := (k9.trans k10).trans k1013
  have K513 := K512.trans k13
  have o13 := K513.own o5 (by simp)
  have p13 := (k10.trans k1013).own o9 (by simp)
  have q13 := (k12.trans k13).own o11 (by simp)
  have r13 : RdB G (.sl m.length 0 5 5 0) plainK := (rdb_ap (rP1.kept0 K14) k5 fun q hq h => by
    simp only [blkOf, List.mem_singleton] at hq
    subst hq
    have := hW _ h
    omega).kept0 K513
  simp -implicitDefEqProofs (disch := (first | omega | (simp only [lenB, lowB_len, numB_len, nsumB_len] <;> omega) | fail)) only [admQ, lenB, lowB_len, numB_len, nsumB_len, aFill, AK.cls, implies_true, ↓reduceIte, reduceCtorEq, if_true, if_false, Nat.reduceAdd, Nat.reduceEqDiff, Nat.reduceMod, Nat.reduceLT, Nat.reduceLeDiff, Nat.reduceSub, Nat.reduceMul, Nat.reduceBEq, Int.reduceAdd, Int.reduceSub, Int.reduceMul, Int.reduceNeg, Int.reduceLT, Int.reduceLE, Int.reduceToNat, Int.reduceEq, Int.reduceBEq, rowOf_own o13, rowOf_own p13, rowOf_own q13]
  refine (ans_samesector (s := secK) (t := secK) (rw8.kept0 k813) r13 (by decide)).mono ?_
  rintro _ m14 ⟨rfl, k14⟩
  simp -implicitDefEqProofs (disch := (first | omega | (simp only [lenB, lowB_len, numB_len, nsumB_len] <;> omega) | fail)) only [admQ, lenB, lowB_len, numB_len, nsumB_len, aFill, AK.cls, implies_true, ↓reduceIte, reduceCtorEq, if_true, if_false, Nat.reduceAdd, Nat.reduceEqDiff, Nat.reduceMod, Nat.reduceLT, Nat.reduceLeDiff, Nat.reduceSub, Nat.reduceMul, Nat.reduceBEq, Int.reduceAdd, Int.reduceSub, Int.reduceMul, Int.reduceNeg, Int.reduceLT, Int.reduceLE, Int.reduceToNat, Int.reduceEq, Int.reduceBEq, rowOf_own (k14.own o13 (by simp)), rowOf_own (k14.own p13 (by simp)), rowOf_own (k14.own q13 (by simp)), decide_true]
  refine (ans_samesector (s := secK) (t := secK) ((rw10.kept0 k1013).kept0 k14) (r13.kept0 k14) (by decide)).mono ?_
  rintro _ m15 ⟨rfl, k15⟩
  simp -implicitDefEqProofs (disch := (first | omega | (simp only [lenB, lowB_len, numB_len, nsumB_len] <;> omega) | fail)) only [admQ, lenB, lowB_len, numB_len, nsumB_len, aFill, AK.cls, implies_true, ↓reduceIte, reduceCtorEq, if_true, if_false, Nat.reduceAdd, Nat.reduceEqDiff, Nat.reduceMod, Nat.reduceLT, Nat.reduceLeDiff, Nat.reduceSub, Nat.reduceMul, Nat.reduceBEq, Int.reduceAdd, Int.reduceSub, Int.reduceMul, Int.reduceNeg, Int.reduceLT, Int.reduceLE, Int.reduceToNat, Int.reduceEq, Int.reduceBEq, decide_true]
  exact ((K5.trans K513).trans k14).trans k15
end Go.Proofs.YtmnlmjlmbceimaaDoor
end
section
/- Sectors: what is read, put again, is just these bytes. -/
namespace Go.Proofs.YtmnlmjlmbceimaaDoor
open Go Go.Adm
set_option linter.unusedSimpArgs false
set_option linter.unusedVariables false
set_option maxRecDepth 100000
end Go.Proofs.YtmnlmjlmbceimaaDoor
end
section
/- Sectors: unlike ones have unlike bytes. -/
namespace Go.Proofs.YtmnlmjlmbceimaaDoor
open Go Go.Adm
set_option linter.unusedSimpArgs false
set_option linter.unusedVariables false
set_option maxRecDepth 100000
theorem putC_ok {c : CyS} {s : Sec} (h : okP s) : cyHas c (putC c s) (secD s) := by rw [putC, if_pos h]; exact cyHas_nx c (okP_may h)
theorem putC_has {c c2 : CyS} {d : Sd} (t : Sec) (h : cyHas c c2 d) : cyHas c (putC c2 t) d := by
  rw [putC]; split
  · exact cyHas_more h _
  · exact h
/-- A Names as sectors are put: its things sealed. -/
def putS (S : List Sd) (s : Sec) : List Sd := if okP s then sealS2 S (secD s) else S
theorem putC_nm (S : List Sd) (T : List (List B8)) (s : Sec) : putC (.nm S T) s = .nm (putS S s) T := by
  unfold putC putS; split <;> rfl
theorem putS_len (S : List Sd) (s : Sec) : (putS S s).length ≤ S.length + 1 := by
  unfold putS; split
  · exact sealS2_len _ _
  · omega
theorem putL_same {c : CyS} {s : Sec} (h : okP s) : putL (putC c s) s = putL c s := putL_has (putC_ok h)
theorem putS_mem {S : List Sd} {s : Sec} {t : Sd} : t ∈ putS S s ↔ t ∈ S ∨ (t = secD s ∧ okP s) := by
  unfold putS
  by_cases h : okP s
  · rw [if_pos h, mem_seal]
    simp [h, okP_may h]
  · rw [if_neg h]; simp [h]
theorem putL_mem {S : List Sd} {T : List (List B8)} {s t : Sec} (h : secD s ∈ S) : putL (.nm (putS S t) T) s = putL (.nm S T) s := by
  rw [← putC_nm]
  exact putL_has (putC_has t (has_mem.mpr h))
end Go.Proofs.YtmnlmjlmbceimaaDoor
end
section
/- Sectors: what was put is read as it was, with either crypt. -/
namespace Go.Proofs.YtmnlmjlmbceimaaDoor
open Go Go.Adm
set_option linter.unusedSimpArgs false
set_option linter.unusedVariables false
set_option maxRecDepth 100000
end Go.Proofs.YtmnlmjlmbceimaaDoor
end
section
/- Sectors: with a Names, what was put is read, and no others. -/
namespace Go.Proofs.YtmnlmjlmbceimaaDoor
open Go Go.Adm
set_option linter.unusedSimpArgs false
set_option linter.unusedVariables false
set_option maxRecDepth 100000
/-- Lists of sectors. -/
def RdSecs (m : Mem) (x : AV) (L : List Sec) : Prop :=
  (x = .nils ∧ L = []) ∨ ∃ b cap xs, x = .sl b 0 L.length cap 0 ∧ rowOf m b = some xs ∧ xs.length = L.length * 5 ∧ ∀ (i : Nat) (s : Sec), L[i]? = some s →
    ∃ p, xs[i * 5]? = some (.int .i64 s.k) ∧ xs[i * 5 + 1]? = some (.int .i64 s.e) ∧ xs[i * 5 + 2]? = some (.int .i64 s.n) ∧ xs[i * 5 + 3]? = some (.int .i64 s.a) ∧ xs[i * 5 + 4]? = some p ∧ RdB m p s.p
theorem RdSecs.kept0 {m m' : Mem} {x : AV} {L : List Sec} (h : RdSecs m x L) (hk : Kept [] m m') : RdSecs m' x L := by
  rcases h with h | ⟨b, cap, xs, h1, h2, h3, h4⟩
  · exact .inl h
  · refine .inr ⟨b, cap, xs, h1, hk.row0 h2, h3, fun i s hs => ?_⟩
    obtain ⟨p, a1, a2, a3, a4, a5, a6⟩ := h4 i s hs
    exact ⟨p, a1, a2, a3, a4, a5, a6.kept0 hk⟩
theorem RdSecs.len {m : Mem} {x : AV} {L : List Sec} (h : RdSecs m x L) : pLen [x] = some (.int .i64 L.length) := by
  rcases h with ⟨rfl, rfl⟩ | ⟨b, cap, _, rfl, _⟩ <;> rfl
theorem take5 {xs : List AV} {i : Nat} {a b c d e : AV} (h1 : xs[i]? = some a) (h2 : xs[i + 1]? = some b) (h3 : xs[i + 2]? = some c) (h4 : xs[i + 3]? = some d) (h5 : xs[i + 4]? = some e) : List.take 5 (List.drop i xs) = [a, b, c, d, e] := by
  have e1 := List.getElem?_eq_some_iff.mp h1
  have e2 := List.getElem?_eq_some_iff.mp h2
  have e3 := List.getElem?_eq_some_iff.mp h3
  have e4 := List.getElem?_eq_some_iff.mp h4
  have e5 := List.getElem?_eq_some_iff.mp h5
  rw [List.drop_eq_getElem_cons e1.1, List.drop_eq_getElem_cons e2.1, List.drop_eq_getElem_cons e3.1, List.drop_eq_getElem_cons e4.1, List.drop_eq_getElem_cons e5.1, e1.2, e2.2, e3.2, e4.2, e5.2]
  rfl
theorem IsRecs.secs {m : Mem} {x : AV} {dss : List (List Adm.Fd)} (h : IsRecs [.i .i64, .i .i64, .i .i64, .i .i64, .b] dss x m) : ∃ L, dss.length = L.length ∧ RdSecs m x L := by
  rcases h with ⟨rfl, rfl⟩ | ⟨b, cap, xs, rfl, h2, h3, h4⟩
  · exact ⟨[], rfl, .inl ⟨rfl, rfl⟩⟩
  · have key : ∀ (dss : List (List Adm.Fd)) (xs : List AV), (∀ ds ∈ dss, ds.length = 5) → RdCs m (List.replicate dss.length [Fk.i .i64, .i .i64, .i .i64, .i .i64, .b]).flatten dss.flatten xs →
        ∃ L : List Sec, dss.length = L.length ∧ xs.length = L.length * 5 ∧ ∀ (i : Nat) (s : Sec), L[i]? = some s →
          ∃ p, xs[i * 5]? = some (.int .i64 s.k) ∧ xs[i * 5 + 1]? = some (.int .i64 s.e) ∧ xs[i * 5 + 2]? = some (.int .i64 s.n) ∧ xs[i * 5 + 3]? = some (.int .i64 s.a) ∧ xs[i * 5 + 4]? = some p ∧ RdB m p s.p := by
      intro dss
      induction dss with
      | nil => intro xs _ h; obtain ⟨_, rfl⟩ := h.none; exact ⟨[], rfl, rfl, fun i s h1 => by simp at h1⟩
      | cons d r ih =>
        intro xs hl h
        have hd := hl d (by simp)
        match d, hd with
        | [y1, y2, y3, y4, y5], _ =>
          simp only [List.length_cons, List.replicate_succ, List.flatten_cons, List.cons_append, List.nil_append] at h
          obtain ⟨n1, d1, x1, e1, rfl, _, h⟩ := h.int
          simp only [List.cons.injEq] at e1
          obtain ⟨rfl, rfl⟩ := e1
          obtain ⟨n2, d2, x2, e2, rfl, _, h⟩ := h.int
          simp only [List.cons.injEq] at e2
          obtain ⟨rfl, rfl⟩ := e2
          obtain ⟨n3, d3, x3, e3, rfl, _, h⟩ := h.int
          simp only [List.cons.injEq] at e3
          obtain ⟨rfl, rfl⟩ := e3
          obtain ⟨n4, d4, x4, e4, rfl, _, h⟩ := h.int
          simp only [List.cons.injEq] at e4
          obtain ⟨rfl, rfl⟩ := e4
          obtain ⟨l5, d5, y5', x5, e5, rfl, hb5, h⟩ := h.bytes
          simp only [List.cons.injEq] at e5
          obtain ⟨rfl, rfl⟩ := e5
          obtain ⟨L, i1, i2, i3⟩ := ih x5 (fun ds h => hl ds (by simp [h])) h
          refine ⟨⟨n1, n2, n3, n4, l5⟩ :: L, by simp [i1], by simp [i2]; omega, fun i s hs => ?_⟩
          cases i with
          | zero => simp at hs; subst hs; exact ⟨y5', rfl, rfl, rfl, rfl, rfl, hb5⟩
          | succ i =>
            obtain ⟨p', a1, a2, a3, a4, a5, a6⟩ := i3 i s (by simpa using hs)
            refine ⟨p', ?_, ?_, ?_, ?_, ?_, a6⟩ <;> rw [show (i + 1) * 5 = i * 5 + 5 by omega] <;> assumption
    obtain ⟨L, k1, k2, k3⟩ := key dss xs h4 h3
    exact ⟨L, k1, .inr ⟨b, cap, xs, by rw [k1], h2, k2, k3⟩⟩
/-- What a Names holds when the first i sectors were put. -/
def runC (L : List Sec) : Nat → List Sd
  | 0 => []
  | i + 1 => match L[i]? with
    | some s => putS (runC L i) s
    | none => runC L i
theorem runC_succ {L : List Sec} {i : Nat} {s : Sec} (h : L[i]? = some s) : runC L (i + 1) = putS (runC L i) s := by simp [runC, h]
theorem runC_len (L : List Sec) : ∀ i, (runC L i).length ≤ i := by
  intro i
  induction i with
  | zero => simp [runC]
  | succ i ih =>
    simp only [runC]
    split
    · rename_i s _; have := putS_len (runC L i) s; omega
    · omega
theorem runC_mem (L : List Sec) : ∀ (i : Nat) (t : Sd), t ∈ runC L i ↔ ∃ j s, j < i ∧ L[j]? = some s ∧ okP s ∧ t = secD s := by
  intro i
  induction i with
  | zero => intro t; simp [runC]
  | succ i ih =>
    intro t
    simp only [runC]
    split
    · rename_i s hs
      rw [putS_mem, ih]
      constructor
      · rintro (⟨j, s', h1, h2⟩ | ⟨h1, h2⟩)
        · exact ⟨j, s', by omega, h2⟩
        · exact ⟨i, s, by omega, hs, h2, h1⟩
      · rintro ⟨j, s', h1, h2, h3, h4⟩
        by_cases hj : j = i
        · subst hj; rw [hs] at h2; cases h2; exact .inr ⟨h4, h3⟩
        · exact .inl ⟨j, s', by omega, h2, h3, h4⟩
    · rename_i hs
      rw [ih]
      constructor
      · rintro ⟨j, s', h1, h2⟩; exact ⟨j, s', by omega, h2⟩
      · rintro ⟨j, s', h1, h2, h3⟩
        by_cases hj : j = i
        · subst hj; rw [hs] at h2; cases h2
        · exact ⟨j, s', by omega, h2, h3⟩
/-- Of the first i sectors one has these bytes, for a kind and a place. -/
def foundP (L : List Sec) (i : Nat) (S : List Sd) (k a : Int) (b : List B8) : Prop := ∃ j s, j < i ∧ L[j]? = some s ∧ okP s ∧ s.k = k ∧ s.a = a ∧ putL (.nm S []) s = b
/-- Of the first i sectors one has these bytes. -/
def anyP (L : List Sec) (i : Nat) (S : List Sd) (b : List B8) : Prop := ∃ j s, j < i ∧ L[j]? = some s ∧ okP s ∧ putL (.nm S []) s = b
theorem runC_putL {L : List Sec} {i j : Nat} {s t : Sec} (hj : j < i) (hs : L[j]? = some s) (hk : okP s) : putL (.nm (putS (runC L i) t) []) s = putL (.nm (runC L i) []) s :=
  putL_mem ((runC_mem L i _).mpr ⟨j, s, hj, hs, hk, rfl⟩)
theorem foundP_succ {L : List Sec} {i : Nat} {s : Sec} (hs : L[i]? = some s) {k a : Int} {b : List B8} :
    foundP L (i + 1) (runC L (i + 1)) k a b ↔ foundP L i (runC L i) k a b ∨ (okP s ∧ s.k = k ∧ s.a = a ∧ putL (.nm (runC L i) []) s = b) := by
  rw [runC_succ hs]
  have e : okP s → putL (.nm (putS (runC L i) s) []) s = putL (.nm (runC L i) []) s := fun h => by
    have := putL_same (c := .nm (runC L i) []) h
    rwa [putC_nm] at this
  constructor
  · rintro ⟨j, t, h1, h2, h3, h4, h5, h6⟩
    by_cases hj : j = i
    · subst hj; rw [hs] at h2; cases h2
      rw [e h3] at h6
      exact .inr ⟨h3, h4, h5, h6⟩
    · rw [runC_putL (show j < i by omega) h2 h3] at h6
      exact .inl ⟨j, t, by omega, h2, h3, h4, h5, h6⟩
  · rintro (⟨j, t, h1, h2, h3, h4, h5, h6⟩ | ⟨h3, h4, h5, h6⟩)
    · exact ⟨j, t, by omega, h2, h3, h4, h5, by rw [runC_putL h1 h2 h3]; exact h6⟩
    · exact ⟨i, s, by omega, hs, h3, h4, h5, by rw [e h3]; exact h6⟩
/-- The sectors that were put are read, as they are, and no others. -/
theorem found_get {L : List Sec} {i : Nat} {k a : Int} {b : List B8} : getE (.nm (runC L i) []) k a b = 0 ↔ foundP L i (runC L i) k a b := by
  constructor
  · intro h
    obtain ⟨p1, p2, p3, p4, p5⟩ := put_get h
    obtain ⟨j, s, h1, h2, h3, h4⟩ := (runC_mem L i _).mp (has_mem.mp p5)
    have := secD_inj p1 h3 h4
    rw [this] at p2 p3 p4
    exact ⟨j, s, h1, h2, h3, p2, p3, p4⟩
  · rintro ⟨j, s, h1, h2, h3, rfl, rfl, rfl⟩
    exact (get_put h3 (has_mem.mpr ((runC_mem L i _).mpr ⟨j, s, h1, h2, h3, rfl⟩))).1
/-- Put once more: nothing changes. -/
theorem runC_again {L : List Sec} {i j : Nat} {s : Sec} (hj : j < i) (hs : L[j]? = some s) : putS (runC L i) s = runC L i := by
  unfold putS
  split
  · rename_i hk
    rw [sealS2, if_pos (okP_may hk), addN, if_pos ((runC_mem L i _).mpr ⟨j, s, hj, hs, hk, rfl⟩)]
  · rfl
theorem foundP_any {L : List Sec} {i : Nat} {S : List Sd} {k a : Int} {b : List B8} (h : foundP L i S k a b) : anyP L i S b := by
  obtain ⟨j, s, h1, h2, h3, _, _, h4⟩ := h
  exact ⟨j, s, h1, h2, h3, h4⟩
theorem anyP_succ {L : List Sec} {i : Nat} {s : Sec} (hs : L[i]? = some s) {S : List Sd} {b : List B8} : anyP L (i + 1) S b ↔ anyP L i S b ∨ (okP s ∧ putL (.nm S []) s = b) := by
  constructor
  · rintro ⟨j, t, h1, h2, h3⟩
    by_cases hj : j = i
    · subst hj; rw [hs] at h2; cases h2; exact .inr h3
    · exact .inl ⟨j, t, by omega, h2, h3⟩
  · rintro (⟨j, t, h1, h2, h3⟩ | h)
    · exact ⟨j, t, by omega, h2, h3⟩
    · exact ⟨i, s, by omega, hs, h⟩
end Go.Proofs.YtmnlmjlmbceimaaDoor
end
