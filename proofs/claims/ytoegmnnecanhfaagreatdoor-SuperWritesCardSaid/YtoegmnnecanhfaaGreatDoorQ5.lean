/- Texts of this seat, joined (part 5 of 6): an abstract memory for Go programs, this seat's functions as abstract code, and what each of them does. -/
import Derived.Test.YtoegmnnecanhfaaGreatDoorQ4
set_option linter.unusedSimpArgs false
set_option linter.defProp false
section
namespace Go.Proofs.YtoegmnnecanhfaaGreatDoor
open Go Go.Adm
set_option linter.unusedSimpArgs false
set_option linter.unusedVariables false
set_option maxRecDepth 100000
abbrev Sd := Int × Int × List B8 × List B8
def sdC (s : Sd) : List AV := [.int .i64 s.1, .int .i64 s.2.1, .str (strOf s.2.2.1), .str (strOf s.2.2.2)]
def sdK (s : Sd) : AV := .agg (sdC s)
def txK (t : List B8) : AV := .str (strOf t)
abbrev sdM : MK := .agg [.i, .i, .s, .s]
theorem sd_key (a b : Sd) : mapEq sdM (sdK a) (sdK b) = some (decide (a = b)) := by
 obtain ⟨a1, a2, a3, a4⟩ := a
 obtain ⟨b1, b2, b3, b4⟩ := b
 simp only [mapEq, sdK, sdC, aEqCells, aEqCk, if_true, Option.bind_some, Option.map_some, strOf_beq, Bool.and_true]
 congr 1
 rw [Bool.eq_iff_iff]
 simp [Prod.ext_iff]
theorem sd_fit (a : Sd) : keyFits sdM (sdK a) = true := rfl
theorem tx_key (a b : List B8) : mapEq (.one .s) (txK a) (txK b) = some (decide (a = b)) := by
 simp only [mapEq, txK, aEqCk, strOf_beq]
 congr 1
 rw [Bool.eq_iff_iff]; simp
theorem tx_fit (a : List B8) : keyFits (.one .s) (txK a) = true := rfl
structure Nm (m : Mem) (x : Nat) (W : List Nat) (S : List Sd) (T : List (List B8)) : Prop where
 ex : ∃ bs v bt, own m x = some [.map bs, v, .map bt] ∧ MapR sdK m bs S ∧ GrA 4 0 m v (S.flatMap sdC) ∧ MapR txK m bt T ∧ W = x :: bs :: bt :: blkOf v ∧ bs ≠ bt ∧ x ∉ blkOf v
theorem Nm.kept {m m' : Mem} {x : Nat} {W X : List Nat} {S : List Sd} {T : List (List B8)} (h : Nm m x W S T) (hk : Kept X m m') (hX : ∀ b ∈ W, b ∉ X) : Nm m' x W S T := by
 obtain ⟨bs, v, bt, h1, h2, h3, h4, rfl, h6⟩ := h.ex
 exact ⟨bs, v, bt, hk.own h1 (hX x (by simp)), h2.kept hk (hX bs (by simp)), h3.kept hk (fun b hb => hX b (by simp [hb])), h4.kept hk (hX bt (by simp)), rfl, h6⟩
theorem Nm.kept0 {m m' : Mem} {x : Nat} {W : List Nat} {S : List Sd} {T : List (List B8)} (h : Nm m x W S T) (hk : Kept [] m m') : Nm m' x W S T := h.kept hk (by simp)
theorem Nm.lt {m : Mem} {x : Nat} {W : List Nat} {S : List Sd} {T : List (List B8)} (h : Nm m x W S T) : ∀ b ∈ W, b < m.length := by
 obtain ⟨bs, v, bt, h1, h2, h3, h4, rfl, h6⟩ := h.ex
 simp only [List.mem_cons]
 rintro b (rfl | rfl | rfl | hb)
 ·exact own_lt h1
 ·exact h2.lt
 ·exact h4.lt
 ·exact h3.lt b hb
theorem ans_nnew (m : Mem) : Ans Tryz.prog 22 [] m fun r m' => ∃ x W, r = .ptr x 0 ∧ Kept [] m m' ∧ Nm m' x W [] [] ∧ ∀ b ∈ W, m.length ≤ b := by
 refine ans_ret mixed ok22 ?_
 simp -implicitDefEqProofs (disch := (first | omega | (simp only [lq14] <;> omega) | fail)) only [admQ, lq14, aFill, AK.cls, implies_true, if_true, if_false, seval, -List.reduceReplicate, c22, r22, mapR, mkMp]
 refine ⟨m.length + 2, [m.length + 2, m.length, m.length + 1], rfl, .app _ _ _, ⟨m.length, .nils, m.length + 1, ?_, ?_, .nils .., ?_, rfl, by omega, by simp [blkOf]⟩, by simp⟩
 ·rw [own_app_at]; rfl
 ·exact (MapR.new sdK m).at_ (by simp)
 ·have := MapR.new txK (m ++ [.map [] 0])
  rw [List.length_append] at this
  exact this.at_ (by simp)
def addN {α : Type} [DecidableEq α] (s : α) (S : List α) : List α := if s ∈ S then S else S ++ [s]
def posN {α : Type} [DecidableEq α] (s : α) (S : List α) : Nat := ((fidx s S).getD S.length) + 1
def zeros (n : Nat) : List B8 := List.replicate n 0#8
def nsealB (S : List Sd) (s : Sd) : List B8 := s.2.2.2 ++ zeros 24 ++ numB (posN s S)
theorem sd_len (S : List Sd) : (S.flatMap sdC).length = S.length * 4 := by
 induction S with
 | nil => rfl
 | cons a l ih => rw [List.flatMap_cons, List.length_append, ih, List.length_cons]; simp only [sdC, List.length_cons, List.length_nil]; omega
def nsealQ (m : Mem) (x : Nat) (W : List Nat) (S : List Sd) (T : List (List B8)) (e n : Int) (head plain : List B8) (r : AV) (m' : Mem) : Prop :=
 (within e ∧ within n → ∃ W', Kept W m m' ∧ Nm m' x W' (addN (e, n, head, plain) S) T ∧ (∀ b ∈ W', b ∈ W ∨ m.length ≤ b) ∧ GrB m.length m' r (nsealB S (e, n, head, plain)) ∧ ∀ b ∈ blkOf r, b ∉ W') ∧
   (¬ (within e ∧ within n) → r = .nils ∧ Kept [] m m')
theorem nsealTail {m M : Mem} {x : Nat} {W W' : List Nat} {S : List Sd} {T : List (List B8)} {bx : AV} {e n : Int} {head plain : List B8} (hp : within e ∧ within n) (hb : RdB M bx plain) (hS : S.length ≤ 1000) (hl : plain.length ≤ 100000)
  (hk : Kept W m M) (hN : Nm M x W' (addN (e, n, head, plain) S) T) (hW : ∀ b ∈ W', b ∈ W ∨ m.length ≤ b) (k : Nat) (hk1 : k = posN (e, n, head, plain) S) (hk2 : k ≤ 1001) :
  wpA Tryz.prog c154_2 [(4, bx), (12, .int .i64 (k : Int))] M (retQ [.tmp 10] (nsealQ m x W S T e n head plain)) := by
 simp -implicitDefEqProofs (disch := (first | omega | (simp only [lq14] <;> omega) | fail)) only [admQ, lq14, aFill, AK.cls, implies_true, if_true, if_false, seval, -List.reduceReplicate, c154_2]
 have hr : rep 24 [AV.int .u8 0] = bys (zeros 24) := rfl
 simp -implicitDefEqProofs (disch := (first | omega | (simp only [lq14] <;> omega) | fail)) only [admQ, lq14, aFill, AK.cls, implies_true, if_true, if_false, seval, -List.reduceReplicate, hr]
 refine (ans_nnumber k (by omega) _).mono ?_
 rintro _ m1 ⟨p, rfl, k1, hp1, op⟩
 have oZ : own (M ++ [Blk.row (bys (zeros 24)) false]) M.length = some (bys (zeros 24)) := by rw [own_app_at0]; rfl
 have kA := Kept.app [] M [Blk.row (bys (zeros 24)) false]
 have hAl : (M ++ [Blk.row (bys (zeros 24)) false]).length = M.length + 1 := by simp
 have hEq : (M ++ [Blk.row (bys (zeros 24)) false])[M.length]? = some (.row (bys (zeros 24)) false) := by simp
 generalize M ++ [Blk.row (bys (zeros 24)) false] = A at *
 have hE : m1[M.length]? = some (.row (bys (zeros 24)) false) := by rw [k1.eq _ (by omega) (by simp)]; exact hEq
 simp -implicitDefEqProofs (disch := (first | omega | (simp only [lq14] <;> omega) | fail)) only [admQ, lq14, aFill, AK.cls, implies_true, if_true, if_false, seval, -List.reduceReplicate, hE, (rd_one hb).1, (rd_one hb).2]
 have oZ1 := k1.own oZ (by simp)
 have K1 := kA.trans k1
 have rl : RdL (m1 ++ [Blk.row [bx, .sl M.length 0 24 24 0, .sl p 0 8 8 0] false]) [bx, .sl M.length 0 24 24 0, .sl p 0 8 8 0] [plain, zeros 24, numB k] :=
  .cons ((hb.kept0 K1).app _) (.cons (RdB.row (l := zeros 24) 24 0 (rowOf_own (own_app oZ1 _)) (by simp [zeros])) (.cons (RdB.row (l := numB k) 8 0 (rowOf_own (own_app op _)) (by rw [numB_len]; omega)) (.nil _)))
 have hfl : [plain, zeros 24, numB k].flatten = nsealB S (e, n, head, plain) := by simp [nsealB, hk1]
 have K2 := K1.more_app [Blk.row [bx, .sl M.length 0 24 24 0, .sl p 0 8 8 0] false]
 have rB : rowOf (m1 ++ [Blk.row [bx, .sl M.length 0 24 24 0, .sl p 0 8 8 0] false]) m1.length = some [bx, .sl M.length 0 24 24 0, .sl p 0 8 8 0] := by rw [rowOf_app_at0]; rfl
 generalize m1 ++ [Blk.row [bx, .sl M.length 0 24 24 0, .sl p 0 8 8 0] false] = C at *
 refine (ans_slconcat (k := 3) rB rl rfl ⟨by omega, by simp [zeros, numB_len]; omega⟩).mono ?_
 rintro r m3 ⟨k3, g3⟩
 simp -implicitDefEqProofs (disch := (first | omega | (simp only [lq14] <;> omega) | fail)) only [admQ, lq14, aFill, AK.cls, implies_true, if_true, if_false, seval, -List.reduceReplicate]
 rw [hfl] at g3
 have hMC := K2.len
 have hmM := hk.len
 have hgb := GrA.blk g3 (by intro h0; have := congrArg List.length h0; simp [nsealB, numB_len] at this)
 refine ⟨fun _ => ⟨W', hk.trans (K2.trans k3 |>.more (by simp)), hN.kept0 (K2.trans k3), hW, g3.low (by omega), fun b hb1 hb2 => ?_⟩, fun h => absurd hp h⟩
 have := hN.lt b hb2
 have := hgb b hb1
 omega
theorem ans_nseal {m : Mem} {x : Nat} {W : List Nat} {S : List Sd} {T : List (List B8)} {hx bx : AV} {e n : Int} {head plain : List B8} (hN : Nm m x W S T) (hh : RdB m hx head) (hb : RdB m bx plain)
  (hd : ∀ b ∈ blkOf bx, b ∉ W) (hS : S.length ≤ 1000) (hl : head.length ≤ 100000 ∧ plain.length ≤ 100000) :
  Ans Tryz.prog 154 [.ptr x 0, .int .i64 e, .int .i64 n, hx, bx] m (nsealQ m x W S T e n head plain) := by
 refine ans_ret mixed ok154 ?_
 simp -implicitDefEqProofs (disch := (first | omega | (simp only [lq14] <;> omega) | fail)) only [admQ, lq14, aFill, AK.cls, implies_true, if_true, if_false, seval, -List.reduceReplicate, p154, r154]
 refine (ans_nwithin e _).mono ?_
 rintro _ M ⟨rfl, hM⟩
 subst hM
 by_cases he : within e
 ·simp -implicitDefEqProofs (disch := (first | omega | (simp only [lq14] <;> omega) | fail)) only [admQ, lq14, aFill, AK.cls, implies_true, if_true, if_false, seval, -List.reduceReplicate, dec_t he, Bool.not_true]
  refine (ans_nwithin n _).mono ?_
  rintro _ M ⟨rfl, hM⟩
  subst hM
  by_cases hn : within n
  ·obtain ⟨bs, v, bt, h1, h2, h3, h4, rfl, h6, h7⟩ := hN.ex
   simp -implicitDefEqProofs (disch := (first | omega | (simp only [lq14] <;> omega) | fail)) only [admQ, lq14, aFill, AK.cls, implies_true, if_true, if_false, seval, -List.reduceReplicate, dec_t hn, Bool.not_true, mapR, hh.b2s, hb.b2s]
   have k0 := Kept.app [] M [Blk.row [.int .i64 e, .int .i64 n, .str (strOf head), .str (strOf plain)] false]
   have o0 : own (M ++ [Blk.row [.int .i64 e, .int .i64 n, .str (strOf head), .str (strOf plain)] false]) M.length = some [.int .i64 e, .int .i64 n, .str (strOf head), .str (strOf plain)] := by rw [own_app_at0]; rfl
   generalize M ++ [Blk.row [.int .i64 e, .int .i64 n, .str (strOf head), .str (strOf plain)] false] = A at k0 o0
   have g1 := k0.own h1 (by simp)
   have g2 := h2.kept k0 (by simp)
   have g3 := h3.kept0 k0
   have g4 := h4.kept k0 (by simp)
   have lk : rLookup (.agg [.i, .i, .s, .s]) (.int .i64 0) true A [.map bs, .agg [.int .i64 e, .int .i64 n, .str (strOf head), .str (strOf plain)]] = some (lookR (fidx (e, n, head, plain) S)) := g2.look sd_key sd_fit (e, n, head, plain)
   have hMA := k0.len
   cases hf : fidx (e, n, head, plain) S with
   | some i =>
    rw [hf] at lk
    simp -implicitDefEqProofs (disch := (first | omega | (simp only [lq14] <;> omega) | fail)) only [admQ, lq14, aFill, AK.cls, implies_true, if_true, if_false, seval, -List.reduceReplicate, rowOf_own g1, rowOf_own o0, mapR, lk, lookR]
    have hin := List.mem_of_getElem? (fidx_some hf)
    have hpos : i + 1 = posN (e, n, head, plain) S := by simp [posN, hf]
    have hi := fidx_lt hf
    refine wp_join2 [4, 12] (fun _ : Unit => [(4, bx), (12, .int .i64 ((i + 1 : Nat) : Int))]) (fun _ M' => M' = A) rfl ?_ ?_
    ·simp -implicitDefEqProofs (disch := (first | omega | (simp only [lq14] <;> omega) | fail)) only [admQ, lq14, aFill, AK.cls, implies_true, if_true, if_false, seval, -List.reduceReplicate, c154_1, joins, Bool.not_true]
     exact ⟨(), trivial⟩
    ·rintro _ M' rfl
     exact nsealTail ⟨he, hn⟩ (hb.kept0 k0) hS hl.2 (k0.more (by simp)) (by rw [addN, if_pos hin]; exact hN.kept0 k0) (fun b hb => .inl hb) _ hpos (by omega)
   | none =>
    rw [hf] at lk
    simp -implicitDefEqProofs (disch := (first | omega | (simp only [lq14] <;> omega) | fail)) only [admQ, lq14, aFill, AK.cls, implies_true, if_true, if_false, seval, -List.reduceReplicate, rowOf_own g1, rowOf_own o0, mapR, lk, lookR]
    have hin := fidx_none.mp hf
    have hpos : S.length + 1 = posN (e, n, head, plain) S := by simp [posN, hf]
    refine wp_join2 [4, 12] (fun _ : Unit => [(4, bx), (12, .int .i64 ((S.length + 1 : Nat) : Int))]) (fun _ M' => ∃ W', Kept (x :: bs :: bt :: blkOf v) M M' ∧ RdB M' bx plain ∧ Nm M' x W' (S ++ [(e, n, head, plain)]) T ∧ ∀ b ∈ W', b ∈ x :: bs :: bt :: blkOf v ∨ M.length ≤ b) rfl ?_ ?_
    ·simp -implicitDefEqProofs (disch := (first | omega | (simp only [lq14] <;> omega) | fail)) only [admQ, lq14, aFill, AK.cls, implies_true, if_true, if_false, seval, -List.reduceReplicate, c154_1, joins, Bool.not_false, rowOf_own g1, rowOf_own o0]
     have hsl := sd_len S
     have hvM : M.length ∉ blkOf v := fun h => by have := hN.lt M.length (by simp [h]); omega
     have hvA : A.length ∉ blkOf v := fun h => by have := hN.lt A.length (by simp [h]); omega
     have hxM : x < M.length := hN.lt x (by simp)
     have kB := Kept.app [] A [Blk.row (sdC (e, n, head, plain)) false]
     have hBE : (A ++ [Blk.row (sdC (e, n, head, plain)) false])[A.length]? = some (.row (sdC (e, n, head, plain)) false) := by simp
     have hBl : (A ++ [Blk.row (sdC (e, n, head, plain)) false]).length = A.length + 1 := by simp
     obtain ⟨v2, m2, e2, gv2, kv2, av2, nv2⟩ := GrA.pushs5 (bytes := 48) (k := 1) (y := .sl A.length 0 1 1 0) (l2 := sdC (e, n, head, plain)) (g3.kept0 kB) (by omega) (elemsS_one A rfl) rfl rfl (by omega) (Nat.zero_le _)
     refine someW_eq e2 ?_
     generalize A ++ [Blk.row (sdC (e, n, head, plain)) false] = B at *
     have x1 := kv2.own (kB.own g1 (by simp)) h7
     have oM := kv2.own (kB.own o0 (by simp)) hvM
     have cE : m2[A.length]? = some (.row [.int .i64 e, .int .i64 n, .str (strOf head), .str (strOf plain)] false) := by rw [kv2.eq _ (by omega) hvA]; exact hBE
     have kM2 : Kept (x :: bs :: bt :: blkOf v) M m2 := (((k0.trans kB).more (by simp)).trans (kv2.more fun q hq _ => by simp [hq]))
     have hbsx : bs ≠ x := MapR.ne_own h2 h1
     have hbtx : bt ≠ x := MapR.ne_own h4 h1
     have hbsM : bs < M.length := h2.lt
     have hbtM : bt < M.length := h4.lt
     have hx2 := own_lt x1
     have hvbs : bs ∉ blkOf v := MapR.ne_gr h2 h3
     have hvbt : bt ∉ blkOf v := MapR.ne_gr h4 h3
     have hv2b : ∀ b ∈ blkOf v2, B.length ≤ b := nv2 (by omega)
     have hxv2 : x ∉ blkOf v2 := fun h => by have := hv2b x h; omega
     have hbsv2 : bs ∉ blkOf v2 := fun h => by have := hv2b bs h; omega
     have gb2 := (g2.kept kB (by simp)).kept kv2 hvbs
     have gt2 := (g4.kept kB (by simp)).kept kv2 hvbt
     have kX := Kept.set1 m2 x (.row [.map bs, v2, .map bt] false)
     have x3 := own_set hx2 [AV.map bs, v2, AV.map bt]
     have oM3 := own_set_ne' oM (show x ≠ M.length by omega) (.row [.map bs, v2, .map bt] false)
     have gv3 := gv2.kept kX (by simpa using fun b hb (h : b = x) => hxv2 (h ▸ hb))
     have gb3 := gb2.kept kX (by simpa using hbsx)
     have gt3 := gt2.kept kX (by simpa using hbtx)
     have cE3 : (m2.set x (.row [.map bs, v2, .map bt] false))[A.length]? = some (.row [.int .i64 e, .int .i64 n, .str (strOf head), .str (strOf plain)] false) := by rw [List.getElem?_set_ne (by omega)]; exact cE
     have kM3 := kM2.trans (kX.more fun q hq _ => by simp at hq; simp [hq])
     simp -implicitDefEqProofs (disch := (first | omega | (simp only [lq14] <;> omega) | fail)) only [admQ, lq14, aFill, AK.cls, implies_true, if_true, if_false, seval, -List.reduceReplicate, rowOf_own x1, rowOf_own oM, x1, cE, (gr_one gv2).1, (gr_one gv2).2, rowOf_own x3, rowOf_own oM3, x3, cE3]
     obtain ⟨bv, nn, rfl, hn0, hnl, hbv, _⟩ := gv3.sl (by intro h0; have := congrArg List.length h0; simp [sdC] at this)
     have hnn : nn = S.length + 1 := by
      rw [List.length_append, hsl] at hnl
      simp only [sdC, List.length_cons, List.length_nil] at hnl
      omega
     subst hnn
     generalize m2.set x (.row [.map bs, .sl bv 0 (S.length + 1) (S.length + 1) 4, .map bt] false) = m3 at *
     obtain ⟨m4, eM, mr4, k4⟩ := gb3.add sd_key sd_fit hin
     have eM' : aMapSet (.agg [.i, .i, .s, .s]) m3 [.map bs, .agg [.int .i64 e, .int .i64 n, .str (strOf head), .str (strOf plain)], .int .i64 ((S.length + 1 : Nat) : Int)] = some (.tup [], m4) := eM
     have x4 := k4.own x3 (by simpa using hbsx.symm)
     have oM4 := k4.own oM3 (by simp; omega)
     simp -implicitDefEqProofs (disch := (first | omega | (simp only [lq14] <;> omega) | fail)) only [admQ, lq14, aFill, AK.cls, implies_true, if_true, if_false, seval, -List.reduceReplicate, rowOf_own x3, rowOf_own oM3, mapR, eM', rowOf_own x4, rowOf_own oM4, joins]
     have kM4 := kM3.trans (k4.more fun q hq _ => by simp at hq; simp [hq])
     refine ⟨(), x :: bs :: bt :: blkOf (.sl bv 0 (S.length + 1) (S.length + 1) 4), kM4, hb.kept kM4 (fun b o n cap s h => hd b (by rw [h]; simp [blkOf])), ⟨bs, _, bt, x4, mr4, ?_, gt3.kept k4 (by simpa using h6.symm), rfl, h6, hxv2⟩, fun b hb => ?_⟩
     ·rw [List.flatMap_append, List.flatMap_singleton]
      exact gv3.kept k4 (by simpa using fun b hb (h : b = bs) => hbsv2 (h ▸ hb))
     ·simp only [List.mem_cons] at hb ⊢
      rcases hb with rfl | rfl | rfl | hb
      ·exact .inl (.inl rfl)
      ·exact .inl (.inr (.inl rfl))
      ·exact .inl (.inr (.inr (.inl rfl)))
      ·have := hv2b b hb; exact .inr (by omega)
    ·rintro _ M' ⟨W', hk, hb', hN', hW⟩
     exact nsealTail ⟨he, hn⟩ hb' hS hl.2 hk (by rw [addN, if_neg hin]; exact hN') hW _ hpos (by omega)
  ·simp -implicitDefEqProofs (disch := (first | omega | (simp only [lq14] <;> omega) | fail)) only [admQ, lq14, aFill, AK.cls, implies_true, if_true, if_false, seval, -List.reduceReplicate, dec_f hn, Bool.not_false]
   exact ⟨fun h => absurd h.2 hn, fun _ => by first | exact ⟨rfl, .refl _ _⟩ | exact .refl _ _⟩
 ·simp -implicitDefEqProofs (disch := (first | omega | (simp only [lq14] <;> omega) | fail)) only [admQ, lq14, aFill, AK.cls, implies_true, if_true, if_false, seval, -List.reduceReplicate, dec_f he, Bool.not_false]
  exact ⟨fun h => absurd h.1 he, fun _ => by first | exact ⟨rfl, .refl _ _⟩ | exact .refl _ _⟩
def nopenP (S : List Sd) (e n : Int) (head b : List B8) : Prop :=
 32 ≤ b.length ∧ ∃ i, fidx (e, n, head, b.take (b.length - 32)) S = some i ∧ b.drop (b.length - 32) = zeros 24 ++ numB (i + 1)
theorem ans_nopen {m : Mem} {x : Nat} {W : List Nat} {S : List Sd} {T : List (List B8)} {hx bx : AV} {e n : Int} {head b : List B8} (hN : Nm m x W S T) (hh : RdB m hx head) (hb : RdB m bx b) (hS : S.length ≤ 1000) (hl : head.length ≤ 100000 ∧ b.length ≤ 100000) :
  Ans Tryz.prog 153 [.ptr x 0, .int .i64 e, .int .i64 n, hx, bx] m fun r m' => Kept [] m m' ∧
   (nopenP S e n head b → ∃ v, r = .tup [v, .bool true] ∧ GrB m.length m' v (b.take (b.length - 32)) ∧ ∀ q ∈ blkOf v, m.length ≤ q) ∧ (¬ nopenP S e n head b → r = .tup [.nils, .bool false]) := by
 refine ans_ret mixed ok153 ?_
 by_cases h32 : b.length < 32
 ·have hno : ¬ nopenP S e n head b := fun h => by have := h.1; omega
  simp -implicitDefEqProofs (disch := (first | omega | (simp only [lq14] <;> omega) | fail)) only [admQ, lq14, aFill, AK.cls, implies_true, if_true, if_false, seval, -List.reduceReplicate, c153, r153, hb.len]
  exact ⟨.refl _ _, fun h => absurd h hno⟩
 ·obtain ⟨q, o, cap, sl, cc, rfl, hrow, hat, hlen, hcap, hsl, htk⟩ := hb.cons (i := 0) (by omega)
  obtain ⟨bs, v, bt, h1, h2, h3, h4, rfl, h6, h7⟩ := hN.ex
  have hpl := hb.take (k := b.length - 32) (by omega)
  have htg := hb.drop (k := b.length - 32) (by omega)
  have hp8 : (b.take (b.length - 32)).length = b.length - 32 := by simp
  have ht8 : (b.drop (b.length - 32)).length = 32 := by simp; omega
  have lk : rLookup (.agg [.i, .i, .s, .s]) (.int .i64 0) true m [.map bs, .agg [.int .i64 e, .int .i64 n, .str (strOf head), .str (strOf (b.take (b.length - 32)))]] = some (lookR (fidx (e, n, head, b.take (b.length - 32)) S)) := h2.look sd_key sd_fit (e, n, head, b.take (b.length - 32))
  cases hf : fidx (e, n, head, b.take (b.length - 32)) S with
  | none =>
   rw [hf] at lk
   have hno : ¬ nopenP S e n head b := fun h => by obtain ⟨_, i, hi, _⟩ := h; rw [hf] at hi; cases hi
   simp -implicitDefEqProofs (disch := (first | omega | (simp only [lq14] <;> omega) | fail)) only [admQ, lq14, aFill, AK.cls, implies_true, if_true, if_false, seval, -List.reduceReplicate, c153, r153, rowOf_own h1, mapR, hh.b2s, hpl.b2s, lk, lookR, Bool.not_false]
   exact ⟨.refl _ _, fun h => absurd h hno⟩
  | some i =>
   rw [hf] at lk
   have hi := fidx_lt hf
   simp -implicitDefEqProofs (disch := (first | omega | (simp only [lq14] <;> omega) | fail)) only [admQ, lq14, aFill, AK.cls, implies_true, if_true, if_false, seval, -List.reduceReplicate, c153, r153, rowOf_own h1, mapR, hh.b2s, hpl.b2s, lk, lookR, Bool.not_true]
   have hr : rep 24 [AV.int .u8 0] = bys (zeros 24) := rfl
   simp -implicitDefEqProofs (disch := (first | omega | (simp only [lq14] <;> omega) | fail)) only [admQ, lq14, aFill, AK.cls, implies_true, if_true, if_false, seval, -List.reduceReplicate, hr]
   refine (ans_nnumber (i + 1) (by omega) _).mono ?_
   rintro _ m1 ⟨p, rfl, k1, hp1, op⟩
   have oZ : own (m ++ [Blk.row (bys (zeros 24)) false]) m.length = some (bys (zeros 24)) := by rw [own_app_at0]; rfl
   have kA := Kept.app [] m [Blk.row (bys (zeros 24)) false]
   have hAl : (m ++ [Blk.row (bys (zeros 24)) false]).length = m.length + 1 := by simp
   have hEq : (m ++ [Blk.row (bys (zeros 24)) false])[m.length]? = some (.row (bys (zeros 24)) false) := by simp
   generalize m ++ [Blk.row (bys (zeros 24)) false] = A at *
   have hE : m1[m.length]? = some (.row (bys (zeros 24)) false) := by rw [k1.eq _ (by omega) (by simp)]; exact hEq
   simp -implicitDefEqProofs (disch := (first | omega | (simp only [lq14] <;> omega) | fail)) only [admQ, lq14, aFill, AK.cls, implies_true, if_true, if_false, seval, -List.reduceReplicate, hE]
   have oZ1 := k1.own oZ (by simp)
   have K1 := kA.trans k1
   have rl : RdL (m1 ++ [Blk.row [.sl m.length 0 24 24 0, .sl p 0 8 8 0] false]) [.sl m.length 0 24 24 0, .sl p 0 8 8 0] [zeros 24, numB (i + 1)] :=
    .cons (RdB.row (l := zeros 24) 24 0 (rowOf_own (own_app oZ1 _)) (by simp [zeros])) (.cons (RdB.row (l := numB (i + 1)) 8 0 (rowOf_own (own_app op _)) (by rw [numB_len]; omega)) (.nil _))
   have hfl : [zeros 24, numB (i + 1)].flatten = zeros 24 ++ numB (i + 1) := by simp
   have K2 := K1.more_app [Blk.row [.sl m.length 0 24 24 0, .sl p 0 8 8 0] false]
   have rB : rowOf (m1 ++ [Blk.row [.sl m.length 0 24 24 0, .sl p 0 8 8 0] false]) m1.length = some [.sl m.length 0 24 24 0, .sl p 0 8 8 0] := by rw [rowOf_app_at0]; rfl
   have hE2 : (m1 ++ [Blk.row [.sl m.length 0 24 24 0, .sl p 0 8 8 0] false])[m.length]? = some (.row (bys (zeros 24)) false) := by rw [List.getElem?_append_left (by have := k1.len; omega)]; exact hE
   have hB2 : (m1 ++ [Blk.row [.sl m.length 0 24 24 0, .sl p 0 8 8 0] false])[m1.length]? = some (.row [.sl m.length 0 24 24 0, .sl p 0 8 8 0] false) := by simp
   have hCl : (m1 ++ [Blk.row [.sl m.length 0 24 24 0, .sl p 0 8 8 0] false]).length = m1.length + 1 := by simp
   have hm1 := K1.len
   generalize m1 ++ [Blk.row [.sl m.length 0 24 24 0, .sl p 0 8 8 0] false] = C at *
   refine (ans_slconcat (k := 2) rB rl rfl ⟨by omega, by simp [zeros, numB_len]⟩).mono ?_
   rintro r m3 ⟨k3, g3⟩
   rw [hfl] at g3
   have hE3 : m3[m.length]? = some (.row (bys (zeros 24)) false) := by rw [k3.eq _ (by omega) (by simp)]; exact hE2
   have hB3 : m3[m1.length]? = some (.row [.sl m.length 0 24 24 0, .sl p 0 8 8 0] false) := by rw [k3.eq _ (by omega) (by simp)]; exact hB2
   have K3 := K2.trans k3
   simp -implicitDefEqProofs (disch := (first | omega | (simp only [lq14] <;> omega) | fail)) only [admQ, lq14, aFill, AK.cls, implies_true, if_true, if_false, seval, -List.reduceReplicate, hE3, hB3]
   refine (ans_slequal (htg.kept0 K3) g3.rd (by omega)).mono ?_
   rintro _ M ⟨rfl, hM⟩
   subst hM
   by_cases hq : b.drop (b.length - 32) = zeros 24 ++ numB (i + 1)
   ·have hyes : nopenP S e n head b := ⟨by omega, i, hf, hq⟩
    simp -implicitDefEqProofs (disch := (first | omega | (simp only [lq14] <;> omega) | fail)) only [admQ, lq14, aFill, AK.cls, implies_true, if_true, if_false, seval, -List.reduceReplicate, beq_iff_eq.mpr hq, Bool.not_true, hE3, hB3]
    refine (ans_slclone (hpl.kept0 K3) (by omega)).mono ?_
    rintro v m4 ⟨k4, g4, hb4⟩
    simp -implicitDefEqProofs (disch := (first | omega | (simp only [lq14] <;> omega) | fail)) only [admQ, lq14, aFill, AK.cls, implies_true, if_true, if_false, seval, -List.reduceReplicate]
    have := K3.len
    exact ⟨K3.trans k4, fun _ => ⟨v, rfl, g4.low this, fun q hq => Nat.le_trans this (hb4 q hq)⟩, fun h => absurd hyes h⟩
   ·have hno : ¬ nopenP S e n head b := fun h => by
     obtain ⟨_, j, hj, hq'⟩ := h
     rw [hf] at hj; cases hj
     exact hq hq'
    simp -implicitDefEqProofs (disch := (first | omega | (simp only [lq14] <;> omega) | fail)) only [admQ, lq14, aFill, AK.cls, implies_true, if_true, if_false, seval, -List.reduceReplicate, beq_eq_false_iff_ne.mpr hq, Bool.not_false, hE3, hB3]
    exact ⟨K3, fun h => absurd h hno⟩
def nsumB (T : List (List B8)) (b : List B8) : List B8 := List.replicate 24 1#8 ++ numB (posN b T)
theorem nsumB_len (T : List (List B8)) (b : List B8) : (nsumB T b).length = 32 := by simp [nsumB, numB_len]
theorem nsumTail {m M : Mem} {x : Nat} {W : List Nat} {S : List Sd} {T : List (List B8)} {b : List B8} (hT : T.length ≤ 100000) (k : Nat) (hk1 : k = posN b T) (hk2 : k ≤ 100001)
  (hk : Kept W m M) (hN : Nm M x W S (addN b T)) (hz : own M m.length = some (bys (List.replicate 32 0#8))) (hW : m.length ∉ W) :
  wpA Tryz.prog c155_2 [(4, .ptr m.length 0), (5, .int .i64 (k : Int))] M (retQ [.cell 4 true 32] fun r m' => r = .agg (bys (nsumB T b)) ∧ Kept W m m' ∧ Nm m' x W S (addN b T)) := by
 simp -implicitDefEqProofs (disch := (first | omega | (simp only [lq14] <;> omega) | fail)) only [admQ, lq14, aFill, AK.cls, implies_true, if_true, if_false, seval, -List.reduceReplicate, c155_2]
 have hzl := own_lt hz
 have hr : bys (List.replicate 32 0#8) = bys (upTo 32 (fun _ => 1#8) (fun _ => 0#8) 0) := by rw [upTo_zero, tab_const]
 rw [hr]
 refine LoopW.on (fun i : Nat => [(4, .ptr m.length 0), (5, .int .i64 (k : Int)), (7, .ptr M.length 0), (34, .int .i64 i)]) (fun i => 32 - i)
  (fun i N => i ≤ 32 ∧ N = M ++ [.row (bys (upTo 32 (fun _ => 1#8) (fun _ => 0#8) i)) false]) ?_ 0 _ _ rfl ⟨by omega, rfl⟩
 rintro i N X ⟨hi, rfl⟩ hX
 by_cases hlt : i < 32
 ·have hu := upTo_set (n := 32) (i := i) (f := fun _ => 1#8) (g := fun _ => 0#8)
  have hsp : splice (bys (upTo 32 (fun _ => 1#8) (fun _ => 0#8) i)) i [.int .u8 1] = bys (upTo 32 (fun _ => 1#8) (fun _ => 0#8) (i + 1)) := (splice_byte (l := upTo 32 (fun _ => 1#8) (fun _ => 0#8) i) (i := i) (x := 1#8) (by rw [upTo_len]; exact hlt)).trans (congrArg bys hu)
  simp -implicitDefEqProofs (disch := (first | omega | (simp only [lq14] <;> omega) | fail)) only [admQ, lq14, aFill, AK.cls, implies_true, if_true, if_false, seval, -List.reduceReplicate, hsp]
  exact hX (i + 1) _ _ rfl (by omega) ⟨by omega, rfl⟩
 ·obtain rfl : i = 32 := by omega
  rw [upTo_all]
  simp -implicitDefEqProofs (disch := (first | omega | (simp only [lq14] <;> omega) | fail)) only [admQ, lq14, aFill, AK.cls, implies_true, if_true, if_false, seval, -List.reduceReplicate]
  clear hX X hr
  refine (ans_nnumber k (by omega) _).mono ?_
  rintro _ m1 ⟨p, rfl, k1, hp1, op⟩
  have oS := k1.own (show own (M ++ [Blk.row (bys (tab 32 fun _ => 1#8)) false]) M.length = some _ by rw [own_app_at0]; rfl) (by simp)
  have kA := Kept.app [] M [Blk.row (bys (tab 32 fun _ => 1#8)) false]
  have oZ1 := (kA.trans k1).own hz (by simp)
  have hcp := copy_row (o := 24) (ld := 8) (cap := 8) (s := 0) (.row (l := numB k) 8 0 (rowOf_own op) (by rw [numB_len]; omega)) oS (by simp [tab_len]) (by rw [numB_len]; omega)
  rw [numB_len] at hcp
  have hsp : splice (bys (tab 32 fun _ => 1#8)) 24 (bys (numB k)) = bys (nsumB T b) := by
   rw [nsumB, ← hk1, tab_const, splice]
   simp only [bys, List.map_replicate, List.map_append, List.length_map, numB_len, List.take_replicate, List.drop_replicate]
   simp
  rw [hsp] at hcp
  have hnl := nsumB_len T b
  have hMm := hk.len
  have hm1 := (kA.trans k1).len
  have oS2 := own_set (own_lt oS) (bys (nsumB T b))
  have oZ2 := own_set_ne' oZ1 (show M.length ≠ m.length by omega) (.row (bys (nsumB T b)) false)
  simp -implicitDefEqProofs (disch := (first | omega | (simp only [lq14] <;> omega) | fail)) only [admQ, lq14, aFill, AK.cls, implies_true, if_true, if_false, seval, -List.reduceReplicate, hcp, rowOf_own oS2, oS2, oZ2, own_set (own_lt oZ2), rowOf_own (own_set (own_lt oZ2) _)]
  have K1 := (hk.trans ((kA.trans k1).more (by simp)))
  have hNk : Nm m1 x W S (addN b T) := hN.kept0 (kA.trans k1)
  refine ⟨(K1.write (.inr (by omega)) _).write (.inr (Nat.le_refl _)) _, (hNk.kept (.set1 m1 M.length _) fun q hq => ?_).kept (.set1 _ m.length _) fun q hq => ?_⟩
  ·have := hN.lt q hq; simp; omega
  ·simp; rintro rfl; exact hW hq
theorem ans_nsum {m : Mem} {x : Nat} {W : List Nat} {S : List Sd} {T : List (List B8)} {bx : AV} {b : List B8} (hN : Nm m x W S T) (hb : RdB m bx b) (hd : ∀ q ∈ blkOf bx, q ∉ W) (hT : T.length ≤ 100000) (hl : b.length ≤ 100000) :
  Ans Tryz.prog 155 [.ptr x 0, bx] m fun r m' => r = .agg (bys (nsumB T b)) ∧ Kept W m m' ∧ Nm m' x W S (addN b T) := by
 refine ans_ret mixed ok155 ?_
 obtain ⟨bs, v, bt, h1, h2, h3, h4, rfl, h6, h7⟩ := hN.ex
 simp -implicitDefEqProofs (disch := (first | omega | (simp only [lq14] <;> omega) | fail)) only [admQ, lq14, aFill, AK.cls, implies_true, if_true, if_false, seval, -List.reduceReplicate, p155, r155]
 have k0 := Kept.app [] m [Blk.row (bys (List.replicate 32 0#8)) false]
 have o0 : own (m ++ [Blk.row (bys (List.replicate 32 0#8)) false]) m.length = some (bys (List.replicate 32 0#8)) := by rw [own_app_at0]; rfl
 generalize m ++ [Blk.row (bys (List.replicate 32 0#8)) false] = A at k0 o0
 have g1 := k0.own h1 (by simp)
 have g4 := h4.kept k0 (by simp)
 have lk : rLookup (.one .s) (.int .i64 0) true A [.map bt, .str (strOf b)] = some (lookR (fidx b T)) := g4.look tx_key tx_fit b
 have hW : m.length ∉ x :: bs :: bt :: blkOf v := fun h => by have := hN.lt _ h; omega
 have hb0 := hb.kept0 k0
 cases hf : fidx b T with
 | some i =>
  rw [hf] at lk
  have hin := List.mem_of_getElem? (fidx_some hf)
  have hpos : i + 1 = posN b T := by simp [posN, hf]
  have hi := fidx_lt hf
  simp -implicitDefEqProofs (disch := (first | omega | (simp only [lq14] <;> omega) | fail)) only [admQ, lq14, aFill, AK.cls, implies_true, if_true, if_false, seval, -List.reduceReplicate, rowOf_own g1, mapR, hb0.b2s, lk, lookR]
  refine wp_join2 [4, 5] (fun _ : Unit => [(4, .ptr m.length 0), (5, .int .i64 ((i + 1 : Nat) : Int))]) (fun _ M' => M' = A) rfl ?_ ?_
  ·simp -implicitDefEqProofs (disch := (first | omega | (simp only [lq14] <;> omega) | fail)) only [admQ, lq14, aFill, AK.cls, implies_true, if_true, if_false, seval, -List.reduceReplicate, c155_1, joins, Bool.not_true]
   exact ⟨(), trivial⟩
  ·rintro _ M' rfl
   exact nsumTail hT _ hpos (by omega) (k0.more (by simp)) (by rw [addN, if_pos hin]; exact hN.kept0 k0) o0 hW
 | none =>
  rw [hf] at lk
  have hin := fidx_none.mp hf
  have hpos : T.length + 1 = posN b T := by simp [posN, hf]
  simp -implicitDefEqProofs (disch := (first | omega | (simp only [lq14] <;> omega) | fail)) only [admQ, lq14, aFill, AK.cls, implies_true, if_true, if_false, seval, -List.reduceReplicate, rowOf_own g1, mapR, hb0.b2s, lk, lookR]
  refine wp_join2 [4, 5] (fun _ : Unit => [(4, .ptr m.length 0), (5, .int .i64 ((T.length + 1 : Nat) : Int))]) (fun _ M' => Kept (x :: bs :: bt :: blkOf v) m M' ∧ own M' m.length = some (bys (List.replicate 32 0#8)) ∧ Nm M' x (x :: bs :: bt :: blkOf v) S (T ++ [b])) rfl ?_ ?_
  ·obtain ⟨m4, eM, mr4, k4⟩ := g4.add tx_key tx_fit hin
   have eM' : aMapSet (.one .s) A [.map bt, .str (strOf b), .int .i64 ((T.length + 1 : Nat) : Int)] = some (.tup [], m4) := eM
   have hbtx : bt ≠ x := MapR.ne_own h4 h1
   have x4 := k4.own g1 (by simpa using hbtx.symm)
   simp -implicitDefEqProofs (disch := (first | omega | (simp only [lq14] <;> omega) | fail)) only [admQ, lq14, aFill, AK.cls, implies_true, if_true, if_false, seval, -List.reduceReplicate, c155_1, joins, Bool.not_false, rowOf_own g1, mapR, g4.len, hb0.b2s, eM']
   have hbs : bs ≠ bt := h6
   refine ⟨(), (k0.more (by simp)).trans (k4.more fun q hq _ => by simp at hq; simp [hq]), k4.own o0 (by have := h4.lt; simp; omega), ⟨bs, v, bt, x4, (h2.kept k0 (by simp)).kept k4 (by simpa using h6), (h3.kept0 k0).kept k4 (by have := MapR.ne_gr h4 h3; simpa using fun b hb (h : b = bt) => this (h ▸ hb)), mr4, rfl, h6, h7⟩⟩
  ·rintro _ M' ⟨hk, hz, hN'⟩
   exact nsumTail hT _ hpos (by omega) hk (by rw [addN, if_neg hin]; exact hN') hz hW
end Go.Proofs.YtoegmnnecanhfaaGreatDoor
end
section
namespace Go.Proofs.YtoegmnnecanhfaaGreatDoor
open Go Go.Adm
set_option linter.unusedSimpArgs false
set_option linter.unusedVariables false
set_option maxRecDepth 100000
def mayP (s : Sd) : Prop := within s.1 ∧ within s.2.1
instance (s : Sd) : Decidable (mayP s) := by unfold mayP; infer_instance
theorem nsealB_len (S : List Sd) (s : Sd) : (nsealB S s).length = s.2.2.2.length + 32 := by simp [nsealB, zeros, numB_len]
theorem nopenP_seal {S : List Sd} {e n : Int} {head plain : List B8} (S' : List Sd) (h : fidx (e, n, head, plain) S' = some (posN (e, n, head, plain) S - 1)) : nopenP S' e n head (nsealB S (e, n, head, plain)) ∧ (nsealB S (e, n, head, plain)).take ((nsealB S (e, n, head, plain)).length - 32) = plain := by
 have hl := nsealB_len S (e, n, head, plain)
 simp only at hl
 have e0 : (nsealB S (e, n, head, plain)).length - 32 = plain.length := by omega
 have e1 : (nsealB S (e, n, head, plain)).take plain.length = plain := by simp [nsealB]
 have e2 : (nsealB S (e, n, head, plain)).drop plain.length = zeros 24 ++ numB (posN (e, n, head, plain) S) := by simp [nsealB]
 rw [nopenP, e0, e1]
 refine ⟨⟨by omega, _, h, ?_⟩, rfl⟩
 rw [e2]; rfl
end Go.Proofs.YtoegmnnecanhfaaGreatDoor
end
section
namespace Go.Proofs.YtoegmnnecanhfaaGreatDoor
open Go Go.Adm
set_option linter.unusedSimpArgs false
set_option linter.unusedVariables false
set_option maxRecDepth 100000
theorem fidx_addself {α : Type} [DecidableEq α] (a : α) (T : List α) : fidx a (addN a T) = some (posN a T - 1) := by
 unfold addN posN
 by_cases h : a ∈ T
 ·rw [if_pos h]
  cases hf : fidx a T with
  | none => exact absurd h (fidx_none.mp hf)
  | some i => simp
 ·rw [if_neg h, fidx_new h, fidx_none.mpr h]; simp
theorem addN_len {α : Type} [DecidableEq α] (a : α) (T : List α) : (addN a T).length ≤ T.length + 1 := by
 unfold addN; split <;> simp
theorem posN_le {α : Type} [DecidableEq α] (a : α) (T : List α) : 1 ≤ posN a T ∧ posN a T ≤ T.length + 1 := by
 unfold posN
 cases hf : fidx a T with
 | none => simp
 | some i => have := fidx_lt hf; simp; omega
theorem addN_in {α : Type} [DecidableEq α] {a : α} {T : List α} {n : Nat} (h : fidx a T = some n) : addN a T = T ∧ posN a T = n + 1 :=
 ⟨if_pos (List.mem_of_getElem? (fidx_some h)), by simp [posN, h]⟩
end Go.Proofs.YtoegmnnecanhfaaGreatDoor
end
section
namespace Go.Proofs.YtoegmnnecanhfaaGreatDoor
open Go Go.Adm
set_option linter.unusedSimpArgs false
set_option linter.unusedVariables false
set_option maxRecDepth 100000
def sealS2 (S : List Sd) (s : Sd) : List Sd := if mayP s then addN s S else S
def sealR (S : List Sd) (s : Sd) : List B8 := if mayP s then nsealB S s else []
theorem sealS2_len (S : List Sd) (s : Sd) : (sealS2 S s).length ≤ S.length + 1 := by
 unfold sealS2; split
 ·exact addN_len s S
 ·omega
theorem sealR_len (S : List Sd) (s : Sd) : (sealR S s).length ≤ s.2.2.2.length + 32 := by
 unfold sealR; split
 ·rw [nsealB_len]; omega
 ·simp
def Ap (B W : List Nat) : Prop := ∀ b ∈ B, b ∉ W
theorem ans_nseal2 {m : Mem} {x : Nat} {W : List Nat} {S : List Sd} {T : List (List B8)} {hx bx : AV} {s : Sd} (hN : Nm m x W S T) (hh : RdB m hx s.2.2.1) (hb : RdB m bx s.2.2.2)
  (hd : Ap (blkOf bx) W) (hS : S.length ≤ 1000) (hl : s.2.2.1.length ≤ 100000 ∧ s.2.2.2.length ≤ 100000) :
  Ans Tryz.prog 154 [.ptr x 0, .int .i64 s.1, .int .i64 s.2.1, hx, bx] m fun r m' => ∃ W', Kept W m m' ∧ Nm m' x W' (sealS2 S s) T ∧ (∀ b ∈ W', b ∈ W ∨ m.length ≤ b) ∧ GrB m.length m' r (sealR S s) ∧ Ap (blkOf r) W' ∧ ∀ b ∈ blkOf r, m.length ≤ b ∧ b < m'.length := by
 obtain ⟨e, n, head, plain⟩ := s
 refine (ans_nseal hN hh hb hd hS hl).mono fun r m' ⟨h1, h2⟩ => ?_
 by_cases hp : mayP (e, n, head, plain)
 ·obtain ⟨W', k, hN', hW, g, d⟩ := h1 hp
  refine ⟨W', k, by rw [sealS2, if_pos hp]; exact hN', hW, by rw [sealR, if_pos hp]; exact g, d, fun b hb => ⟨?_, g.lt b hb⟩⟩
  exact GrA.blk g (by intro h0; have := congrArg List.length h0; rw [List.length_map, nsealB_len] at this; simp at this) b hb
 ·obtain ⟨rfl, k⟩ := h2 hp
  exact ⟨W, k.more (by simp), by rw [sealS2, if_neg hp]; exact hN.kept0 k, fun b hb => .inl hb, by rw [sealR, if_neg hp]; exact .nils .., by simp [Ap, blkOf], by simp [blkOf]⟩
end Go.Proofs.YtoegmnnecanhfaaGreatDoor
end
section
namespace Go.Proofs.YtoegmnnecanhfaaGreatDoor
open Go Go.Adm
set_option linter.unusedSimpArgs false
set_option linter.unusedVariables false
set_option maxRecDepth 100000
end Go.Proofs.YtoegmnnecanhfaaGreatDoor
end
section
namespace Go.Proofs.YtoegmnnecanhfaaGreatDoor
open Go Go.Adm
set_option linter.unusedSimpArgs false
set_option linter.unusedVariables false
def beN (l : List B8) : Nat := l.foldl (fun a b => a * 256 + b.toNat) 0
theorem beN_snoc (l : List B8) (b : B8) : beN (l ++ [b]) = beN l * 256 + b.toNat := by simp [beN]
theorem snoc_of {l : List B8} {n : Nat} (h : l.length = n + 1) : ∃ l' b, l = l' ++ [b] ∧ l'.length = n := by
 have h0 : l ≠ [] := by rintro rfl; simp at h
 exact ⟨l.dropLast, l.getLast h0, (List.dropLast_concat_getLast h0).symm, by rw [List.length_dropLast]; omega⟩
theorem beN_lt : ∀ (n : Nat) (l : List B8), l.length = n → beN l < 256 ^ n := by
 intro n
 induction n with
 | zero => intro l h; rw [List.length_eq_zero_iff.mp h]; simp [beN]
 | succ n ih =>
  intro l h
  obtain ⟨l, b, rfl, h'⟩ := snoc_of h
  rw [beN_snoc]
  have := ih l h'
  have hb := b.isLt
  rw [Nat.pow_succ]
  omega
theorem byV_next (v k : Nat) : byV v (k + 1) = byV (v >>> 8) k := by
 unfold byV
 rw [← Nat.shiftRight_add]
 congr 2
 omega
theorem byV_zero (v : Nat) : (byV v 0).toNat = v % 256 := by simp [byV]
theorem lowB_succ (v n : Nat) : lowB v (n + 1) = lowB (v >>> 8) n ++ [byV v 0] := by
 rw [lowB, tab_succ]
 congr 1
 ·refine tab_ext fun i hi => ?_
  rw [show n + 1 - 1 - i = (n - 1 - i) + 1 by omega, byV_next]
 ·rw [show n + 1 - 1 - n = 0 by omega]
theorem beN_lowB : ∀ (n v : Nat), beN (lowB v n) = v % 256 ^ n := by
 intro n
 induction n with
 | zero => intro v; simp [lowB, tab, beN, Nat.mod_one]
 | succ n ih =>
  intro v
  have e : v >>> 8 = v / 256 := Nat.shiftRight_eq_div_pow v 8
  rw [lowB_succ, beN_snoc, ih, byV_zero, e, Nat.pow_succ, Nat.mul_comm (256 ^ n), Nat.mod_mul]
  omega
theorem beN_numB {v : Nat} (h : v < 18446744073709551616) : beN (numB v) = v := by
 rw [numB, beN_lowB]
 exact Nat.mod_eq_of_lt h
def intB (l : List B8) : Int := IntKind.i64.wrap (beN l : Int)
end Go.Proofs.YtoegmnnecanhfaaGreatDoor
end
section
namespace Go.Proofs.YtoegmnnecanhfaaGreatDoor
open Go Go.Adm
set_option linter.unusedSimpArgs false
set_option linter.unusedVariables false
set_option maxRecDepth 100000
def OwB (m0 : Nat) (m : Mem) (x : AV) (l : List B8) : Prop := ∃ p, x = .sl p 0 l.length l.length 0 ∧ own m p = some (bys l) ∧ m0 ≤ p
theorem OwB.rd {m0 : Nat} {m : Mem} {x : AV} {l : List B8} (h : OwB m0 m x l) : RdB m x l := by
 obtain ⟨p, rfl, ho, _⟩ := h
 exact RdB.row l.length 0 (rowOf_own ho) (Nat.le_refl _)
theorem OwB.kept {m0 : Nat} {m m' : Mem} {x : AV} {l : List B8} {X : List Nat} (h : OwB m0 m x l) (hk : Kept X m m') (hX : ∀ b ∈ blkOf x, b ∉ X) : OwB m0 m' x l := by
 obtain ⟨p, rfl, ho, h3⟩ := h
 exact ⟨p, rfl, hk.own ho (hX p (by simp [blkOf])), h3⟩
theorem OwB.kept0 {m0 : Nat} {m m' : Mem} {x : AV} {l : List B8} (h : OwB m0 m x l) (hk : Kept [] m m') : OwB m0 m' x l := h.kept hk (by simp)
theorem OwB.low {m0 : Nat} {m : Mem} {x : AV} {l : List B8} (h : OwB m0 m x l) : ∀ b ∈ blkOf x, m0 ≤ b := by
 obtain ⟨p, rfl, _, h⟩ := h
 simpa [blkOf] using h
def SPb (m0 : Nat) (m : Mem) (x : AV) (l : List B8) : Prop := (x = .nils ∧ l = []) ∨ ∃ b cap s, x = .sl b 0 l.length cap s ∧ own m b = some (bys l) ∧ m0 ≤ b ∧ l.length ≤ cap ∧ (s = 0 ∨ s = 1)
theorem SPb.rd {m0 : Nat} {m : Mem} {x : AV} {l : List B8} (h : SPb m0 m x l) : RdB m x l := by
 rcases h with ⟨rfl, rfl⟩ | ⟨b, cap, s, rfl, ho, _, hc, hs⟩
 ·exact .nils _
 ·exact .row cap s (rowOf_own ho) hc hs
theorem SPb.kept {m0 : Nat} {m m' : Mem} {x : AV} {l : List B8} {X : List Nat} (h : SPb m0 m x l) (hk : Kept X m m') (hX : ∀ b ∈ blkOf x, b ∉ X) : SPb m0 m' x l := by
 rcases h with h | ⟨b, cap, s, rfl, ho, h3, h4⟩
 ·exact .inl h
 ·exact .inr ⟨b, cap, s, rfl, hk.own ho (hX b (by simp [blkOf])), h3, h4⟩
theorem SPb.low {m0 : Nat} {m : Mem} {x : AV} {l : List B8} (h : SPb m0 m x l) : ∀ b ∈ blkOf x, m0 ≤ b := by
 rcases h with ⟨rfl, _⟩ | ⟨b, cap, s, rfl, ho, h3, h4⟩
 ·simp [blkOf]
 ·simp only [blkOf, List.mem_singleton]; rintro b rfl; exact h3
theorem SPb.weak {m0 m1 : Nat} {m : Mem} {x : AV} {l : List B8} (h : SPb m0 m x l) (hm : m1 ≤ m0) : SPb m1 m x l := by
 rcases h with h | ⟨b, cap, s, h1, h2, h3, h4⟩
 ·exact .inl h
 ·exact .inr ⟨b, cap, s, h1, h2, Nat.le_trans hm h3, h4⟩
theorem SPb.gr {m0 m1 : Nat} {m : Mem} {x : AV} {l : List B8} (g : GrB m0 m x l) (h : ∀ q ∈ blkOf x, m1 ≤ q) : SPb m1 m x l := by
 rcases g with ⟨h0, rfl | ⟨b, rfl, ho⟩⟩ | ⟨b, n, h1, h2, rfl, ho, h3⟩
 ·exact .inl ⟨rfl, by simpa [bys] using h0⟩
 ·obtain rfl : l = [] := by simpa [bys] using h0
  exact .inr ⟨b, 0, 0, rfl, ho, h b (by simp [blkOf]), Nat.le_refl _, .inl rfl⟩
 ·have hn : l.length = n := by simpa [bys] using h2
  subst hn
  exact .inr ⟨b, _, 1, rfl, ho, h b (by simp [blkOf]), Nat.le_refl _, .inr rfl⟩
theorem OwB.sp {m0 : Nat} {m : Mem} {x : AV} {l : List B8} (h : OwB m0 m x l) : SPb m0 m x l := by
 obtain ⟨p, rfl, ho, hp⟩ := h
 exact .inr ⟨p, _, 0, rfl, ho, hp, Nat.le_refl _, .inl rfl⟩
theorem OwB.app {m0 : Nat} {m : Mem} {x y : AV} {l l2 : List B8} (h : OwB m0 m x l) (hy : RdB m y l2) (hb : l.length + l2.length ≤ 1000000000) :
  ∃ x' m', aAppend 1 1 x y m = some (x', m') ∧ Kept [] m m' ∧ RdB m' x' (l ++ l2) ∧ (∀ b ∈ blkOf x', b ∈ blkOf x ∨ m.length ≤ b) ∧ cellsV x' = [x'] ∧ x'.solid = true ∧ SPb m0 m' x' (l ++ l2) := by
 have hr := h.rd
 have hsp := h.sp
 obtain ⟨p, rfl, ho, hp⟩ := h
 by_cases h2 : l2.length = 0
 ·obtain rfl : l2 = [] := List.length_eq_zero_iff.mp h2
  exact ⟨_, m, app_none (by rw [hy.lenA]; rfl) rfl, .refl _ _, by rw [List.append_nil]; exact hr, fun b hb => .inl hb, rfl, rfl, by rw [List.append_nil]; exact hsp⟩
 ·refine ⟨.sl m.length 0 (l.length + l2.length) (l.length + l2.length) 1, m ++ [.row (bys (l ++ l2)) false], ?_, .app _ _ _, ?_, by simp [blkOf], rfl, rfl, .inr ⟨m.length, _, 1, by rw [List.length_append], by rw [own_app_at0]; rfl, by have := own_lt ho; omega, by rw [List.length_append]; exact Nat.le_refl _, .inr rfl⟩⟩
  ·unfold aAppend
   simp only [hy.lenA, Option.bind_some, if_neg h2, hy.elems, if_neg (show ¬ l.length + l2.length ≤ l.length by omega), if_pos (show (l.length + l2.length) * 1 ≤ 1099511627776 ∧ l.length + l2.length ≤ 1099511627776 by omega), hr.elems]
   simp [bys]
  ·have := RdB.row (m := m ++ [.row (bys (l ++ l2)) false]) (l := l ++ l2) (b := m.length) (l ++ l2).length 1 (by rw [rowOf_app_at0]; rfl) (Nat.le_refl _)
   rwa [List.length_append] at this
def Rm0 (m0 : Nat) (m : Mem) (x : AV) (l : List B8) (n : Nat) : Prop := ∃ p, x = .sl p 0 l.length n 0 ∧ own m p = some (bys (l ++ List.replicate (n - l.length) 0#8)) ∧ m0 ≤ p ∧ l.length ≤ n
theorem Rm0.push {m0 n : Nat} {m : Mem} {x y : AV} {l l2 : List B8} (h : Rm0 m0 m x l n) (hy : RdB m y l2) (hb : l.length + l2.length ≤ n) :
  ∃ x' m', aAppend 1 1 x y m = some (x', m') ∧ Rm0 m0 m' x' (l ++ l2) n ∧ Kept (blkOf x) m m' := by
 by_cases h2 : l2.length = 0
 ·obtain rfl : l2 = [] := List.length_eq_zero_iff.mp h2
  refine ⟨x, m, app_none (by rw [hy.lenA]; rfl) ?_, by rwa [List.append_nil], .refl _ _⟩
  obtain ⟨p, rfl, _⟩ := h; rfl
 ·obtain ⟨p, rfl, ho, hp, hl⟩ := h
  refine ⟨.sl p 0 (l.length + l2.length) n 0, m.set p (.row (bys (l ++ l2 ++ List.replicate (n - (l.length + l2.length)) 0#8)) false), ?_, ⟨p, by simp, ?_, hp, by simpa using hb⟩, .set1 _ _ _⟩
  ·unfold aAppend
   simp only [hy.lenA, Option.bind_some, if_neg h2, hy.elems, if_pos hb, ho, Nat.mul_one, Nat.zero_add]
   rw [if_pos ⟨by simp; omega, by simp⟩]
   congr 3
   congr 1
   rw [splice]
   show List.take l.length ((l ++ List.replicate (n - l.length) 0#8).map b8) ++ l2.map b8 ++ List.drop (l.length + (l2.map b8).length) ((l ++ List.replicate (n - l.length) 0#8).map b8) = _
   rw [← List.map_take, ← List.map_drop, ← List.map_append, ← List.map_append, List.take_left' rfl, List.length_map, List.drop_append, List.drop_replicate, List.drop_of_length_le (by omega), List.nil_append, show n - l.length - (l.length + l2.length - l.length) = n - (l.length + l2.length) by omega]
  ·rw [own_set (own_lt ho)]; simp
theorem Rm0.all {m0 n : Nat} {m : Mem} {x : AV} {l : List B8} (h : Rm0 m0 m x l n) (hl : l.length = n) : OwB m0 m x l := by
 obtain ⟨p, rfl, ho, hp, _⟩ := h
 subst hl
 rw [Nat.sub_self] at ho
 simp only [List.replicate_zero, List.append_nil] at ho
 exact ⟨p, rfl, ho, hp⟩
theorem Rm0.low {m0 n : Nat} {m : Mem} {x : AV} {l : List B8} (h : Rm0 m0 m x l n) : ∀ b ∈ blkOf x, m0 ≤ b := by
 obtain ⟨p, rfl, _, hp, _⟩ := h
 simpa [blkOf] using hp
theorem rm0_new (m : Mem) (n : Nat) : Rm0 m.length (m ++ [.row (rep n [.int .u8 0]) false]) (.sl m.length 0 0 n 0) [] n := by
 refine ⟨m.length, rfl, ?_, Nat.le_refl _, Nat.zero_le _⟩
 rw [own_app_at0]
 have hr : rep n [AV.int .u8 0] = bys (List.replicate n 0#8) := by rw [← bys_rep]; simp [rep]
 simp [own_c0, hr]
def lq15 := And.intro @lenB (And.intro @lowB_len (And.intro @numB_len (@nsumB_len)))
theorem ans_pbehind {m : Mem} {x y : AV} {l l2 : List B8} (hx : RdB m x l) (hy : RdB m y l2) (hb : l.length + l2.length ≤ 1000000000) :
  Ans Tryz.prog 83 [x, y] m fun r m' => Kept [] m m' ∧ OwB m.length m' r (l ++ l2) := by
 refine ans_ret mixed ok83 ?_
 simp -implicitDefEqProofs (disch := (first | omega | (simp only [lq15] <;> omega) | fail)) only [admQ, lq15, aFill, AK.cls, implies_true, if_true, if_false, seval, -List.reduceReplicate, c83, r83, hx.len, hy.len]
 have k0 := Kept.app [] m [Blk.row (rep (l.length + l2.length) [.int .u8 0]) false]
 have g0 := rm0_new m (l.length + l2.length)
 generalize m ++ [Blk.row (rep (l.length + l2.length) [.int .u8 0]) false] = A at *
 obtain ⟨x1, m1, e1, g1, k1⟩ := g0.push (hx.kept0 k0) (by simp)
 refine someW_eq e1 ?_
 have K1 : Kept [] m m1 := k0.upon k1 g0.low
 obtain ⟨x2, m2, e2, g2, k2⟩ := g1.push (hy.kept0 K1) (by simp)
 simp -implicitDefEqProofs (disch := (first | omega | (simp only [lq15] <;> omega) | fail)) only [admQ, lq15, aFill, AK.cls, implies_true, if_true, if_false, seval, -List.reduceReplicate]
 refine someW_eq e2 ?_
 simp -implicitDefEqProofs (disch := (first | omega | (simp only [lq15] <;> omega) | fail)) only [admQ, lq15, aFill, AK.cls, implies_true, if_true, if_false, seval, -List.reduceReplicate]
 exact ⟨K1.upon k2 g1.low, g2.all (by simp)⟩
theorem ans_peight (v : Nat) (hv : v < 4611686018427387904) (m : Mem) : Ans Tryz.prog 84 [.int .i64 v] m fun r m' => Kept [] m m' ∧ OwB m.length m' r (numB v) := by
 refine ans_ret mixed ok84 ?_
 have hw : ∀ k : Nat, IntKind.u8.wrap ((v >>> (8 * k) : Nat) : Int) = ((byV v k).toNat : Int) := fun k => wrap_u8 _
 have h7 : IntKind.u8.wrap ((v >>> 56 : Nat) : Int) = ((byV v 7).toNat : Int) := hw 7
 have h6 : IntKind.u8.wrap ((v >>> 48 : Nat) : Int) = ((byV v 6).toNat : Int) := hw 6
 have h5 : IntKind.u8.wrap ((v >>> 40 : Nat) : Int) = ((byV v 5).toNat : Int) := hw 5
 have h4 : IntKind.u8.wrap ((v >>> 32 : Nat) : Int) = ((byV v 4).toNat : Int) := hw 4
 have h3 : IntKind.u8.wrap ((v >>> 24 : Nat) : Int) = ((byV v 3).toNat : Int) := hw 3
 have h2 : IntKind.u8.wrap ((v >>> 16 : Nat) : Int) = ((byV v 2).toNat : Int) := hw 2
 have h1 : IntKind.u8.wrap ((v >>> 8 : Nat) : Int) = ((byV v 1).toNat : Int) := hw 1
 have h0 : IntKind.u8.wrap (v : Int) = ((byV v 0).toNat : Int) := hw 0
 simp -implicitDefEqProofs (disch := (first | omega | (simp only [lq15] <;> omega) | fail)) only [admQ, lq15, aFill, AK.cls, implies_true, if_true, if_false, seval, -List.reduceReplicate, c84, r84, fdiv_nat, @nw64, h0, h1, h2, h3, h4, h5, h6, h7]
 exact ⟨.app _ _ _, m.length, by rw [numB_len], by rw [own_app_at0]; rfl, Nat.le_refl _⟩
theorem ans_pint {m : Mem} {x : AV} {l : List B8} (v : Nat) (hv : v < 4611686018427387904) (hx : RdB m x l) (hb : l.length ≤ 900000000) :
  Ans Tryz.prog 53 [x, .int .i64 v] m fun r m' => Kept [] m m' ∧ OwB m.length m' r (l ++ numB v) := by
 refine ans_ret mixed ok53 ?_
 simp -implicitDefEqProofs (disch := (first | omega | (simp only [lq15] <;> omega) | fail)) only [admQ, lq15, aFill, AK.cls, implies_true, if_true, if_false, seval, -List.reduceReplicate, c53, r53]
 refine (ans_peight v hv m).mono ?_
 rintro y m1 ⟨k1, g1⟩
 simp -implicitDefEqProofs (disch := (first | omega | (simp only [lq15] <;> omega) | fail)) only [admQ, lq15, aFill, AK.cls, implies_true, if_true, if_false, seval, -List.reduceReplicate]
 refine (ans_pbehind (hx.kept0 k1) g1.rd (by rw [numB_len]; omega)).mono ?_
 rintro r m2 ⟨k2, g2⟩
 simp -implicitDefEqProofs (disch := (first | omega | (simp only [lq15] <;> omega) | fail)) only [admQ, lq15, aFill, AK.cls, implies_true, if_true, if_false, seval, -List.reduceReplicate]
 obtain ⟨p, e, ho, hp⟩ := g2
 exact ⟨k1.trans k2, p, e, ho, Nat.le_trans k1.len hp⟩
theorem num_step {U : Nat} {b : B8} (h : U < 72057594037927936) :
  IntKind.u64.wrap ((BitVec.ofInt IntKind.u64.bits (IntKind.u64.wrap ((U : Int) * 2 ^ Nat.min 8 IntKind.u64.bits)) ||| BitVec.ofInt IntKind.u64.bits (IntKind.u64.wrap ((BitVec.toNat b : Nat) : Int))).toNat : Int) = ((U * 256 + b.toNat : Nat) : Int) := by
 have hb := b.isLt
 have e0 : (U : Int) * 2 ^ Nat.min 8 IntKind.u64.bits = ((U * 256 : Nat) : Int) := by
  rw [show (2 : Int) ^ Nat.min 8 IntKind.u64.bits = 256 from by decide]; omega
 rw [e0, nw64 (show U * 256 < 18446744073709551616 by omega), nw64 (show b.toNat < 18446744073709551616 by omega)]
 show IntKind.u64.wrap ((BitVec.ofInt 64 ((U * 256 : Nat) : Int) ||| BitVec.ofInt 64 ((b.toNat : Nat) : Int)).toNat : Int) = _
 rw [BitVec.ofInt_natCast, BitVec.ofInt_natCast, BitVec.toNat_or, BitVec.toNat_ofNat, BitVec.toNat_ofNat, Nat.mod_eq_of_lt (show U * 256 < 2 ^ 64 by omega), Nat.mod_eq_of_lt (show b.toNat < 2 ^ 64 by omega)]
 have e1 : U * 256 ||| b.toNat = U * 256 + b.toNat := by
  have := Nat.shiftLeft_add_eq_or_of_lt (i := 8) (b := b.toNat) hb U
  rw [Nat.shiftLeft_eq] at this
  exact this.symm
 rw [e1, nw64 (by omega)]
theorem ans_pnumber {m : Mem} {x : AV} {l : List B8} (hx : RdB m x l) (hl : l.length = 8) : Ans Tryz.prog 91 [x] m fun r m' => r = .int .i64 (intB l) ∧ m' = m := by
 refine ans_ret mixed ok91 ?_
 simp -implicitDefEqProofs (disch := (first | omega | (simp only [lq15] <;> omega) | fail)) only [admQ, lq15, aFill, AK.cls, implies_true, if_true, if_false, seval, -List.reduceReplicate, c91, r91, hx.len]
 refine LoopW.on (fun i : Nat => [(3, .int .u64 (beN (l.take i) : Nat)), (6, x), (7, .int .i64 l.length), (8, .int .i64 i)]) (fun i => l.length - i) (fun i M => i ≤ l.length ∧ M = m) ?_ 0 _ _ rfl ⟨by omega, rfl⟩
 rintro i M X ⟨hi, rfl⟩ hX
 by_cases hlt : i < l.length
 ·obtain ⟨b, o, cap, sl, c, rfl, hrow, hat, _⟩ := hx.cons hlt
  have e := hat i hlt
  simp -implicitDefEqProofs (disch := (first | omega | (simp only [lq15] <;> omega) | fail)) only [admQ, lq15, aFill, AK.cls, implies_true, if_true, if_false, seval, -List.reduceReplicate, hrow, e]
  refine hX (i + 1) _ _ ?_ (by omega) ⟨by omega, rfl⟩
  have hlt256 := beN_lt i (l.take i) (by rw [List.length_take]; omega)
  have hp : 256 ^ i ≤ 256 ^ 7 := Nat.pow_le_pow_right (by omega) (by omega)
  rw [num_step (by omega), ← beN_snoc, ← take_gb hlt]
  rfl
 ·obtain rfl : i = l.length := by omega
  rw [List.take_length]
  simp -implicitDefEqProofs (disch := (first | omega | (simp only [lq15] <;> omega) | fail)) only [admQ, lq15, aFill, AK.cls, implies_true, if_true, if_false, seval, -List.reduceReplicate]
  rfl
def Rdr (m : Mem) (r : Nat) (l : List B8) : Prop := ∃ p o cap sl B, own m r = some [.sl p o l.length cap sl, .bool false] ∧ own m p = some B ∧ RdB m (.sl p o l.length cap sl) l ∧ p ≠ r
theorem ans_pread {m : Mem} {x : AV} {l : List B8} (hx : RdB m x l) (hb : l.length ≤ 900000000) : Ans Tryz.prog 68 [x] m fun r m' => Kept [] m m' ∧ ∃ p, r = .ptr p 0 ∧ m.length ≤ p ∧ Rdr m' p l := by
 refine ans_ret mixed ok68 ?_
 simp -implicitDefEqProofs (disch := (first | omega | (simp only [lq15] <;> omega) | fail)) only [admQ, lq15, aFill, AK.cls, implies_true, if_true, if_false, seval, -List.reduceReplicate, c68, r68]
 refine (ans_pbehind hx (.nils m) (by simp; omega)).mono ?_
 rintro y m1 ⟨k1, g1⟩
 rw [List.append_nil] at g1
 have hr := g1.rd
 obtain ⟨p, rfl, ho, hp⟩ := g1
 simp -implicitDefEqProofs (disch := (first | omega | (simp only [lq15] <;> omega) | fail)) only [admQ, lq15, aFill, AK.cls, implies_true, if_true, if_false, seval, -List.reduceReplicate]
 have hl := own_lt ho
 have hkl := k1.len
 exact ⟨k1.more_app _, m1.length, rfl, hkl, p, 0, l.length, 0, bys l, by rw [own_app_at0]; rfl, own_app ho _, hr.app _, by omega⟩
theorem ans_print {m : Mem} {r : Nat} {l : List B8} (h : Rdr m r l) (hl : 8 ≤ l.length) : Ans Tryz.prog 69 [.ptr r 0] m fun v m' => v = .int .i64 (intB (l.take 8)) ∧ Kept [r] m m' ∧ Rdr m' r (l.drop 8) := by
 refine ans_ret mixed ok69 ?_
 obtain ⟨p, o, cap, sl, B, h1, h2, h3, h4⟩ := h
 have htk : Ans Tryz.prog 90 [.ptr r 0, .int .i64 8, .fn (.func 91) [] []] m fun v m' => v = .int .i64 (intB (l.take 8)) ∧ Kept [r] m m' ∧ Rdr m' r (l.drop 8) := by
  refine ans_ret mixed ok90 ?_
  obtain ⟨_, _, _, _, cc, e, hrow, hat, hlen, hcap, hsl, htk⟩ := h3.cons (i := 0) (by omega)
  cases e
  have hr := own_lt h1
  have h1' := own_set hr [AV.sl p (o + 8) (l.length - 8) (cap - 8) sl, .bool false]
  simp -implicitDefEqProofs (disch := (first | omega | (simp only [lq15] <;> omega) | fail)) only [admQ, lq15, aFill, AK.cls, implies_true, if_true, if_false, seval, -List.reduceReplicate, c90, r90, rowOf_own h1, h1, rowOf_own h1']
  have kX := Kept.set1 m r (.row [AV.sl p (o + 8) (l.length - 8) (cap - 8) sl, .bool false] false)
  have h38 := h3.kept kX (fun b o n cap s e => by cases e; simpa using h4)
  refine (ans_pnumber (h38.take (k := 8) hl) (by simp; omega)).mono ?_
  rintro _ M ⟨rfl, hM⟩
  subst hM
  simp -implicitDefEqProofs (disch := (first | omega | (simp only [lq15] <;> omega) | fail)) only [admQ, lq15, aFill, AK.cls, implies_true, if_true, if_false, seval, -List.reduceReplicate]
  have hdr := h38.drop (k := 8) hl
  have hld : (l.drop 8).length = l.length - 8 := by simp
  refine ⟨kX, p, o + 8, cap - 8, sl, B, ?_, kX.own h2 (by simpa using h4), ?_, h4⟩
  ·rw [hld]; exact h1'
  ·rw [hld]; exact hdr
 simp -implicitDefEqProofs (disch := (first | omega | (simp only [lq15] <;> omega) | fail)) only [admQ, lq15, aFill, AK.cls, implies_true, if_true, if_false, seval, -List.reduceReplicate, c69, r69]
 refine htk.mono ?_
 rintro v m' ⟨rfl, h5, h6⟩
 simp -implicitDefEqProofs (disch := (first | omega | (simp only [lq15] <;> omega) | fail)) only [admQ, lq15, aFill, AK.cls, implies_true, if_true, if_false, seval, -List.reduceReplicate]
 exact ⟨h5, h6⟩
end Go.Proofs.YtoegmnnecanhfaaGreatDoor
end
section
namespace Go.Proofs.YtoegmnnecanhfaaGreatDoor
open Go Go.Adm
set_option linter.unusedSimpArgs false
set_option linter.unusedVariables false
set_option maxRecDepth 100000
inductive CyS where
 | box (key : List B8)
 | nm (S : List Sd) (T : List (List B8))
def cyT : CyS → TypeId
 | .box _ => 35
 | .nm _ _ => 59
def cySf : CyS → FuncId
 | .box _ => 139
 | .nm _ _ => 154
def cyOf : CyS → FuncId
 | .box _ => 138
 | .nm _ _ => 153
theorem cym_seal (s : CyS) : methodD Tryz.prog (cyT s) "Seal" = some (cySf s) := by
 cases s with
 | box key =>
  show methodD Tryz.prog 35 "Seal" = some 139
  kernel_rfl
 | nm S T =>
  show methodD Tryz.prog 59 "Seal" = some 154
  kernel_rfl
theorem cym_open (s : CyS) : methodD Tryz.prog (cyT s) "Open" = some (cyOf s) := by
 cases s with
 | box key =>
  show methodD Tryz.prog 35 "Open" = some 138
  kernel_rfl
 | nm S T =>
  show methodD Tryz.prog 59 "Open" = some 153
  kernel_rfl
theorem cyn_seal (s : CyS) (b o : Nat) : pNil [.fn (.method "Seal") [.iface (cyT s) (.ptr b o)] []] = some (.fn (.method "Seal") [.iface (cyT s) (.ptr b o)] []) := by
 cases s <;> rfl
theorem cyn_open (s : CyS) (b o : Nat) : pNil [.fn (.method "Open") [.iface (cyT s) (.ptr b o)] []] = some (.fn (.method "Open") [.iface (cyT s) (.ptr b o)] []) := by
 cases s <;> rfl
def Cy (m : Mem) (x : Nat) (W R : List Nat) : CyS → Prop
 | .box key => ∃ c kb k, SBox m x c kb k key ∧ W = [] ∧ R = [x, c, kb, k, 0]
 | .nm S T => Nm m x W S T ∧ R = W
def cyOk : CyS → Nat → Prop
 | .box _, _ => True
 | .nm S _, k => S.length ≤ k
def cyNx (s : CyS) (d : Sd) : CyS := match s with
 | .box key => .box key
 | .nm S T => .nm (sealS2 S d) T
def cySl (s : CyS) (d : Sd) : List B8 := match s with
 | .box key => if mayP d then sealB key d.2.2.1 d.1 d.2.1 d.2.2.2 else []
 | .nm S T => sealR S d
open Classical in
noncomputable def cyOp (s : CyS) (e n : Int) (head b : List B8) : Option (List B8) := match s with
 | .box key => if openP key head e n b then some (turnB key e n (b.take (b.length - 32))) else none
 | .nm S T => if nopenP S e n head b then some (b.take (b.length - 32)) else none
theorem Cy.sub {m : Mem} {x : Nat} {W R : List Nat} {s : CyS} (h : Cy m x W R s) : ∀ b ∈ W, b ∈ R := by
 cases s with
 | box key => obtain ⟨c, kb, k, _, rfl, _⟩ := h; simp
 | nm S T => obtain ⟨_, rfl⟩ := h; exact fun _ h => h
theorem Cy.lt {m : Mem} {x : Nat} {W R : List Nat} {s : CyS} (h : Cy m x W R s) : ∀ b ∈ R, b < m.length := by
 cases s with
 | box key =>
  obtain ⟨c, kb, k, hs, _, rfl⟩ := h
  have h1 := rowOf_lt hs.hd
  have h2 := rowOf_lt hs.au
  have h3 := rowOf_lt hs.kT
  have h4 := rowOf_lt hs.ci.hd
  have h5 := rowOf_lt hs.ci.keys
  simp only [List.mem_cons, List.not_mem_nil, or_false]
  rintro b (rfl | rfl | rfl | rfl | rfl) <;> assumption
 | nm S T => obtain ⟨h, rfl⟩ := h; exact h.lt
theorem Cy.kept {m m' : Mem} {x : Nat} {W R X : List Nat} {s : CyS} (h : Cy m x W R s) (hk : Kept X m m') (hX : ∀ b ∈ R, b ∉ X) : Cy m' x W R s := by
 cases s with
 | box key =>
  obtain ⟨c, kb, k, hs, rfl, rfl⟩ := h
  exact ⟨c, kb, k, hs.kept hk ⟨hX x (by simp), hX c (by simp), hX kb (by simp), hX k (by simp), hX 0 (by simp)⟩, rfl, rfl⟩
 | nm S T => obtain ⟨h, rfl⟩ := h; exact ⟨h.kept hk hX, rfl⟩
theorem Cy.kept0 {m m' : Mem} {x : Nat} {W R : List Nat} {s : CyS} (h : Cy m x W R s) (hk : Kept [] m m') : Cy m' x W R s := h.kept hk (by simp)
theorem cyT_nx (s : CyS) (d : Sd) : cyT (cyNx s d) = cyT s := by cases s <;> rfl
theorem cySl_len (s : CyS) (d : Sd) : (cySl s d).length ≤ d.2.2.2.length + 32 := by
 cases s with
 | box key =>
  simp only [cySl]
  split
  ·rw [sealB_len]; omega
  ·simp
 | nm S T => exact sealR_len S d
theorem ans_cyseal {m : Mem} {x : Nat} {W R : List Nat} {s : CyS} {d : Sd} {hx bx : AV} (hC : Cy m x W R s) (hh : RdB m hx d.2.2.1) (hb : RdB m bx d.2.2.2) (hd : ∀ b ∈ blkOf bx, b ∉ W) (hk : cyOk s 1000) (hl : d.2.2.1.length ≤ 100000 ∧ d.2.2.2.length ≤ 100000) :
  Ans Tryz.prog (cySf s) [.ptr x 0, .int .i64 d.1, .int .i64 d.2.1, hx, bx] m fun r m' => ∃ W' R', Kept W m m' ∧ Cy m' x W' R' (cyNx s d) ∧ (∀ b ∈ R', b ∈ R ∨ m.length ≤ b) ∧ GrB m.length m' r (cySl s d) ∧ ∀ b ∈ blkOf r, m.length ≤ b ∧ b ∉ R' := by
 cases s with
 | box key =>
  have hlt := hC.lt
  obtain ⟨c, kb, k, hs, rfl, rfl⟩ := hC
  refine (ans_seseal (e := d.1) (n := d.2.1) hs hh hb hl).mono ?_
  rintro r m' ⟨k1, h1, h2⟩
  refine ⟨[], [x, c, kb, k, 0], k1, ⟨c, kb, k, hs.kept0 k1, rfl, rfl⟩, fun b hb => .inl hb, ?_⟩
  simp only [cySl]
  by_cases hp : mayP d
  ·have hp' : placedP d.1 d.2.1 := hp
   have g := h1 hp'
   have hlow := GrA.blk g (by intro h0; have := congrArg List.length h0; rw [bys_len, sealB_len] at this; simp at this)
   rw [if_pos hp]
   exact ⟨g, fun b hb => ⟨hlow b hb, fun h => by have := hlt b h; have := hlow b hb; omega⟩⟩
  ·rw [if_neg hp, h2 hp]
   exact ⟨.nils .., by simp [blkOf]⟩
 | nm S T =>
  obtain ⟨hN, rfl⟩ := hC
  refine (ans_nseal2 hN hh hb hd hk hl).mono ?_
  rintro r m' ⟨W', k1, hN', hW, g, ap, lo⟩
  exact ⟨W', W', k1, ⟨hN', rfl⟩, hW, g, fun b hb => ⟨(lo b hb).1, ap b hb⟩⟩
theorem ans_cyopenS {m : Mem} {x : Nat} {W R : List Nat} {s : CyS} {e n : Int} {head b : List B8} {hx bx : AV} (hC : Cy m x W R s) (hh : RdB m hx head) (hb : RdB m bx b) (hk : cyOk s 1000) (hl : head.length ≤ 100000 ∧ b.length ≤ 100000) :
  Ans Tryz.prog (cyOf s) [.ptr x 0, .int .i64 e, .int .i64 n, hx, bx] m fun r m' => Kept [] m m' ∧ ∃ v, r = .tup [v, .bool (cyOp s e n head b).isSome] ∧ SPb m.length m' v ((cyOp s e n head b).getD []) := by
 cases s with
 | box key =>
  obtain ⟨c, kb, k, hs, rfl, rfl⟩ := hC
  refine (ans_seopen (e := e) (n := n) hs hh hb hl).mono ?_
  rintro r m' ⟨k1, h1, h2⟩
  refine ⟨k1, ?_⟩
  simp only [cyOp]
  by_cases hp : openP key head e n b
  ·obtain ⟨p, hp1, rfl, ho⟩ := h1 hp
   rw [if_pos hp]
   have hl8 : (turnB key e n (b.take (b.length - 32))).length = b.length - 32 := by rw [turnB_len]; simp
   have hrd := RdB.row (l := turnB key e n (b.take (b.length - 32))) (b.length - 32) 0 (rowOf_own ho) (by omega)
   rw [hl8] at hrd
   exact ⟨_, rfl, .inr ⟨p, _, 0, by rw [Option.getD_some, hl8], ho, hp1, by rw [Option.getD_some, hl8]; exact Nat.le_refl _, .inl rfl⟩⟩
  ·rw [if_neg hp]
   exact ⟨.nils, h2 hp, .inl ⟨rfl, rfl⟩⟩
 | nm S T =>
  obtain ⟨hN, rfl⟩ := hC
  refine (ans_nopen (e := e) (n := n) hN hh hb hk hl).mono ?_
  rintro r m' ⟨k1, h1, h2⟩
  refine ⟨k1, ?_⟩
  simp only [cyOp]
  by_cases hp : nopenP S e n head b
  ·obtain ⟨v, rfl, g, hv⟩ := h1 hp
   rw [if_pos hp]
   exact ⟨v, rfl, .gr g hv⟩
  ·rw [if_neg hp]
   exact ⟨.nils, h2 hp, .inl ⟨rfl, rfl⟩⟩
end Go.Proofs.YtoegmnnecanhfaaGreatDoor
end
section
namespace Go.Proofs.YtoegmnnecanhfaaGreatDoor
open Go Go.Adm
set_option linter.unusedSimpArgs false
set_option linter.unusedVariables false
set_option maxRecDepth 100000
structure Sec where
 k : Int
 e : Int
 n : Int
 a : Int
 p : List B8
deriving DecidableEq
def secV (s : Sec) (v : AV) : AV := .agg [.int .i64 s.k, .int .i64 s.e, .int .i64 s.n, .int .i64 s.a, v]
def rightP (e n a : Int) : Prop := (0 ≤ e ∧ 0 ≤ n ∧ 0 ≤ a) ∧ (e ≤ 1099511627776 ∧ n ≤ 1099511627776) ∧ a < 4096
instance (e n a : Int) : Decidable (rightP e n a) := by unfold rightP; infer_instance
theorem ans_scright (e n a : Int) (m : Mem) : Ans Tryz.prog 54 [.int .i64 e, .int .i64 n, .int .i64 a] m fun r m' => r = .bool (decide (rightP e n a)) ∧ m' = m := by
 refine ans_ret mixed ok54 ?_
 by_cases h1 : min (min e n) a ≥ 0
 ·have hmx : (if n > e then n else e) = max e n := by omega
  by_cases h2 : max e n ≤ 1099511627776
  ·by_cases h3 : a < 4096
   ·simp -implicitDefEqProofs (disch := (first | omega | (simp only [lq15] <;> omega) | fail)) only [admQ, lq15, aFill, AK.cls, implies_true, if_true, if_false, seval, -List.reduceReplicate, c54, r54, dec_t h1, hmx, dec_t h2, dec_t h3, dec_t (show rightP e n a from ⟨by omega, by omega, h3⟩)]
   ·simp -implicitDefEqProofs (disch := (first | omega | (simp only [lq15] <;> omega) | fail)) only [admQ, lq15, aFill, AK.cls, implies_true, if_true, if_false, seval, -List.reduceReplicate, c54, r54, dec_t h1, hmx, dec_t h2, dec_f h3, dec_f (show ¬ rightP e n a from fun h => h3 h.2.2)]
  ·simp -implicitDefEqProofs (disch := (first | omega | (simp only [lq15] <;> omega) | fail)) only [admQ, lq15, aFill, AK.cls, implies_true, if_true, if_false, seval, -List.reduceReplicate, c54, r54, dec_t h1, hmx, dec_f h2, dec_f (show ¬ rightP e n a from fun h => h2 (by have := h.2.1; omega))]
 ·simp -implicitDefEqProofs (disch := (first | omega | (simp only [lq15] <;> omega) | fail)) only [admQ, lq15, aFill, AK.cls, implies_true, if_true, if_false, seval, -List.reduceReplicate, c54, r54, dec_f h1, dec_f (show ¬ rightP e n a from fun h => h1 (by have := h.1; omega))]
def kB (k : Int) : B8 := BitVec.ofInt 8 k
def headB (k : Int) (a : Nat) : List B8 := kB k :: numB a
theorem headB_len (k : Int) (a : Nat) : (headB k a).length = 9 := by simp [headB, numB_len]
theorem ans_schead (k : Int) (a : Nat) (ha : a < 4611686018427387904) (m : Mem) : Ans Tryz.prog 55 [.int .i64 k, .int .i64 a] m fun r m' => Kept [] m m' ∧ OwB m.length m' r (headB k a) := by
 refine ans_ret mixed ok55 ?_
 have hw : IntKind.u8.wrap k = ((kB k).toNat : Int) := wr_u8 k
 simp -implicitDefEqProofs (disch := (first | omega | (simp only [lq15] <;> omega) | fail)) only [admQ, lq15, aFill, AK.cls, implies_true, if_true, if_false, seval, -List.reduceReplicate, c55, r55, hw]
 have hr := RdB.row (m := m ++ [Blk.row [b8 (kB k)] false]) (l := [kB k]) 1 0 (rowOf_app_at0 m _) (by simp)
 refine (ans_pint a ha hr (by simp)).mono ?_
 rintro r m' ⟨h1, p, h2, h3, h4⟩
 simp -implicitDefEqProofs (disch := (first | omega | (simp only [lq15] <;> omega) | fail)) only [admQ, lq15, aFill, AK.cls, implies_true, if_true, if_false, seval, -List.reduceReplicate]
 rw [List.length_append] at h4
 exact ⟨(Kept.app [] m _).trans h1, p, h2, h3, by omega⟩
def kindB (b : List B8) : Int := if b.length < 17 ∨ (gb b 0).toNat < 1 ∨ 5 < (gb b 0).toNat then 0 else (gb b 0).toNat
theorem ans_sckind {m : Mem} {x : AV} {b : List B8} (hb : RdB m x b) : Ans Tryz.prog 67 [x] m fun r m' => r = .int .i64 (kindB b) ∧ m' = m := by
 refine ans_ret mixed ok67 ?_
 have hbl := (gb b 0).isLt
 unfold kindB
 by_cases h1 : b.length < 17
 ·rw [if_pos (.inl h1)]
  simp -implicitDefEqProofs (disch := (first | omega | (simp only [lq15] <;> omega) | fail)) only [admQ, lq15, aFill, AK.cls, implies_true, if_true, if_false, seval, -List.reduceReplicate, c67, r67, hb.len, dec_t (show (b.length : Int) < 17 by omega)]
 ·obtain ⟨q, o, cap, sl, cc, rfl, hrow, hat, _⟩ := hb.cons (i := 0) (by omega)
  have e0 := hat 0 (by omega)
  simp only [Nat.add_zero] at e0
  by_cases h2 : (gb b 0).toNat < 1
  ·rw [if_pos (.inr (.inl h2))]
   simp -implicitDefEqProofs (disch := (first | omega | (simp only [lq15] <;> omega) | fail)) only [admQ, lq15, aFill, AK.cls, implies_true, if_true, if_false, seval, -List.reduceReplicate, c67, r67, hrow, e0, dec_f (show ¬ (b.length : Int) < 17 by omega), dec_t (show ((gb b 0).toNat : Int) < 1 by omega)]
  ·by_cases h3 : 5 < (gb b 0).toNat
   ·rw [if_pos (.inr (.inr h3))]
    simp -implicitDefEqProofs (disch := (first | omega | (simp only [lq15] <;> omega) | fail)) only [admQ, lq15, aFill, AK.cls, implies_true, if_true, if_false, seval, -List.reduceReplicate, c67, r67, hrow, e0, dec_f (show ¬ (b.length : Int) < 17 by omega), dec_f (show ¬ ((gb b 0).toNat : Int) < 1 by omega), dec_t (show ((gb b 0).toNat : Int) > 5 by omega)]
   ·rw [if_neg (by omega)]
    simp -implicitDefEqProofs (disch := (first | omega | (simp only [lq15] <;> omega) | fail)) only [admQ, lq15, aFill, AK.cls, implies_true, if_true, if_false, seval, -List.reduceReplicate, c67, r67, hrow, e0, dec_f (show ¬ (b.length : Int) < 17 by omega), dec_f (show ¬ ((gb b 0).toNat : Int) < 1 by omega), dec_f (show ¬ ((gb b 0).toNat : Int) > 5 by omega), wrap_i64 (show (-9223372036854775808 : Int) ≤ ((gb b 0).toNat : Int) by omega) (show ((gb b 0).toNat : Int) < 9223372036854775808 by omega)]
end Go.Proofs.YtoegmnnecanhfaaGreatDoor
end
section
namespace Go.Proofs.YtoegmnnecanhfaaGreatDoor
open Go Go.Adm
set_option linter.unusedSimpArgs false
set_option linter.unusedVariables false
set_option maxRecDepth 100000
def okP (s : Sec) : Prop := (1 ≤ s.k ∧ s.k ≤ 5) ∧ rightP s.e s.n s.a ∧ s.p.length ≤ 975
instance (s : Sec) : Decidable (okP s) := by unfold okP; infer_instance
def errP (s : Sec) : Int := if s.k < 1 ∨ s.k > 5 then 5 else if ¬ rightP s.e s.n s.a then 7 else if s.p.length > 975 then 3 else 0
theorem errP_ok (s : Sec) : errP s = 0 ↔ okP s := by
 unfold errP okP
 constructor
 ·intro h
  split at h
  ·cases h
  ·split at h
   ·cases h
   ·split at h
    ·cases h
    ·rename_i h1 h2 h3
     exact ⟨by omega, Decidable.not_not.mp h2, by omega⟩
 ·rintro ⟨h1, h2, h3⟩
  rw [if_neg (by omega), if_neg (by simpa using h2), if_neg (by omega)]
def secD (s : Sec) : Sd := (s.e, s.n, headB s.k s.a.toNat, s.p)
def putB (c : CyS) (s : Sec) : List B8 := (kB s.k :: numB s.e.toNat) ++ numB s.n.toNat ++ cySl c (secD s)
def putL (c : CyS) (s : Sec) : List B8 := if okP s then putB c s else []
def putC (c : CyS) (s : Sec) : CyS := if okP s then cyNx c (secD s) else c
theorem ans_scputS {m : Mem} {x : Nat} {W R : List Nat} {c : CyS} {s : Sec} {v : AV} (hC : Cy m x W R c) (hv : RdB m v s.p) (hd : ∀ b ∈ blkOf v, b ∉ W) (hk : cyOk c 1000) (hl : s.p.length ≤ 100000) :
  Ans Tryz.prog 28 [.iface (cyT c) (.ptr x 0), secV s v] m fun r m' => ∃ W' R' w, Kept W m m' ∧ Cy m' x W' R' (putC c s) ∧ (∀ b ∈ R', b ∈ R ∨ m.length ≤ b) ∧ r = .tup [w, .int .i64 (errP s)] ∧ SPb m.length m' w (putL c s) ∧ ∀ b ∈ blkOf w, m.length ≤ b ∧ b ∉ R' := by
 refine ans_ret mixed ok28 ?_
 unfold secV
 have hno : ∀ (m' : Mem) (er : Int), ¬ okP s → errP s = er → Kept [] m m' → ∃ W' R' w, Kept W m m' ∧ Cy m' x W' R' (putC c s) ∧ (∀ b ∈ R', b ∈ R ∨ m.length ≤ b) ∧ AV.tup [.nils, .int .i64 er] = .tup [w, .int .i64 (errP s)] ∧ SPb m.length m' w (putL c s) ∧ ∀ b ∈ blkOf w, m.length ≤ b ∧ b ∉ R'   := fun m' er hn he hk =>
  ⟨W, R, .nils, hk.more (by simp), by rw [putC, if_neg hn]; exact hC.kept0 hk, fun b hb => .inl hb, by rw [he], by rw [putL, if_neg hn]; exact .inl ⟨rfl, rfl⟩, by simp [blkOf]⟩
 by_cases h1 : s.k < 1
 ·have he : errP s = 5 := by rw [errP, if_pos (.inl h1)]
  have hn : ¬ okP s := fun h => by have := h.1; omega
  simp -implicitDefEqProofs (disch := (first | omega | (simp only [lq15] <;> omega) | fail)) only [admQ, lq15, aFill, AK.cls, implies_true, if_true, if_false, seval, -List.reduceReplicate, c28, r28, dec_t h1, (rd_one hv).1, (rd_one hv).2]
  exact hno _ _ hn he (.app _ _ _)
 by_cases h2 : s.k > 5
 ·have he : errP s = 5 := by rw [errP, if_pos (.inr h2)]
  have hn : ¬ okP s := fun h => by have := h.1; omega
  simp -implicitDefEqProofs (disch := (first | omega | (simp only [lq15] <;> omega) | fail)) only [admQ, lq15, aFill, AK.cls, implies_true, if_true, if_false, seval, -List.reduceReplicate, c28, r28, dec_f h1, dec_t h2, (rd_one hv).1, (rd_one hv).2]
  exact hno _ _ hn he (.app _ _ _)
 simp -implicitDefEqProofs (disch := (first | omega | (simp only [lq15] <;> omega) | fail)) only [admQ, lq15, aFill, AK.cls, implies_true, if_true, if_false, seval, -List.reduceReplicate, c28, r28, dec_f h1, dec_f h2, (rd_one hv).1, (rd_one hv).2]
 have k0 := Kept.app [] m [Blk.row [.int .i64 s.k, .int .i64 s.e, .int .i64 s.n, .int .i64 s.a, v] false]
 have o0 : own (m ++ [Blk.row [.int .i64 s.k, .int .i64 s.e, .int .i64 s.n, .int .i64 s.a, v] false]) m.length = some [.int .i64 s.k, .int .i64 s.e, .int .i64 s.n, .int .i64 s.a, v] := by rw [own_app_at0]; rfl
 generalize m ++ [Blk.row [.int .i64 s.k, .int .i64 s.e, .int .i64 s.n, .int .i64 s.a, v] false] = A at k0 o0
 refine (ans_scright s.e s.n s.a A).mono ?_
 rintro _ M ⟨rfl, hM⟩
 subst hM
 by_cases h3 : rightP s.e s.n s.a
 ·by_cases h4 : (s.p.length : Int) > 975
  ·have he : errP s = 3 := by rw [errP, if_neg (by omega), if_neg (by simpa using h3), if_pos (by omega)]
   have hn : ¬ okP s := fun h => by have := h.2.2; omega
   simp -implicitDefEqProofs (disch := (first | omega | (simp only [lq15] <;> omega) | fail)) only [admQ, lq15, aFill, AK.cls, implies_true, if_true, if_false, seval, -List.reduceReplicate, dec_t h3, Bool.not_true, rowOf_own o0, (hv.kept0 k0).len, dec_t h4]
   exact hno _ _ hn he k0
  ·have hok : okP s := ⟨by omega, h3, by omega⟩
   have he := (errP_ok s).mpr hok
   clear hno
   obtain ⟨k, e, n, a, p⟩ := s
   simp only at *
   obtain ⟨⟨r1, r2, r3⟩, ⟨r4, r5⟩, r6⟩ := id h3
   obtain ⟨e, rfl⟩ : ∃ e' : Nat, e = e' := ⟨e.toNat, by omega⟩
   obtain ⟨n, rfl⟩ : ∃ n' : Nat, n = n' := ⟨n.toNat, by omega⟩
   obtain ⟨a, rfl⟩ : ∃ a' : Nat, a = a' := ⟨a.toNat, by omega⟩
   have hw : IntKind.u8.wrap k = ((kB k).toNat : Int) := wr_u8 k
   simp -implicitDefEqProofs (disch := (first | omega | (simp only [lq15] <;> omega) | fail)) only [admQ, lq15, aFill, AK.cls, implies_true, if_true, if_false, seval, -List.reduceReplicate, dec_t h3, Bool.not_true, rowOf_own o0, (hv.kept0 k0).len, dec_f h4, hw]
   have k1 := Kept.app [] M [Blk.row [b8 (kB k)] false]
   have r1 := RdB.row (m := M ++ [Blk.row [b8 (kB k)] false]) (l := [kB k]) 1 0 (rowOf_app_at0 M _) (by simp)
   have e1 : (M ++ [Blk.row [b8 (kB k)] false])[M.length]? = some (.row [b8 (kB k)] false) := by simp
   generalize M ++ [Blk.row [b8 (kB k)] false] = B at *
   have o1 := k1.own o0 (by simp)
   simp -implicitDefEqProofs (disch := (first | omega | (simp only [lq15] <;> omega) | fail)) only [admQ, lq15, aFill, AK.cls, implies_true, if_true, if_false, seval, -List.reduceReplicate, rowOf_own o1]
   refine (ans_pint e (by omega) r1 (by simp)).mono ?_
   rintro y1 m1 ⟨k2, g2⟩
   have o2 := k2.own o1 (by simp)
   have e2 : m1[M.length]? = some (.row [b8 (kB k)] false) := by rw [k2.eq _ (lt_of_get e1) (by simp)]; exact e1
   simp -implicitDefEqProofs (disch := (first | omega | (simp only [lq15] <;> omega) | fail)) only [admQ, lq15, aFill, AK.cls, implies_true, if_true, if_false, seval, -List.reduceReplicate, rowOf_own o2, rowOf_own o1, e2]
   refine (ans_pint n (by omega) g2.rd (by simp [numB_len])).mono ?_
   rintro y2 m2 ⟨k3, g3⟩
   have o3 := k3.own o2 (by simp)
   have e3 : m2[M.length]? = some (.row [b8 (kB k)] false) := by rw [k3.eq _ (lt_of_get e2) (by simp)]; exact e2
   simp -implicitDefEqProofs (disch := (first | omega | (simp only [lq15] <;> omega) | fail)) only [admQ, lq15, aFill, AK.cls, implies_true, if_true, if_false, seval, -List.reduceReplicate, rowOf_own o3, rowOf_own o2, rowOf_own o1, e3]
   refine (ans_schead k a (by omega) m2).mono ?_
   rintro y3 m3 ⟨k4, g4⟩
   have o4 := k4.own o3 (by simp)
   have K4 := ((k0.trans k1).trans k2).trans (k3.trans k4)
   simp -implicitDefEqProofs (disch := (first | omega | (simp only [lq15] <;> omega) | fail)) only [admQ, lq15, aFill, AK.cls, implies_true, if_true, if_false, seval, -List.reduceReplicate, rowOf_own o4, rowOf_own o3, rowOf_own o2, cyn_seal c, opW_invoke _ (cym_seal c), opDW_invoke _ (cym_seal c)]
   refine (ans_cyseal (d := ((e : Int), (n : Int), headB k a, p)) (hC.kept0 K4) g4.rd (hv.kept0 K4) hd hk ⟨by rw [headB_len]; omega, hl⟩).mono ?_
   rintro z m4 ⟨W', R', kS, hC', hR', gz, hz⟩
   have hsd : secD ⟨k, e, n, a, p⟩ = ((e : Int), (n : Int), headB k a, p) := by simp [secD]
   have hRm : ∀ b ∈ R, b < m.length := hC.lt
   have hWR := hC.sub
   have nW : ∀ b, m.length ≤ b → b ∉ W := fun b h1 h2 => by have := hRm b (hWR b h2); omega
   have o5 := kS.own o4 (nW _ (Nat.le_refl _))
   have hm2 := ((k0.trans k1).trans k2).len
   have hm3 := K4.len
   have g3' := (g3.kept0 k4).kept kS fun b hb => nW b (by have := g3.low b hb; omega)
   have hsl := cySl_len c ((e : Int), (n : Int), headB k a, p)
   obtain ⟨w, m5, e5, k5, rw5, bw5, c5⟩ := OwB.app g3' gz.rd (by simp [numB_len]; simp at hsl; omega)
   simp -implicitDefEqProofs (disch := (first | omega | (simp only [lq15] <;> omega) | fail)) only [admQ, lq15, aFill, AK.cls, implies_true, if_true, if_false, seval, -List.reduceReplicate, rowOf_own o5, rowOf_own o4, rowOf_own o3, rowOf_own o2]
   refine someW_eq e5 ?_
   have o6 := k5.own o5 (by simp)
   simp -implicitDefEqProofs (disch := (first | omega | (simp only [lq15] <;> omega) | fail)) only [admQ, lq15, aFill, AK.cls, implies_true, if_true, if_false, seval, -List.reduceReplicate, rowOf_own o6, rowOf_own o5, rowOf_own o4, rowOf_own o3, rowOf_own o2]
   have hm1 := (k0.trans k1).len
   have hk2 := k2.len
   have hk3 := k3.len
   have hk4 := k4.len
   have hkS := kS.len
   have hY := g3.low
   have hRlt := hC'.lt
   have g3lt := g3.rd.blk_lt
   refine ⟨W', R', w, (K4.more (by simp)).trans (kS.trans (k5.more (by simp))), ?_, fun b hb => (hR' b hb).imp id fun h => by omega, ?_, ?_, fun b hb => ?_⟩
   ·rw [putC, if_pos hok, hsd]; exact hC'.kept0 k5
   ·rw [he]
   ·rw [putL, if_pos hok, putB, hsd]
    refine SPb.weak (m0 := m1.length) (by simpa using c5.2.2) (by omega)
   ·rcases bw5 b hb with h | h
    ·have h1 := hY b h
     have h2 := g3lt b h
     refine ⟨by omega, fun h3 => ?_⟩
     rcases hR' b h3 with h4 | h4
     ·have := hRm b h4; omega
     ·omega
    ·refine ⟨by omega, fun h3 => ?_⟩
     have := hRlt b h3; omega
 ·have he : errP s = 7 := by rw [errP, if_neg (by omega), if_pos h3]
  have hn : ¬ okP s := fun h => h3 h.2.1
  simp -implicitDefEqProofs (disch := (first | omega | (simp only [lq15] <;> omega) | fail)) only [admQ, lq15, aFill, AK.cls, implies_true, if_true, if_false, seval, -List.reduceReplicate, dec_f h3, Bool.not_false]
  exact hno _ _ hn he k0
end Go.Proofs.YtoegmnnecanhfaaGreatDoor
end
section
namespace Go.Proofs.YtoegmnnecanhfaaGreatDoor
open Go Go.Adm
set_option linter.unusedSimpArgs false
set_option linter.unusedVariables false
set_option maxRecDepth 100000
theorem rdb_ap {X : List Nat} {m m' : Mem} {x : AV} {l : List B8} (h : RdB m x l) (hk : Kept X m m') (ha : ∀ b ∈ blkOf x, b ∉ X) : RdB m' x l :=
 h.kept hk fun b o n cap s e => ha b (by rw [e]; simp [blkOf])
def nE (b : List B8) : Int := intB ((b.drop 1).take 8)
def nN (b : List B8) : Int := intB ((b.drop 9).take 8)
open Classical in
noncomputable def getE (c : CyS) (k a : Int) (b : List B8) : Int :=
 if b.length < 17 then 2 else if b.length > 1024 then 3 else if k = 0 ∨ kindB b ≠ k then 5 else if ¬ rightP (nE b) (nN b) a then 7 else
 match cyOp c (nE b) (nN b) (headB k a.toNat) (b.drop 17) with
 | none => 19
 | some _ => 0
def sec0 : Sec := ⟨0, 0, 0, 0, []⟩
open Classical in
noncomputable def getS (c : CyS) (k a : Int) (b : List B8) : Sec :=
 if getE c k a b = 0 then ⟨k, nE b, nN b, a, (cyOp c (nE b) (nN b) (headB k a.toNat) (b.drop 17)).getD []⟩ else sec0
theorem ans_scgetS {m : Mem} {x : Nat} {W R : List Nat} {c : CyS} {k a : Int} {y : AV} {b : List B8} (hC : Cy m x W R c) (hy : RdB m y b) (hk : cyOk c 1000) (hl : b.length ≤ 100000) :
  Ans Tryz.prog 34 [.iface (cyT c) (.ptr x 0), .int .i64 k, .int .i64 a, y] m fun r m' => Kept [] m m' ∧ ∃ w, r = .tup [secV (getS c k a b) w, .int .i64 (getE c k a b)] ∧ SPb m.length m' w (getS c k a b).p := by
 refine ans_ret mixed ok34 ?_
 have hno : ∀ (m' : Mem) (er : Int), er ≠ 0 → getE c k a b = er → Kept [] m m' → Kept [] m m' ∧ ∃ w, AV.tup [.agg [.int .i64 0, .int .i64 0, .int .i64 0, .int .i64 0, .nils], .int .i64 er] = .tup [secV (getS c k a b) w, .int .i64 (getE c k a b)] ∧ SPb m.length m' w (getS c k a b).p := fun m' er h0 he hk => by
  rw [he]
  have hs : getS c k a b = sec0 := by rw [getS, he, if_neg h0]
  rw [hs]
  exact ⟨hk, .nils, rfl, .inl ⟨rfl, rfl⟩⟩
 by_cases h1 : b.length < 17
 ·have he : getE c k a b = 2 := by rw [getE, if_pos h1]
  simp -implicitDefEqProofs (disch := (first | omega | (simp only [lq15] <;> omega) | fail)) only [admQ, lq15, aFill, AK.cls, implies_true, if_true, if_false, seval, -List.reduceReplicate, c34, r34, hy.len, dec_t (show (b.length : Int) < 17 by omega)]
  exact hno _ _ (by omega) he (.app _ _ _)
 by_cases h2 : b.length > 1024
 ·have he : getE c k a b = 3 := by rw [getE, if_neg h1, if_pos h2]
  simp -implicitDefEqProofs (disch := (first | omega | (simp only [lq15] <;> omega) | fail)) only [admQ, lq15, aFill, AK.cls, implies_true, if_true, if_false, seval, -List.reduceReplicate, c34, r34, hy.len, dec_f (show ¬ (b.length : Int) < 17 by omega), dec_t (show (b.length : Int) > 1024 by omega)]
  exact hno _ _ (by omega) he (.app _ _ _)
 by_cases h3 : k = 0
 ·have he : getE c k a b = 5 := by rw [getE, if_neg h1, if_neg h2, if_pos (.inl h3)]
  simp -implicitDefEqProofs (disch := (first | omega | (simp only [lq15] <;> omega) | fail)) only [admQ, lq15, aFill, AK.cls, implies_true, if_true, if_false, seval, -List.reduceReplicate, c34, r34, hy.len, dec_f (show ¬ (b.length : Int) < 17 by omega), dec_f (show ¬ (b.length : Int) > 1024 by omega), beq_iff_eq.mpr h3]
  exact hno _ _ (by omega) he (.app _ _ _)
 simp -implicitDefEqProofs (disch := (first | omega | (simp only [lq15] <;> omega) | fail)) only [admQ, lq15, aFill, AK.cls, implies_true, if_true, if_false, seval, -List.reduceReplicate, c34, r34, hy.len, dec_f (show ¬ (b.length : Int) < 17 by omega), dec_f (show ¬ (b.length : Int) > 1024 by omega), beq_eq_false_iff_ne.mpr h3]
 have k0 := Kept.app [] m [Blk.row [.int .i64 0, .int .i64 0, .int .i64 0, .int .i64 0, .nils] false]
 have o0 : own (m ++ [Blk.row [.int .i64 0, .int .i64 0, .int .i64 0, .int .i64 0, .nils] false]) m.length = some [.int .i64 0, .int .i64 0, .int .i64 0, .int .i64 0, .nils] := by rw [own_app_at0]; rfl
 generalize m ++ [Blk.row [.int .i64 0, .int .i64 0, .int .i64 0, .int .i64 0, .nils] false] = A at k0 o0
 have hyA := hy.kept0 k0
 refine (ans_sckind hyA).mono ?_
 rintro _ M ⟨rfl, hM⟩
 subst hM
 by_cases h4 : kindB b = k
 ·obtain ⟨q, o, cap, sl, cc, rfl, hrow, hat, hlen, hcap, hsl, htk⟩ := hyA.cons (i := 0) (by omega)
  have hsub : RdB M (.sl q (o + 1) 16 (cap - 1) sl) ((b.drop 1).take 16) := by
   have hd := hyA.drop (k := 1) (by omega)
   have h := hd.take (k := 16) (by omega)
   exact h
  simp -implicitDefEqProofs (disch := (first | omega | (simp only [lq15] <;> omega) | fail)) only [admQ, lq15, aFill, AK.cls, implies_true, if_true, if_false, seval, -List.reduceReplicate, beq_eq_false_iff_ne.mpr h3, beq_iff_eq.mpr h4, Bool.not_true]
  have hl16 : ((b.drop 1).take 16).length = 16 := by rw [List.length_take, List.length_drop]; omega
  refine (ans_pread hsub (by omega)).mono ?_
  rintro _ m1 ⟨k1, p, rfl, hp, hR1⟩
  simp -implicitDefEqProofs (disch := (first | omega | (simp only [lq15] <;> omega) | fail)) only [admQ, lq15, aFill, AK.cls, implies_true, if_true, if_false, seval, -List.reduceReplicate]
  refine (ans_print hR1 (by omega)).mono ?_
  rintro _ m2 ⟨rfl, k2, hR2⟩
  simp -implicitDefEqProofs (disch := (first | omega | (simp only [lq15] <;> omega) | fail)) only [admQ, lq15, aFill, AK.cls, implies_true, if_true, if_false, seval, -List.reduceReplicate]
  refine (ans_print hR2 (by rw [List.length_drop]; omega)).mono ?_
  rintro _ m3 ⟨rfl, k3, -⟩
  have e1 : ((b.drop 1).take 16).take 8 = (b.drop 1).take 8 := by rw [List.take_take]; rfl
  have e2 : (((b.drop 1).take 16).drop 8).take 8 = (b.drop 9).take 8 := by rw [List.drop_take, List.take_take, List.drop_drop]; rfl
  have hE : intB (((b.drop 1).take 16).take 8) = nE b := by rw [e1]; rfl
  have hNn : intB ((((b.drop 1).take 16).drop 8).take 8) = nN b := by rw [e2]; rfl
  have K3 : Kept [] M m3 := (k1.upon k2 (by simpa using hp)).upon k3 (by simpa using hp)
  have o3 := K3.own o0 (by simp)
  rw [hE, hNn]
  simp -implicitDefEqProofs (disch := (first | omega | (simp only [lq15] <;> omega) | fail)) only [admQ, lq15, aFill, AK.cls, implies_true, if_true, if_false, seval, -List.reduceReplicate]
  have k4 := Kept.app [] m3 [Blk.row [.int .i64 k, .int .i64 (nE b), .int .i64 (nN b), .int .i64 a, .nils] false]
  have b4 : own (m3 ++ [Blk.row [.int .i64 k, .int .i64 (nE b), .int .i64 (nN b), .int .i64 a, .nils] false]) m3.length = some [.int .i64 k, .int .i64 (nE b), .int .i64 (nN b), .int .i64 a, .nils] := by rw [own_app_at0]; rfl
  generalize m3 ++ [Blk.row [.int .i64 k, .int .i64 (nE b), .int .i64 (nN b), .int .i64 a, .nils] false] = B at k4 b4
  have o4 := k4.own o3 (by simp)
  have KB := (k0.trans K3).trans k4
  have hMl := own_lt o0
  have hK3l := K3.len
  refine (ans_scright (nE b) (nN b) a B).mono ?_
  rintro _ M2 ⟨rfl, hM⟩
  subst hM
  by_cases h5 : rightP (nE b) (nN b) a
  ·simp -implicitDefEqProofs (disch := (first | omega | (simp only [lq15] <;> omega) | fail)) only [admQ, lq15, aFill, AK.cls, implies_true, if_true, if_false, seval, -List.reduceReplicate, dec_t h5, Bool.not_true, rowOf_own b4]
   obtain ⟨a, rfl⟩ : ∃ a' : Nat, a = a' := ⟨a.toNat, by have := h5.1; omega⟩
   have ha := h5.2.2
   refine (ans_schead k a (by omega) M2).mono ?_
   rintro y1 m5 ⟨k5, g5⟩
   have b5 := k5.own b4 (by simp)
   have K5 := KB.trans k5
   have hy5 := hy.kept0 K5
   have hdr := hy5.drop (k := 17) (by omega)
   simp -implicitDefEqProofs (disch := (first | omega | (simp only [lq15] <;> omega) | fail)) only [admQ, lq15, aFill, AK.cls, implies_true, if_true, if_false, seval, -List.reduceReplicate, rowOf_own b5, rowOf_own b4, cyn_open c, opW_invoke _ (cym_open c), opDW_invoke _ (cym_open c)]
   refine (ans_cyopenS (e := nE b) (n := nN b) (hC.kept0 K5) g5.rd hdr hk ⟨by rw [headB_len]; omega, by rw [List.length_drop]; omega⟩).mono ?_
   rintro _ m6 ⟨k6, w, rfl, rs6⟩
   have rw6 := rs6.rd
   have lw6 := rs6.low
   have b6 := k6.own b5 (by simp)
   have K6 := K5.trans k6
   have o6 := (k5.trans k6).own o4 (by simp)
   have h8 := K6.len
   have hne : m3.length ≠ m.length := by omega
   cases hop : cyOp c (nE b) (nN b) (headB k a) (b.drop 17) with
   | none =>
    have he : getE c k a b = 19 := by rw [getE, if_neg h1, if_neg h2, if_neg (by rintro (h | h); exact h3 h; exact h h4), if_neg (by simpa using h5), Int.toNat_natCast, hop]
    simp -implicitDefEqProofs (disch := (first | omega | (simp only [lq15] <;> omega) | fail)) only [admQ, lq15, aFill, AK.cls, implies_true, if_true, if_false, seval, -List.reduceReplicate, rowOf_own b6, rowOf_own b5, rowOf_own b4, Option.isSome_none, Bool.not_false, o6, own_set (own_lt o6), rowOf_own (own_set (own_lt o6) _)]
    exact hno _ _ (by omega) he (K6.write (.inr (Nat.le_refl _)) _)
   | some pl =>
    have he : getE c k a b = 0 := by rw [getE, if_neg h1, if_neg h2, if_neg (by rintro (h | h); exact h3 h; exact h h4), if_neg (by simpa using h5), Int.toNat_natCast, hop]
    have hs : getS c k a b = ⟨k, nE b, nN b, a, pl⟩ := by rw [getS, if_pos he, Int.toNat_natCast, hop]; rfl
    have w1 := own_set (own_lt b6) [AV.int .i64 k, .int .i64 (nE b), .int .i64 (nN b), .int .i64 a, w]
    have o7 := own_set_ne' o6 hne (.row [AV.int .i64 k, .int .i64 (nE b), .int .i64 (nN b), .int .i64 a, w] false)
    rw [hop] at rw6 rs6
    simp -implicitDefEqProofs (disch := (first | omega | (simp only [lq15] <;> omega) | fail)) only [admQ, lq15, aFill, AK.cls, implies_true, if_true, if_false, seval, -List.reduceReplicate, rowOf_own b6, rowOf_own b5, rowOf_own b4, Option.isSome_some, Bool.not_true, b6, (rd_one rw6).1, (rd_one rw6).2, rowOf_own w1, w1, o7, own_set (own_lt o7), rowOf_own (own_set (own_lt o7) _)]
    have KX := (Kept.set (X := [m.length, m3.length]) m6 m3.length (.row [AV.int .i64 k, .int .i64 (nE b), .int .i64 (nN b), .int .i64 a, w] false) (by simp)).trans (.set _ m.length (.row [AV.int .i64 k, .int .i64 (nE b), .int .i64 (nN b), .int .i64 a, w] false) (by simp))
    refine ⟨(K6.write (.inr (by omega)) _).write (.inr (Nat.le_refl _)) _, w, by rw [hs, he]; rfl, ?_⟩
    rw [hs]
    refine (rs6.weak K5.len).kept KX fun q hq hX => ?_
    have h9 := lw6 q hq
    have h10 := K5.len
    have h11 := own_lt b5
    have h12 := own_lt (k5.own o4 (by simp))
    simp only [List.mem_cons, List.not_mem_nil, or_false] at hX
    omega
  ·have he : getE c k a b = 7 := by rw [getE, if_neg h1, if_neg h2, if_neg (by rintro (h | h); exact h3 h; exact h h4), if_pos h5]
   simp -implicitDefEqProofs (disch := (first | omega | (simp only [lq15] <;> omega) | fail)) only [admQ, lq15, aFill, AK.cls, implies_true, if_true, if_false, seval, -List.reduceReplicate, dec_f h5, Bool.not_false, o4, own_set (own_lt o4), rowOf_own (own_set (own_lt o4) _)]
   exact hno _ _ (by omega) he (KB.write (.inr (Nat.le_refl _)) _)
 ·have he : getE c k a b = 5 := by rw [getE, if_neg h1, if_neg h2, if_pos (.inr h4)]
  simp -implicitDefEqProofs (disch := (first | omega | (simp only [lq15] <;> omega) | fail)) only [admQ, lq15, aFill, AK.cls, implies_true, if_true, if_false, seval, -List.reduceReplicate, beq_eq_false_iff_ne.mpr h4, Bool.not_false, o0, own_set (own_lt o0), rowOf_own (own_set (own_lt o0) _)]
  exact hno _ _ (by omega) he (k0.write (.inr (Nat.le_refl _)) _)
theorem ans_scget {m : Mem} {x : Nat} {W R : List Nat} {c : CyS} {k a : Int} {y : AV} {b : List B8} (hC : Cy m x W R c) (hy : RdB m y b) (hk : cyOk c 1000) (hl : b.length ≤ 100000) :
  Ans Tryz.prog 34 [.iface (cyT c) (.ptr x 0), .int .i64 k, .int .i64 a, y] m fun r m' => Kept [] m m' ∧ ∃ w, r = .tup [secV (getS c k a b) w, .int .i64 (getE c k a b)] ∧ RdB m' w (getS c k a b).p ∧ ∀ q ∈ blkOf w, m.length ≤ q :=
 (ans_scgetS hC hy hk hl).mono fun r m' ⟨h1, w, h2, h3⟩ => ⟨h1, w, h2, h3.rd, h3.low⟩
end Go.Proofs.YtoegmnnecanhfaaGreatDoor
end
section
namespace Go.Proofs.YtoegmnnecanhfaaGreatDoor
open Go Go.Adm
set_option linter.unusedSimpArgs false
set_option linter.unusedVariables false
set_option maxRecDepth 100000
theorem intB_num {v : Nat} (h : v < 9223372036854775808) : intB (numB v) = v := by
 rw [intB, beN_numB (by omega), wrap_i64 (by omega) (by omega)]
theorem kB_nat {k : Int} (h : 1 ≤ k ∧ k ≤ 5) : ((kB k).toNat : Int) = k := by
 have : k = 1 ∨ k = 2 ∨ k = 3 ∨ k = 4 ∨ k = 5 := by omega
 rcases this with rfl | rfl | rfl | rfl | rfl <;> decide
theorem okP_may {s : Sec} (h : okP s) : mayP (secD s) := ⟨⟨h.2.1.1.1, h.2.1.2.1.1⟩, h.2.1.1.2.1, h.2.1.2.1.2⟩
def cyHas : CyS → CyS → Sd → Prop
 | .box k, .box k2, _ => k2 = k
 | .nm S _, .nm S2 _, d => fidx d S2 = some (posN d S - 1)
 | _, _, _ => False
theorem cyHas_nx (c : CyS) {d : Sd} (hd : mayP d) : cyHas c (cyNx c d) d := by
 cases c with
 | box k => rfl
 | nm S T => simp only [cyNx, cyHas, sealS2, if_pos hd]; exact fidx_addself d S
theorem cySl_has {c : CyS} {d : Sd} (hd : mayP d) : (cySl c d).length = d.2.2.2.length + 32 := by
 cases c with
 | box key => simp only [cySl, if_pos hd, sealB_len]
 | nm S T => simp only [cySl, sealR, if_pos hd, nsealB_len]
theorem cyOp_seal {c c2 : CyS} {d : Sd} (hd : mayP d) (h : cyHas c c2 d) : cyOp c2 d.1 d.2.1 d.2.2.1 (cySl c d) = some d.2.2.2 := by
 cases c with
 | box k => cases c2 with
  | box k2 =>
   simp only [cyHas] at h
   subst h
   have hs : cySl (.box k2) d = sealB k2 d.2.2.1 d.1 d.2.1 d.2.2.2 := by simp only [cySl, if_pos hd]
   rw [hs, cyOp, if_pos (openP_seal _ hd), sealB_take, turnB_back]
  | nm S2 T2 => exact h.elim
 | nm S T => cases c2 with
  | box k2 => exact h.elim
  | nm S2 T2 =>
   obtain ⟨e, n, hd', pl⟩ := d
   simp only [cyHas] at h
   obtain ⟨h1, h2⟩ := nopenP_seal S2 h
   have hs : cySl (.nm S T) (e, n, hd', pl) = nsealB S (e, n, hd', pl) := by simp only [cySl, sealR, if_pos hd]
   rw [hs, cyOp, if_pos h1, h2]
theorem putL_len {c : CyS} {s : Sec} (h : okP s) : (putL c s).length = 49 + s.p.length := by
 rw [putL, if_pos h, putB]
 simp only [List.length_append, List.length_cons, numB_len, cySl_has (okP_may h)]
 simp only [secD]; omega
theorem putL_parts {c : CyS} {s : Sec} (h : okP s) : kindB (putL c s) = s.k ∧ nE (putL c s) = s.e ∧ nN (putL c s) = s.n ∧ (putL c s).drop 17 = cySl c (secD s) := by
 have hl := putL_len (c := c) h
 rw [putL, if_pos h, putB] at hl ⊢
 have hr := h.2.1
 simp only [rightP] at hr
 have hk := kB_nat h.1
 have l1 : (kB s.k :: numB s.e.toNat).length = 9 := by simp [numB_len]
 have l2 : (kB s.k :: numB s.e.toNat ++ numB s.n.toNat).length = 17 := by simp [numB_len]
 refine ⟨?_, ?_, ?_, List.drop_left' l2⟩
 ·unfold kindB
  have e0 : gb (kB s.k :: numB s.e.toNat ++ numB s.n.toNat ++ cySl c (secD s)) 0 = kB s.k := rfl
  rw [e0, if_neg (by have := h.1; omega), hk]
 ·unfold nE
  rw [List.append_assoc, List.cons_append, List.drop_succ_cons, List.drop_zero, List.take_left' (numB_len _), intB_num (by omega)]
  omega
 ·unfold nN
  rw [List.append_assoc, List.drop_left' l1, List.take_left' (numB_len _), intB_num (by omega)]
  omega
theorem get_put {c c2 : CyS} {s : Sec} (h : okP s) (hc : cyHas c c2 (secD s)) : getE c2 s.k s.a (putL c s) = 0 ∧ getS c2 s.k s.a (putL c s) = s := by
 obtain ⟨h1, h2, h3, h4⟩ := putL_parts (c := c) h
 have hl := putL_len (c := c) h
 have ho : cyOp c2 s.e s.n (headB s.k s.a.toNat) (cySl c (secD s)) = some s.p := cyOp_seal (okP_may h) hc
 have he : getE c2 s.k s.a (putL c s) = 0 := by
  have := h.1
  have := h.2.2
  rw [getE, if_neg (by omega), if_neg (by omega), if_neg (by rw [h1]; omega), h2, h3, h4, ho, if_neg (by simpa using h.2.1)]
 refine ⟨he, ?_⟩
 rw [getS, if_pos he, h2, h3, h4, ho]
 rfl
end Go.Proofs.YtoegmnnecanhfaaGreatDoor
end
section
namespace Go.Proofs.YtoegmnnecanhfaaGreatDoor
open Go Go.Adm
set_option linter.unusedSimpArgs false
set_option linter.unusedVariables false
set_option maxRecDepth 100000
end Go.Proofs.YtoegmnnecanhfaaGreatDoor
end
section
namespace Go.Proofs.YtoegmnnecanhfaaGreatDoor
open Go Go.Adm
set_option linter.unusedSimpArgs false
set_option linter.unusedVariables false
set_option maxRecDepth 100000
end Go.Proofs.YtoegmnnecanhfaaGreatDoor
end
section
namespace Go.Proofs.YtoegmnnecanhfaaGreatDoor
open Go Go.Adm
set_option linter.unusedSimpArgs false
set_option linter.unusedVariables false
set_option maxRecDepth 100000
theorem putC_ok {c : CyS} {s : Sec} (h : okP s) : cyHas c (putC c s) (secD s) := by rw [putC, if_pos h]; exact cyHas_nx c (okP_may h)
def putS (S : List Sd) (s : Sec) : List Sd := if okP s then sealS2 S (secD s) else S
theorem putC_nm (S : List Sd) (T : List (List B8)) (s : Sec) : putC (.nm S T) s = .nm (putS S s) T := by
 unfold putC putS; split <;> rfl
theorem putS_len (S : List Sd) (s : Sec) : (putS S s).length ≤ S.length + 1 := by
 unfold putS; split
 ·exact sealS2_len _ _
 ·omega
end Go.Proofs.YtoegmnnecanhfaaGreatDoor
end
section
namespace Go.Proofs.YtoegmnnecanhfaaGreatDoor
open Go Go.Adm
set_option linter.unusedSimpArgs false
set_option linter.unusedVariables false
set_option maxRecDepth 100000
theorem cyOk_mono {c : CyS} {k k' : Nat} (h : cyOk c k) (hk : k ≤ k') : cyOk c k' := by
 cases c with
 | box key => exact trivial
 | nm S T => exact Nat.le_trans h hk
theorem cyT_put (c : CyS) (s : Sec) : cyT (putC c s) = cyT c := by
 unfold putC; split
 ·exact cyT_nx _ _
 ·rfl
end Go.Proofs.YtoegmnnecanhfaaGreatDoor
end
section
namespace Go.Proofs.YtoegmnnecanhfaaGreatDoor
open Go Go.Adm
set_option linter.unusedSimpArgs false
set_option linter.unusedVariables false
set_option maxRecDepth 100000
end Go.Proofs.YtoegmnnecanhfaaGreatDoor
end
section
namespace Go.Proofs.YtoegmnnecanhfaaGreatDoor
open Go Go.Adm
set_option linter.unusedSimpArgs false
set_option linter.unusedVariables false
set_option maxRecDepth 100000
structure Geo where
 s : Int
 n : Int
 b : Int
deriving DecidableEq
def geoC (g : Geo) : List AV := [.int .i64 g.s, .int .i64 g.n, .int .i64 g.b]
def geoV (g : Geo) : AV := .agg (geoC g)
def needG (n b : Nat) : Nat := (b * 4 + n - 2) / (n - 1)
def leanG (n : Nat) : Nat := (n - 1) / 5
def inG (g : Geo) : Prop := (16 ≤ g.s ∧ g.s ≤ 32) ∧ (32 ≤ g.n ∧ g.n ≤ 64) ∧ 1 ≤ g.b ∧ g.b ≤ 64
instance (g : Geo) : Decidable (inG g) := by unfold inG; infer_instance
def okG (g : Geo) : Prop := inG g ∧ g.b + 9 < (g.s - needG g.n.toNat g.b.toNat - 14) * (leanG g.n.toNat + 1)
instance (g : Geo) : Decidable (okG g) := by unfold okG; infer_instance
def errG (g : Geo) : Int := if okG g then 0 else 15
theorem errG_ok (g : Geo) : errG g = 0 ↔ okG g := by unfold errG; split <;> simp [*]
theorem take3 {xs : List AV} {i : Nat} {a b c : AV} (h1 : xs[i]? = some a) (h2 : xs[i + 1]? = some b) (h3 : xs[i + 2]? = some c) : List.take 3 (List.drop i xs) = [a, b, c] := by
 have e1 := List.getElem?_eq_some_iff.mp h1
 have e2 := List.getElem?_eq_some_iff.mp h2
 have e3 := List.getElem?_eq_some_iff.mp h3
 rw [List.drop_eq_getElem_cons e1.1, List.drop_eq_getElem_cons e2.1, List.drop_eq_getElem_cons e3.1, e1.2, e2.2, e3.2]
 rfl
def spanP (t : Int × Int × Int) : Bool := decide (t.2.1 ≤ t.1) && decide (t.1 ≤ t.2.2)
theorem ans_gwithin {m : Mem} {p k : Nat} {xs : List AV} {L : List (Int × Int × Int)} (hp : rowOf m p = some xs) (hk : L.length = k) (hs : k ≤ 1000)
  (hel : ∀ (i : Nat) t, L[i]? = some t → xs[i * 3]? = some (.int .i64 t.1) ∧ xs[i * 3 + 1]? = some (.int .i64 t.2.1) ∧ xs[i * 3 + 2]? = some (.int .i64 t.2.2)) :
  Ans Tryz.prog 100 [.sl p 0 k k 0] m fun r m' => r = .bool (L.all spanP) ∧ Kept [] m m' := by
 refine ans_ret mixed ok100 ?_
 simp -implicitDefEqProofs (disch := (first | omega | (simp only [lq15] <;> omega) | fail)) only [admQ, lq15, aFill, AK.cls, implies_true, if_true, if_false, seval, -List.reduceReplicate, c100, r100]
 refine LoopW.on (fun i : Nat => [(5, .sl p 0 k k 0), (6, .int .i64 k), (7, .int .i64 i)]) (fun i => k - i) (fun i M => i ≤ k ∧ Kept [] m M ∧ (L.take i).all spanP = true) ?_ 0 _ _ rfl ⟨Nat.zero_le _, .refl _ _, by simp⟩
 rintro i M X ⟨hi, kk, hall⟩ hX
 by_cases hlt : i < k
 ·obtain ⟨t, ht⟩ : ∃ t, L[i]? = some t := ⟨_, List.getElem?_eq_getElem (by omega)⟩
  obtain ⟨a1, a2, a3⟩ := hel i t ht
  have t3 := take3 a1 a2 a3
  have hl3 := lt_of_get a3
  have hr := kk.row hp (by simp)
  have hsplit : L.take (i + 1) = L.take i ++ [t] := by rw [List.take_add_one, ht]; rfl
  have hL : spanP t = false → L.all spanP = false := fun h => by
   rw [List.all_eq_false]
   exact ⟨t, List.mem_of_getElem? ht, by simp [h]⟩
  by_cases h1 : t.1 < t.2.1
  ·have hf : spanP t = false := by simp [spanP]; omega
   simp -implicitDefEqProofs (disch := (first | omega | (simp only [lq15] <;> omega) | fail)) only [admQ, lq15, aFill, AK.cls, implies_true, if_true, if_false, seval, -List.reduceReplicate, dec_t (show (i : Int) < k by omega), hr, a1, a2, a3, t3, dec_t h1]
   exact ⟨by rw [hL hf], kk.more_app _⟩
  ·by_cases h2 : t.1 > t.2.2
   ·have hf : spanP t = false := by simp [spanP]; omega
    simp -implicitDefEqProofs (disch := (first | omega | (simp only [lq15] <;> omega) | fail)) only [admQ, lq15, aFill, AK.cls, implies_true, if_true, if_false, seval, -List.reduceReplicate, dec_t (show (i : Int) < k by omega), hr, a1, a2, a3, t3, dec_f h1, dec_t h2]
    exact ⟨by rw [hL hf], kk.more_app _⟩
   ·have hf : spanP t = true := by simp [spanP]; omega
    simp -implicitDefEqProofs (disch := (first | omega | (simp only [lq15] <;> omega) | fail)) only [admQ, lq15, aFill, AK.cls, implies_true, if_true, if_false, seval, -List.reduceReplicate, dec_t (show (i : Int) < k by omega), hr, a1, a2, a3, t3, dec_f h1, dec_f h2]
    exact hX (i + 1) _ _ rfl (by omega) ⟨by omega, kk.more_app _, by rw [hsplit, List.all_append, hall]; simp [hf]⟩
 ·obtain rfl : i = k := by omega
  simp -implicitDefEqProofs (disch := (first | omega | (simp only [lq15] <;> omega) | fail)) only [admQ, lq15, aFill, AK.cls, implies_true, if_true, if_false, seval, -List.reduceReplicate]
  rw [← hk, List.take_length] at hall
  exact ⟨by rw [hall], kk⟩
theorem ans_gneed (s n b : Nat) (hn : 2 ≤ n ∧ n ≤ 1000000) (hb : b ≤ 1000000) (x : AV) (m : Mem) : Ans Tryz.prog 101 [geoV ⟨s, n, b⟩, .int .i64 b] m fun r m' => r = .int .i64 (needG n b : Nat) ∧ Kept [] m m' := by
 refine ans_ret mixed ok101 ?_
 unfold geoV geoC
 have hq : (b * 4 + n - 2) / (n - 1) ≤ b * 4 + n - 2 := Nat.div_le_self _ _
 have hw0 : ∀ q : Nat, q ≤ 5000000 → IntKind.i64.wrap (q : Int) = q := fun q h => wrap_i64 (by omega) (by omega)
 have hw := hw0 ((b * 4 + n - 2) / (n - 1)) (by omega)
 simp -implicitDefEqProofs (disch := (first | omega | (simp only [lq15] <;> omega) | fail)) only [admQ, lq15, aFill, AK.cls, implies_true, if_true, if_false, seval, -List.reduceReplicate, c101, r101, hw]
 exact ⟨rfl, .app _ _ _⟩
theorem ans_glean (s n b : Nat) (hn : 1 ≤ n ∧ n ≤ 1000000) (m : Mem) : Ans Tryz.prog 102 [geoV ⟨s, n, b⟩] m fun r m' => r = .int .i64 (leanG n : Nat) ∧ Kept [] m m' := by
 refine ans_ret mixed ok102 ?_
 unfold geoV geoC
 simp -implicitDefEqProofs (disch := (first | omega | (simp only [lq15] <;> omega) | fail)) only [admQ, lq15, aFill, AK.cls, implies_true, if_true, if_false, seval, -List.reduceReplicate, c102, r102]
 exact ⟨rfl, .app _ _ _⟩
theorem ans_gmay (g : Geo) (m : Mem) : Ans Tryz.prog 82 [geoV g] m fun r m' => r = .bool (decide (okG g)) ∧ Kept [] m m' := by
 refine ans_ret mixed ok82 ?_
 unfold geoV geoC
 have k0 := Kept.app [] m [.row [.int .i64 g.s, .int .i64 g.n, .int .i64 g.b] false]
 have o0 : own (m ++ [.row [.int .i64 g.s, .int .i64 g.n, .int .i64 g.b] false]) m.length = some [.int .i64 g.s, .int .i64 g.n, .int .i64 g.b] := by rw [own_app_at0]; rfl
 simp -implicitDefEqProofs (disch := (first | omega | (simp only [lq15] <;> omega) | fail)) only [admQ, lq15, aFill, AK.cls, implies_true, if_true, if_false, seval, -List.reduceReplicate, c82, r82]
 generalize m ++ [.row [.int .i64 g.s, .int .i64 g.n, .int .i64 g.b] false] = A at *
 refine someW_eq (show _ = some [AV.int .i64 g.s, .int .i64 16, .int .i64 32, .int .i64 g.n, .int .i64 32, .int .i64 64, .int .i64 g.b, .int .i64 1, .int .i64 64] from rfl) ?_
 simp -implicitDefEqProofs (disch := (first | omega | (simp only [lq15] <;> omega) | fail)) only [admQ, lq15, aFill, AK.cls, implies_true, if_true, if_false, seval, -List.reduceReplicate, rowOf_own o0]
 generalize hB : A ++ _ = B
 have k1 : Kept [] A B := by rw [← hB]; exact .app _ _ _
 have o1 : own B A.length = some [AV.int .i64 g.s, .int .i64 16, .int .i64 32, .int .i64 g.n, .int .i64 32, .int .i64 64, .int .i64 g.b, .int .i64 1, .int .i64 64] := by rw [← hB, own_app_at0]; rfl
 clear hB
 have p0 := k1.own o0 (by simp)
 refine (ans_gwithin (L := [(g.s, 16, 32), (g.n, 32, 64), (g.b, 1, 64)]) (rowOf_own o1) rfl (show 3 ≤ 1000 by omega) (fun i t ht => ?_)).mono ?_
 ·have hi := lt_of_get ht
  simp only [List.length_cons, List.length_nil] at hi
  match i, hi with
  | 0, _ => cases ht; exact ⟨rfl, rfl, rfl⟩
  | 1, _ => cases ht; exact ⟨rfl, rfl, rfl⟩
  | 2, _ => cases ht; exact ⟨rfl, rfl, rfl⟩
 rintro _ m2 ⟨rfl, k2⟩
 have p2 := k2.own p0 (by simp)
 have K2 := (k0.trans k1).trans k2
 have o2 := k2.own o1 (by simp)
 have hall : [(g.s, (16 : Int), (32 : Int)), (g.n, 32, 64), (g.b, 1, 64)].all spanP = decide (inG g) := by
  rw [Bool.eq_iff_iff]
  simp only [List.all_cons, List.all_nil, spanP, Bool.and_true, Bool.and_eq_true, inG]
  simp [and_assoc]
 rw [hall]
 by_cases hi : inG g
 ·obtain ⟨s, n, b⟩ := g
  have hi' := hi
  simp only [inG] at hi'
  simp only at *
  obtain ⟨s, rfl⟩ : ∃ e' : Nat, s = e' := ⟨s.toNat, by omega⟩
  obtain ⟨n, rfl⟩ : ∃ n' : Nat, n = n' := ⟨n.toNat, by omega⟩
  obtain ⟨b, rfl⟩ : ∃ a' : Nat, b = a' := ⟨b.toNat, by omega⟩
  have hneed : needG n b ≤ 10 := by
   unfold needG
   exact Nat.div_le_of_le_mul (by omega)
  have hlean : leanG n ≤ 12 := by unfold leanG; omega
  simp -implicitDefEqProofs (disch := (first | omega | (simp only [lq15] <;> omega) | fail)) only [admQ, lq15, aFill, AK.cls, implies_true, if_true, if_false, seval, -List.reduceReplicate, dec_t hi, rowOf_own p2, rowOf_own p0, own_some o2]
  refine (ans_gneed s n b (by omega) (by omega) .nils m2).mono ?_
  rintro _ m3 ⟨rfl, k3⟩
  have p3 := k3.own p2 (by simp)
  have o3 := k3.own o2 (by simp)
  have w1 : IntKind.i64.wrap ((s : Int) - (needG n b : Nat)) = (s : Int) - (needG n b : Nat) := wrap_i64 (by omega) (by omega)
  have w2 : IntKind.i64.wrap ((s : Int) - (needG n b : Nat) - 14) = (s : Int) - (needG n b : Nat) - 14 := wrap_i64 (by omega) (by omega)
  simp -implicitDefEqProofs (disch := (first | omega | (simp only [lq15] <;> omega) | fail)) only [admQ, lq15, aFill, AK.cls, implies_true, if_true, if_false, seval, -List.reduceReplicate, rowOf_own p3, rowOf_own p2, rowOf_own p0, own_some o3, w1, w2]
  refine (ans_glean s n b (by omega) m3).mono ?_
  rintro _ m4 ⟨rfl, k4⟩
  have p4 := k4.own p3 (by simp)
  have o4 := k4.own o3 (by simp)
  simp -implicitDefEqProofs (disch := (first | omega | (simp only [lq15] <;> omega) | fail)) only [admQ, lq15, aFill, AK.cls, implies_true, if_true, if_false, seval, -List.reduceReplicate, rowOf_own p4, rowOf_own p3, rowOf_own p2, rowOf_own p0, own_some o4]
  have hx : ((s - needG n b : Nat) : Int) - 14 = (s : Int) - (needG n b : Nat) - 14 := by omega
  have hy : ∀ z : Int, -100 ≤ z → z ≤ 100 → -10000 ≤ z * ((leanG n + 1 : Nat) : Int) ∧ z * ((leanG n + 1 : Nat) : Int) ≤ 10000 := fun z h1 h2 => by
   have : leanG n = 0 ∨ leanG n = 1 ∨ leanG n = 2 ∨ leanG n = 3 ∨ leanG n = 4 ∨ leanG n = 5 ∨ leanG n = 6 ∨ leanG n = 7 ∨ leanG n = 8 ∨ leanG n = 9 ∨ leanG n = 10 ∨ leanG n = 11 ∨ leanG n = 12 := by omega
   rcases this with h | h | h | h | h | h | h | h | h | h | h | h | h <;> rw [h] <;> omega
  rw [hx]
  obtain ⟨y1, y2⟩ := hy ((s : Int) - (needG n b : Nat) - 14) (by omega) (by omega)
  rw [wrap_i64 (by omega) (by omega)]
  refine ⟨?_, (K2.trans k3).trans k4⟩
  congr 2
  simp only [okG, hi, true_and, Int.toNat_natCast, Int.natCast_add, Int.natCast_one]
  rfl
 ·simp -implicitDefEqProofs (disch := (first | omega | (simp only [lq15] <;> omega) | fail)) only [admQ, lq15, aFill, AK.cls, implies_true, if_true, if_false, seval, -List.reduceReplicate, dec_f hi, rowOf_own p2, rowOf_own p0, own_some o2, dec_f (show ¬ okG g from fun h => hi h.1)]
  exact K2
theorem ans_gcheck (g : Geo) (m : Mem) : Ans Tryz.prog 52 [geoV g] m fun r m' => r = .int .i64 (errG g) ∧ Kept [] m m' := by
 refine ans_ret mixed ok52 ?_
 unfold geoV geoC
 have k0 := Kept.app [] m [.row [.int .i64 g.s, .int .i64 g.n, .int .i64 g.b] false]
 simp -implicitDefEqProofs (disch := (first | omega | (simp only [lq15] <;> omega) | fail)) only [admQ, lq15, aFill, AK.cls, implies_true, if_true, if_false, seval, -List.reduceReplicate, c52, r52]
 refine (ans_gmay g _).mono ?_
 rintro _ m1 ⟨rfl, k1⟩
 unfold errG
 by_cases h : okG g
 ·rw [if_pos h]
  simp -implicitDefEqProofs (disch := (first | omega | (simp only [lq15] <;> omega) | fail)) only [admQ, lq15, aFill, AK.cls, implies_true, if_true, if_false, seval, -List.reduceReplicate, dec_t h, Bool.not_true]
  exact k0.trans k1
 ·rw [if_neg h]
  simp -implicitDefEqProofs (disch := (first | omega | (simp only [lq15] <;> omega) | fail)) only [admQ, lq15, aFill, AK.cls, implies_true, if_true, if_false, seval, -List.reduceReplicate, dec_f h, Bool.not_false]
  exact k0.trans k1
end Go.Proofs.YtoegmnnecanhfaaGreatDoor
end
section
namespace Go.Proofs.YtoegmnnecanhfaaGreatDoor
open Go Go.Adm
set_option linter.unusedSimpArgs false
set_option linter.unusedVariables false
set_option maxRecDepth 100000
def Rdr2 (m : Mem) (r : Nat) (l : List B8) (bad : Bool) : Prop := ∃ p o cap sl B, own m r = some [.sl p o l.length cap sl, .bool bad] ∧ own m p = some B ∧ RdB m (.sl p o l.length cap sl) l ∧ p ≠ r
theorem Rdr.two {m : Mem} {r : Nat} {l : List B8} (h : Rdr m r l) : Rdr2 m r l false := h
def rdN (t : List B8 × Bool) : Int := if t.2 = false ∧ 8 ≤ t.1.length then intB (t.1.take 8) else 0
def rdT (t : List B8 × Bool) : List B8 × Bool := if t.2 = false ∧ 8 ≤ t.1.length then (t.1.drop 8, false) else (t.1, true)
theorem ans_print2 {m : Mem} {r : Nat} {l : List B8} {bad : Bool} (h : Rdr2 m r l bad) (hb : l.length ≤ 1000000000) :
  Ans Tryz.prog 69 [.ptr r 0] m fun v m' => v = .int .i64 (rdN (l, bad)) ∧ Kept [r] m m' ∧ Rdr2 m' r (rdT (l, bad)).1 (rdT (l, bad)).2 := by
 by_cases hok : bad = false ∧ 8 ≤ l.length
 ·obtain ⟨rfl, hl⟩ := hok
  rw [rdN, rdT, if_pos ⟨rfl, hl⟩, if_pos ⟨rfl, hl⟩]
  exact ans_print h hl
 ·rw [rdN, rdT, if_neg hok, if_neg hok]
  obtain ⟨p, o, cap, sl, B, h1, h2, h3, h4⟩ := h
  have hr := own_lt h1
  have h1' := own_set hr [AV.sl p o l.length cap sl, .bool true]
  have kX := Kept.set1 m r (.row [AV.sl p o l.length cap sl, .bool true] false)
  have h38 := h3.kept kX (fun b o n cap s e => by cases e; simpa using h4)
  refine ans_ret mixed ok69 ?_
  simp -implicitDefEqProofs (disch := (first | omega | (simp only [lq15] <;> omega) | fail)) only [admQ, lq15, aFill, AK.cls, implies_true, if_true, if_false, seval, -List.reduceReplicate, c69, r69]
  have htk : Ans Tryz.prog 90 [.ptr r 0, .int .i64 8, .fn (.func 91) [] []] m fun v m' => v = .int .i64 0 ∧ Kept [r] m m' ∧ Rdr2 m' r l true := by
   refine ans_ret mixed ok90 ?_
   cases bad with
   | true =>
    simp -implicitDefEqProofs (disch := (first | omega | (simp only [lq15] <;> omega) | fail)) only [admQ, lq15, aFill, AK.cls, implies_true, if_true, if_false, seval, -List.reduceReplicate, c90, r90, rowOf_own h1, h1]
    exact ⟨kX, p, o, cap, sl, B, h1', kX.own h2 (by simpa using h4), h38, h4⟩
   | false =>
    have hlt : ¬ 8 ≤ l.length := fun h => hok ⟨rfl, h⟩
    simp -implicitDefEqProofs (disch := (first | omega | (simp only [lq15] <;> omega) | fail)) only [admQ, lq15, aFill, AK.cls, implies_true, if_true, if_false, seval, -List.reduceReplicate, c90, r90, rowOf_own h1, h1, dec_t (show (l.length : Int) < 8 by omega)]
    exact ⟨kX, p, o, cap, sl, B, h1', kX.own h2 (by simpa using h4), h38, h4⟩
  refine htk.mono ?_
  rintro v m' ⟨rfl, h5, h6⟩
  simp -implicitDefEqProofs (disch := (first | omega | (simp only [lq15] <;> omega) | fail)) only [admQ, lq15, aFill, AK.cls, implies_true, if_true, if_false, seval, -List.reduceReplicate]
  exact ⟨h5, h6⟩
theorem ans_pend {m : Mem} {r : Nat} {l : List B8} {bad : Bool} (h : Rdr2 m r l bad) : Ans Tryz.prog 70 [.ptr r 0] m fun v m' => v = .int .i64 (if bad = true then 4 else if 0 < l.length then 3 else 0) ∧ m' = m := by
 obtain ⟨p, o, cap, sl, B, h1, h2, h3, h4⟩ := h
 refine ans_ret mixed ok70 ?_
 cases bad with
 | true => simp -implicitDefEqProofs (disch := (first | omega | (simp only [lq15] <;> omega) | fail)) only [admQ, lq15, aFill, AK.cls, implies_true, if_true, if_false, seval, -List.reduceReplicate, c70, r70, rowOf_own h1]
 | false =>
  by_cases hl : 0 < l.length
  ·simp -implicitDefEqProofs (disch := (first | omega | (simp only [lq15] <;> omega) | fail)) only [admQ, lq15, aFill, AK.cls, implies_true, if_true, if_false, seval, -List.reduceReplicate, c70, r70, rowOf_own h1, dec_t (show (l.length : Int) > 0 by omega), hl]
  ·simp -implicitDefEqProofs (disch := (first | omega | (simp only [lq15] <;> omega) | fail)) only [admQ, lq15, aFill, AK.cls, implies_true, if_true, if_false, seval, -List.reduceReplicate, c70, r70, rowOf_own h1, dec_f (show ¬ (l.length : Int) > 0 by omega), hl]
def geo0 : Geo := ⟨0, 0, 0⟩
def geoB (g : Geo) : List B8 := numB g.s.toNat ++ numB g.n.toNat ++ numB g.b.toNat
def putG (g : Geo) : List B8 := if okG g then geoB g else []
def rawG (b : List B8) : Geo := ⟨intB (b.take 8), intB ((b.drop 8).take 8), intB ((b.drop 16).take 8)⟩
def getGE (b : List B8) : Int := if b.length < 24 then 4 else if 24 < b.length then 3 else errG (rawG b)
def getG (b : List B8) : Geo := if getGE b = 0 then rawG b else geo0
theorem geoB_len (g : Geo) : (geoB g).length = 24 := by simp [geoB, numB_len]
theorem raw_geoB {g : Geo} (h : okG g) : rawG (geoB g) = g := by
 obtain ⟨s, n, b⟩ := g
 have hi := h.1
 simp only [inG] at hi
 simp only [rawG, geoB, Geo.mk.injEq]
 refine ⟨?_, ?_, ?_⟩
 ·rw [List.append_assoc, List.take_left' (numB_len _), intB_num (by omega)]; omega
 ·rw [List.append_assoc, List.drop_left' (numB_len _), List.take_left' (numB_len _), intB_num (by omega)]; omega
 ·rw [List.drop_left' (by simp [numB_len]), List.take_of_length_le (by simp [numB_len]), intB_num (by omega)]; omega
theorem get_putG {g : Geo} (h : okG g) : getGE (putG g) = 0 ∧ getG (putG g) = g := by
 have hl := geoB_len g
 have he : getGE (putG g) = 0 := by rw [putG, if_pos h, getGE, if_neg (by omega), if_neg (by omega), raw_geoB h]; exact (errG_ok g).mpr h
 refine ⟨he, ?_⟩
 rw [getG, if_pos he, putG, if_pos h, raw_geoB h]
theorem ans_suput (g : Geo) (m : Mem) : Ans Tryz.prog 27 [geoV g] m fun r m' => Kept [] m m' ∧ ∃ w, r = .tup [w, .int .i64 (errG g)] ∧ RdB m' w (putG g) ∧ ∀ q ∈ blkOf w, m.length ≤ q := by
 refine ans_ret mixed ok27 ?_
 unfold geoV geoC
 have k0 := Kept.app [] m [.row [.int .i64 g.s, .int .i64 g.n, .int .i64 g.b] false]
 have o0 : own (m ++ [.row [.int .i64 g.s, .int .i64 g.n, .int .i64 g.b] false]) m.length = some [.int .i64 g.s, .int .i64 g.n, .int .i64 g.b] := by rw [own_app_at0]; rfl
 simp -implicitDefEqProofs (disch := (first | omega | (simp only [lq15] <;> omega) | fail)) only [admQ, lq15, aFill, AK.cls, implies_true, if_true, if_false, seval, -List.reduceReplicate, c27, r27]
 generalize m ++ [.row [.int .i64 g.s, .int .i64 g.n, .int .i64 g.b] false] = A at *
 refine (ans_gcheck g _).mono ?_
 rintro _ m1 ⟨rfl, k1⟩
 have o1 := k1.own o0 (by simp)
 have K1 := k0.trans k1
 by_cases h : okG g
 ·have he := (errG_ok g).mpr h
  rw [he]
  obtain ⟨s, n, b⟩ := g
  have hi := h.1
  simp only [inG] at hi
  simp only at *
  obtain ⟨s, rfl⟩ : ∃ e' : Nat, s = e' := ⟨s.toNat, by omega⟩
  obtain ⟨n, rfl⟩ : ∃ n' : Nat, n = n' := ⟨n.toNat, by omega⟩
  obtain ⟨b, rfl⟩ : ∃ a' : Nat, b = a' := ⟨b.toNat, by omega⟩
  simp -implicitDefEqProofs (disch := (first | omega | (simp only [lq15] <;> omega) | fail)) only [admQ, lq15, aFill, AK.cls, implies_true, if_true, if_false, seval, -List.reduceReplicate, rowOf_own o1]
  refine (ans_pint s (by omega) (.nils m1) (by simp)).mono ?_
  rintro y1 m2 ⟨k2, g2⟩
  have o2 := k2.own o1 (by simp)
  rw [List.nil_append] at g2
  simp -implicitDefEqProofs (disch := (first | omega | (simp only [lq15] <;> omega) | fail)) only [admQ, lq15, aFill, AK.cls, implies_true, if_true, if_false, seval, -List.reduceReplicate, rowOf_own o1, rowOf_own o2]
  refine (ans_pint n (by omega) g2.rd (by simp [numB_len])).mono ?_
  rintro y2 m3 ⟨k3, g3⟩
  have o3 := k3.own o2 (by simp)
  simp -implicitDefEqProofs (disch := (first | omega | (simp only [lq15] <;> omega) | fail)) only [admQ, lq15, aFill, AK.cls, implies_true, if_true, if_false, seval, -List.reduceReplicate, rowOf_own o1, rowOf_own o2, rowOf_own o3]
  refine (ans_pint b (by omega) g3.rd (by simp [numB_len])).mono ?_
  rintro y3 m4 ⟨k4, g4⟩
  have o4 := k4.own o3 (by simp)
  simp -implicitDefEqProofs (disch := (first | omega | (simp only [lq15] <;> omega) | fail)) only [admQ, lq15, aFill, AK.cls, implies_true, if_true, if_false, seval, -List.reduceReplicate, rowOf_own o1, rowOf_own o2, rowOf_own o3, rowOf_own o4]
  have l1 := K1.len
  have l2 := k2.len
  have l3 := k3.len
  refine ⟨(K1.trans k2).trans (k3.trans k4), y3, rfl, ?_, fun q hq => by have := g4.low q hq; omega⟩
  rw [putG, if_pos h, geoB]
  simpa using g4.rd
 ·have he : errG g = 15 := if_neg h
  rw [he]
  simp -implicitDefEqProofs (disch := (first | omega | (simp only [lq15] <;> omega) | fail)) only [admQ, lq15, aFill, AK.cls, implies_true, if_true, if_false, seval, -List.reduceReplicate]
  exact ⟨K1, .nils, rfl, by rw [putG, if_neg h]; exact .nils _, by simp [blkOf]⟩
theorem rdT_len (t : List B8 × Bool) : (rdT t).1.length ≤ t.1.length := by unfold rdT; split <;> simp
theorem rdT_bad (l : List B8) : rdT (l, true) = (l, true) := by simp [rdT]
theorem rdT_short {l : List B8} (h : l.length < 8) : rdT (l, false) = (l, true) := by rw [rdT, if_neg (by simp; omega)]
theorem rdT_ok {l : List B8} (h : 8 ≤ l.length) : rdT (l, false) = (l.drop 8, false) ∧ rdN (l, false) = intB (l.take 8) := by rw [rdT, rdN, if_pos ⟨rfl, h⟩, if_pos ⟨rfl, h⟩]; exact ⟨rfl, rfl⟩
theorem rd_three {b : List B8} : (if (rdT (rdT (rdT (b, false)))).2 = true then (4 : Int) else if 0 < (rdT (rdT (rdT (b, false)))).1.length then 3 else 0) = (if b.length < 24 then 4 else if 24 < b.length then 3 else 0) ∧
  (24 ≤ b.length → rawG b = ⟨rdN (b, false), rdN (rdT (b, false)), rdN (rdT (rdT (b, false)))⟩) := by
 by_cases h1 : b.length < 8
 ·rw [rdT_short h1, rdT_bad, rdT_bad, if_pos rfl, if_pos (by omega)]
  exact ⟨rfl, fun h => by omega⟩
 ·obtain ⟨a1, a2⟩ := rdT_ok (l := b) (by omega)
  rw [a1]
  by_cases h2 : b.length < 16
  ·rw [rdT_short (l := b.drop 8) (by rw [List.length_drop]; omega), rdT_bad, if_pos rfl, if_pos (by omega)]
   exact ⟨rfl, fun h => by omega⟩
  ·obtain ⟨b1, b2⟩ := rdT_ok (l := b.drop 8) (by rw [List.length_drop]; omega)
   rw [b1, List.drop_drop]
   by_cases h3 : b.length < 24
   ·rw [rdT_short (l := b.drop (8 + 8)) (by rw [List.length_drop]; omega), if_pos rfl, if_pos h3]
    exact ⟨rfl, fun h => by omega⟩
   ·obtain ⟨c1, c2⟩ := rdT_ok (l := b.drop (8 + 8)) (by rw [List.length_drop]; omega)
    rw [c1, if_neg (by simp), if_neg h3, List.drop_drop, List.length_drop, a2, b2, c2]
    refine ⟨?_, fun _ => rfl⟩
    by_cases h4 : 24 < b.length
    ·rw [if_pos (by omega), if_pos h4]
    ·rw [if_neg (by omega), if_neg h4]
theorem ans_suget {m : Mem} {x : AV} {b : List B8} (hx : RdB m x b) (hl : b.length ≤ 100000) : Ans Tryz.prog 35 [x] m fun r m' => Kept [] m m' ∧ r = .tup [geoV (getG b), .int .i64 (getGE b)] := by
 refine ans_ret mixed ok35 ?_
 simp -implicitDefEqProofs (disch := (first | omega | (simp only [lq15] <;> omega) | fail)) only [admQ, lq15, aFill, AK.cls, implies_true, if_true, if_false, seval, -List.reduceReplicate, c35, r35]
 have k0 := Kept.app [] m [.row [.int .i64 0, .int .i64 0, .int .i64 0] false]
 have o0 : own (m ++ [.row [.int .i64 0, .int .i64 0, .int .i64 0] false]) m.length = some [.int .i64 0, .int .i64 0, .int .i64 0] := by rw [own_app_at0]; rfl
 generalize m ++ [.row [.int .i64 0, .int .i64 0, .int .i64 0] false] = A at *
 refine (ans_pread (hx.kept0 k0) (by omega)).mono ?_
 rintro _ m1 ⟨k1, p, rfl, hp, hR⟩
 simp -implicitDefEqProofs (disch := (first | omega | (simp only [lq15] <;> omega) | fail)) only [admQ, lq15, aFill, AK.cls, implies_true, if_true, if_false, seval, -List.reduceReplicate]
 refine (ans_print2 hR.two (by omega)).mono ?_
 rintro _ m2 ⟨rfl, k2, hR2⟩
 have hl1 := rdT_len (b, false)
 simp only at hl1
 simp -implicitDefEqProofs (disch := (first | omega | (simp only [lq15] <;> omega) | fail)) only [admQ, lq15, aFill, AK.cls, implies_true, if_true, if_false, seval, -List.reduceReplicate]
 refine (ans_print2 hR2 (by omega)).mono ?_
 rintro _ m3 ⟨rfl, k3, hR3⟩
 have hl2 := rdT_len (rdT (b, false))
 simp -implicitDefEqProofs (disch := (first | omega | (simp only [lq15] <;> omega) | fail)) only [admQ, lq15, aFill, AK.cls, implies_true, if_true, if_false, seval, -List.reduceReplicate]
 refine (ans_print2 hR3 (Nat.le_trans hl2 (by omega))).mono ?_
 rintro _ m4 ⟨rfl, k4, hR4⟩
 obtain ⟨q1, q2⟩ := rd_three (b := b)
 have hpl := hR4
 simp only [Prod.eta] at hR4 ⊢
 generalize hv1 : rdN (b, false) = v1 at q2 ⊢
 generalize hv2 : rdN (rdT (b, false)) = v2 at q2 ⊢
 generalize hv3 : rdN (rdT (rdT (b, false))) = v3 at q2 ⊢
 simp -implicitDefEqProofs (disch := (first | omega | (simp only [lq15] <;> omega) | fail)) only [admQ, lq15, aFill, AK.cls, implies_true, if_true, if_false, seval, -List.reduceReplicate]
 have K4 : Kept [] A m4 := ((k1.upon k2 (by simpa using hp)).upon k3 (by simpa using hp)).upon k4 (by simpa using hp)
 have k5 := Kept.app [] m4 [.row [.int .i64 v1, .int .i64 v2, .int .i64 v3] false]
 have o5 : own (m4 ++ [.row [.int .i64 v1, .int .i64 v2, .int .i64 v3] false]) m4.length = some [.int .i64 v1, .int .i64 v2, .int .i64 v3] := by rw [own_app_at0]; rfl
 generalize m4 ++ [.row [.int .i64 v1, .int .i64 v2, .int .i64 v3] false] = B at *
 have o5' := (K4.trans k5).own o0 (by simp)
 have hR5 : Rdr2 B p (rdT (rdT (rdT (b, false)))).1 (rdT (rdT (rdT (b, false)))).2 := by
  obtain ⟨p', o, cap, sl, C, h1, h2, h3, h4⟩ := hR4
  exact ⟨p', o, cap, sl, C, k5.own h1 (by simp), k5.own h2 (by simp), h3.kept0 k5, h4⟩
 refine (ans_pend hR5).mono ?_
 rintro _ M ⟨rfl, hM⟩
 subst hM
 rw [q1]
 have KB := (k0.trans K4).trans k5
 have lA := own_lt o0
 have lB := (K4.trans k5).len
 have fin0 : ∀ (m' : Mem) (e : Int), e ≠ 0 → getGE b = e → Kept [] m m' → Kept [] m m' ∧ AV.tup [.agg [.int .i64 0, .int .i64 0, .int .i64 0], .int .i64 e] = .tup [geoV (getG b), .int .i64 (getGE b)] := fun m' e h0 he hk => by
  refine ⟨hk, ?_⟩
  rw [he, getG, he, if_neg h0]; rfl
 by_cases h1 : b.length < 24
 ·have he : getGE b = 4 := by rw [getGE, if_pos h1]
  rw [if_pos h1]
  simp -implicitDefEqProofs (disch := (first | omega | (simp only [lq15] <;> omega) | fail)) only [admQ, lq15, aFill, AK.cls, implies_true, if_true, if_false, seval, -List.reduceReplicate, o5', own_set (own_lt o5'), rowOf_own (own_set (own_lt o5') _)]
  exact fin0 _ _ (by omega) he (KB.write (.inr (Nat.le_refl _)) _)
 by_cases h2 : 24 < b.length
 ·have he : getGE b = 3 := by rw [getGE, if_neg h1, if_pos h2]
  rw [if_neg h1, if_pos h2]
  simp -implicitDefEqProofs (disch := (first | omega | (simp only [lq15] <;> omega) | fail)) only [admQ, lq15, aFill, AK.cls, implies_true, if_true, if_false, seval, -List.reduceReplicate, o5', own_set (own_lt o5'), rowOf_own (own_set (own_lt o5') _)]
  exact fin0 _ _ (by omega) he (KB.write (.inr (Nat.le_refl _)) _)
 have hraw := q2 (by omega)
 rw [if_neg h1, if_neg h2]
 simp -implicitDefEqProofs (disch := (first | omega | (simp only [lq15] <;> omega) | fail)) only [admQ, lq15, aFill, AK.cls, implies_true, if_true, if_false, seval, -List.reduceReplicate, rowOf_own o5]
 refine (ans_gcheck ⟨v1, v2, v3⟩ M).mono ?_
 rintro _ m6 ⟨rfl, k6⟩
 have o6 := k6.own o5 (by simp)
 have o6' := k6.own o5' (by simp)
 have he : getGE b = errG ⟨v1, v2, v3⟩ := by rw [getGE, if_neg h1, if_neg h2, hraw]
 have K6 := KB.trans k6
 by_cases h3 : errG ⟨v1, v2, v3⟩ = 0
 ·rw [h3]
  simp -implicitDefEqProofs (disch := (first | omega | (simp only [lq15] <;> omega) | fail)) only [admQ, lq15, aFill, AK.cls, implies_true, if_true, if_false, seval, -List.reduceReplicate, rowOf_own o6, o6', own_set (own_lt o6'), rowOf_own (own_set (own_lt o6') _)]
  refine ⟨K6.write (.inr (Nat.le_refl _)) _, ?_⟩
  rw [getG, he, h3, if_pos rfl, hraw]; rfl
 ·simp -implicitDefEqProofs (disch := (first | omega | (simp only [lq15] <;> omega) | fail)) only [admQ, lq15, aFill, AK.cls, implies_true, if_true, if_false, seval, -List.reduceReplicate, beq_eq_false_iff_ne.mpr h3, o6', own_set (own_lt o6'), rowOf_own (own_set (own_lt o6') _)]
  exact fin0 _ _ h3 he (K6.write (.inr (Nat.le_refl _)) _)
end Go.Proofs.YtoegmnnecanhfaaGreatDoor
end
section
namespace Go.Proofs.YtoegmnnecanhfaaGreatDoor
open Go Go.Adm
set_option linter.unusedSimpArgs false
set_option linter.unusedVariables false
set_option maxRecDepth 100000
abbrev Cch := List (Int × List B8)
def cIdx (c : Cch) (i : Int) : Option Nat := fidx i (c.map (·.1))
def cGet (c : Cch) (i : Int) : Option (List B8) := (cIdx c i).bind fun j => (c[j]?).map (·.2)
def cPut (c : Cch) (i : Int) (b : List B8) : Cch := match cIdx c i with
 | some j => c.set j (i, b)
 | none => c ++ [(i, b)]
def cDel (c : Cch) (i : Int) : Cch := match cIdx c i with
 | some j => c.eraseIdx j
 | none => c
theorem cIdx_some {c : Cch} {i : Int} {j : Nat} (h : cIdx c i = some j) : ∃ b, c[j]? = some (i, b) := by
 have := fidx_some h
 rw [List.getElem?_map] at this
 obtain ⟨e, h1, h2⟩ := Option.map_eq_some_iff.mp this
 obtain ⟨k, b⟩ := e
 simp only at h2
 subst h2
 exact ⟨b, h1⟩
theorem cPut_keys {c : Cch} {i : Int} {b : List B8} (h : (c.map (·.1)).Nodup) : ((cPut c i b).map (·.1)).Nodup := by
 unfold cPut
 cases hj : cIdx c i with
 | some j =>
  obtain ⟨b', hb⟩ := cIdx_some hj
  have hl := lt_of_get hb
  have : (c.set j (i, b)).map (·.1) = c.map (·.1) := by
   rw [List.map_set]
   apply List.ext_getElem?
   intro k
   by_cases hk : j = k
   ·subst hk
    rw [List.getElem?_set_self (by simpa using hl), List.getElem?_map, hb]; rfl
   ·rw [List.getElem?_set_ne hk]
  rw [this]; exact h
 | none =>
  have := fidx_none.mp hj
  rw [List.map_append, List.nodup_append]
  refine ⟨h, by simp, ?_⟩
  intro a ha b' hb'
  simp only [List.map_cons, List.map_nil, List.mem_singleton] at hb'
  subst hb'
  rintro rfl
  exact this ha
theorem cGet_put {c : Cch} {i : Int} {b : List B8} (h : (c.map (·.1)).Nodup) : cGet (cPut c i b) i = some b := by
 unfold cGet
 have key : ∀ j : Nat, (cPut c i b)[j]? = some (i, b) → (cIdx (cPut c i b) i).bind (fun j => ((cPut c i b)[j]?).map (·.2)) = some b := fun j hj => by
  have : cIdx (cPut c i b) i = some j := fidx_nodup (cPut_keys h) (by rw [List.getElem?_map, hj]; rfl)
  rw [this, Option.bind_some, hj]; rfl
 cases hj : cIdx c i with
 | some j =>
  obtain ⟨b', hb⟩ := cIdx_some hj
  refine key j ?_
  unfold cPut
  rw [hj]
  exact List.getElem?_set_self (lt_of_get hb)
 | none =>
  refine key c.length ?_
  unfold cPut
  rw [hj]
  simp
theorem cDel_keys {c : Cch} {i : Int} (h : (c.map (·.1)).Nodup) : ((cDel c i).map (·.1)).Nodup := by
 unfold cDel
 split
 ·exact List.Nodup.sublist ((List.eraseIdx_sublist c _).map _) h
 ·exact h
theorem cGet_del {c : Cch} {i : Int} (h : (c.map (·.1)).Nodup) : cGet (cDel c i) i = none := by
 have hn : i ∉ (cDel c i).map (·.1) := by
  intro hm
  obtain ⟨e, he, rfl⟩ := List.mem_map.mp hm
  unfold cDel at he
  cases hj : cIdx c e.1 with
  | none =>
   rw [hj] at he
   exact fidx_none.mp hj (List.mem_map_of_mem he)
  | some j =>
   rw [hj] at he
   obtain ⟨b', hb⟩ := cIdx_some hj
   obtain ⟨k, hk⟩ := List.getElem?_of_mem he
   rw [List.getElem?_eraseIdx] at hk
   have uniq : ∀ k', c[k']? = some e → k' = j := fun k' hk' => by
    have e1 : fidx e.1 (c.map (·.1)) = some k' := fidx_nodup h (by rw [List.getElem?_map, hk']; rfl)
    exact Option.some.inj (e1.symm.trans hj)
   split at hk
   ·have := uniq _ hk; omega
   ·have := uniq _ hk; omega
 unfold cGet
 rw [show cIdx (cDel c i) i = none from fidx_none.mpr hn]; rfl
structure Dk where
 lasts : List (List B8)
 cache : Cch
 armed : Bool
 left : Int
 off : Bool
 writes : Int
 reads : List Int
def okI (d : Dk) (i : Int) : Prop := 0 ≤ i ∧ i < d.lasts.length
instance (d : Dk) (i : Int) : Decidable (okI d i) := by unfold okI; infer_instance
def wrongD (d : Dk) (i : Int) (b : List B8) : Int := if ¬ okI d i then 7 else if b.length > 1024 then 3 else 0
def spendE (d : Dk) : Int := if d.off = true then 12 else if d.armed = true ∧ d.left = 0 then 12 else 0
def spendD (d : Dk) : Dk := if d.off = true then d else if d.armed = true ∧ d.left = 0 then { d with off := true } else { d with left := IntKind.i64.wrap (d.left - 1) }
def writeE (d : Dk) (i : Int) (b : List B8) : Int := if d.off = true then 12 else if wrongD d i b ≠ 0 then wrongD d i b else spendE d
def writeD (d : Dk) (i : Int) (b : List B8) : Dk := if d.off = true then d else if wrongD d i b ≠ 0 then d else if spendE d ≠ 0 then spendD d else { spendD d with cache := cPut d.cache i b, writes := IntKind.i64.wrap (d.writes + 1) }
def peekD (d : Dk) (i : Int) : List B8 := (cGet d.cache i).getD ((d.lasts[i.toNat]?).getD [])
def readD (d : Dk) (i : Int) : Dk := { d with reads := d.reads.set i.toNat (IntKind.i64.wrap ((d.reads[i.toNat]?).getD 0 + 1)) }
def tamperD (d : Dk) (i : Int) (b : List B8) : Dk := if wrongD d i b ≠ 0 then d else { d with lasts := d.lasts.set i.toNat b, cache := cDel d.cache i }
def RdV (m : Mem) (W R : List Nat) (v : AV) (l : List B8) : Prop := RdB m v l ∧ ∀ q ∈ blkOf v, q ∈ R ∧ q ∉ W
theorem RdV.kept {m m' : Mem} {W R R' X : List Nat} {v : AV} {l : List B8} (h : RdV m W R v l) (hk : Kept X m m') (hX : ∀ q ∈ blkOf v, q ∉ X) (hR : ∀ q ∈ R, q ∈ R') : RdV m' W R' v l :=
 ⟨rdb_ap h.1 hk hX, fun q hq => ⟨hR q (h.2 q hq).1, (h.2 q hq).2⟩⟩
structure Dsk (m : Mem) (x : Nat) (W R : List Nat) (d : Dk) : Prop where
 ex : ∃ pl pm pr lv es ck, W = [x, pl, pm, pr] ∧ W.Nodup ∧ own m x = some [.sl pl 0 d.lasts.length d.lasts.length 0, .map pm, .bool d.armed, .int .i64 d.left, .bool d.off, .int .i64 d.writes, .sl pr 0 d.lasts.length d.lasts.length 0] ∧
  (own m pl = some lv ∧ lv.length = d.lasts.length ∧ ∀ (i : Nat) l, d.lasts[i]? = some l → ∃ v, lv[i]? = some v ∧ RdV m W R v l) ∧
  (m[pm]? = some (.map es ck) ∧ es.length = d.cache.length ∧ ∀ (j : Nat) k l, d.cache[j]? = some (k, l) → ∃ v c, es[j]? = some (.int .i64 k, v, c) ∧ RdV m W R v l) ∧
  own m pr = some (d.reads.map (.int .i64)) ∧ d.reads.length = d.lasts.length
 sub : ∀ q ∈ W, q ∈ R
 lt : ∀ q ∈ R, q < m.length
 keys : (d.cache.map (·.1)).Nodup
 sz : 1 ≤ d.lasts.length ∧ d.lasts.length ≤ 4096
theorem Dsk.kept {m m' : Mem} {x : Nat} {W R X : List Nat} {d : Dk} (h : Dsk m x W R d) (hk : Kept X m m') (hX : ∀ q ∈ R, q ∉ X) : Dsk m' x W R d := by
 obtain ⟨pl, pm, pr, lv, es, ck, rfl, hn, h1, ⟨h2, h3, h4⟩, ⟨h5, h6, h7⟩, h8, h9⟩ := h.ex
 have hs := h.sub
 have hV : ∀ {v : AV} {l : List B8}, RdV m [x, pl, pm, pr] R v l → RdV m' [x, pl, pm, pr] R v l := fun hv => hv.kept hk (fun q hq => hX q (hv.2 q hq).1) (fun _ h => h)
 refine ⟨⟨pl, pm, pr, lv, es, ck, rfl, hn, hk.own h1 (hX x (hs x (by simp))), ⟨hk.own h2 (hX pl (hs pl (by simp))), h3, fun i l hl => ?_⟩, ⟨?_, h6, fun j k l hl => ?_⟩, hk.own h8 (hX pr (hs pr (by simp))), h9⟩, hs, fun q hq => Nat.lt_of_lt_of_le (h.lt q hq) hk.len, h.keys, h.sz⟩
 ·obtain ⟨v, g1, g2⟩ := h4 i l hl; exact ⟨v, g1, hV g2⟩
 ·rw [hk.eq pm (lt_of_get h5) (hX pm (hs pm (by simp)))]; exact h5
 ·obtain ⟨v, c, g1, g2⟩ := h7 j k l hl; exact ⟨v, c, g1, hV g2⟩
theorem Dsk.kept0 {m m' : Mem} {x : Nat} {W R : List Nat} {d : Dk} (h : Dsk m x W R d) (hk : Kept [] m m') : Dsk m' x W R d := h.kept hk (by simp)
theorem aFind_int (i : Int) : ∀ (c : Cch) (es : List (AV × AV × Nat)) (i0 : Nat), es.length = c.length → (∀ (j : Nat) k b, c[j]? = some (k, b) → ∃ v n, es[j]? = some (.int .i64 k, v, n)) →
  aFind (.one .i) (.int .i64 i) es i0 = some ((cIdx c i).map fun j => (i0 + j, ((es[j]?).map (·.2.1)).getD .nils)) := by
 intro c
 induction c with
 | nil =>
  intro es i0 hl _
  have : es = [] := List.length_eq_zero_iff.mp hl
  subst this; rfl
 | cons e c ih =>
  intro es i0 hl h
  cases es with
  | nil => cases hl
  | cons f es =>
   obtain ⟨k, b⟩ := e
   obtain ⟨v, n, h0⟩ := h 0 k b rfl
   simp only [List.getElem?_cons_zero, Option.some.injEq] at h0
   subst h0
   have ih' := ih es (i0 + 1) (by simpa using hl) (fun j k b hj => h (j + 1) k b (by simpa using hj))
   unfold aFind
   have hm : mapEq (.one .i) (.int .i64 i) (.int .i64 k) = some (i == k) := rfl
   simp only [hm, Option.bind_some]
   unfold cIdx at ih' ⊢
   simp only [List.map_cons]
   unfold fidx
   by_cases hk : i = k
   ·subst hk
    simp
   ·rw [beq_eq_false_iff_ne.mpr hk, if_neg hk, ih']
    cases fidx i (c.map (·.1)) with
    | none => rfl
    | some j => simp [Nat.add_assoc, Nat.add_comm 1 j]
def CchR (P : AV → List B8 → Prop) (es : List (AV × AV × Nat)) (c : Cch) : Prop := es.length = c.length ∧ ∀ (j : Nat) k l, c[j]? = some (k, l) → ∃ v n, es[j]? = some (.int .i64 k, v, n) ∧ P v l
def esPut (c : Cch) (i : Int) (v : AV) (ck : Nat) (es : List (AV × AV × Nat)) : List (AV × AV × Nat) := match cIdx c i with
 | some j => es.set j (.int .i64 i, v, ((es[j]?).map fun e => e.2.2).getD 0)
 | none => es ++ [(.int .i64 i, v, ck)]
def ckPut (c : Cch) (i : Int) (ck : Nat) : Nat := match cIdx c i with
 | some _ => ck
 | none => ck + 1
def esDel (c : Cch) (i : Int) (es : List (AV × AV × Nat)) : List (AV × AV × Nat) := match cIdx c i with
 | some j => es.eraseIdx j
 | none => es
theorem CchR.mono {P Q : AV → List B8 → Prop} {es : List (AV × AV × Nat)} {c : Cch} (h : CchR P es c) (hq : ∀ v l, P v l → Q v l) : CchR Q es c :=
 ⟨h.1, fun j k l hj => let ⟨v, n, h1, h2⟩ := h.2 j k l hj; ⟨v, n, h1, hq _ _ h2⟩⟩
theorem CchR.put {P : AV → List B8 → Prop} {es : List (AV × AV × Nat)} {c : Cch} (h : CchR P es c) {v : AV} {b : List B8} (hv : P v b) (i : Int) (ck : Nat) : CchR P (esPut c i v ck es) (cPut c i b) := by
 unfold esPut cPut
 cases hj : cIdx c i with
 | some j0 =>
  obtain ⟨b', hb⟩ := cIdx_some hj
  have hl := lt_of_get hb
  refine ⟨by simp [h.1], fun j k l hjl => ?_⟩
  by_cases hjj : j0 = j
  ·subst hjj
   simp only [List.getElem?_set_self hl, Option.some.injEq, Prod.mk.injEq] at hjl
   obtain ⟨rfl, rfl⟩ := hjl
   exact ⟨v, _, List.getElem?_set_self (by rw [h.1]; exact hl), hv⟩
  ·simp only [List.getElem?_set_ne hjj] at hjl ⊢
   exact h.2 j k l hjl
 | none =>
  refine ⟨by simp [h.1], fun j k l hjl => ?_⟩
  by_cases hlt : j < c.length
  ·simp only [List.getElem?_append_left hlt] at hjl
   obtain ⟨v', n, h1, h2⟩ := h.2 j k l hjl
   exact ⟨v', n, by simp only [List.getElem?_append_left (show j < es.length by rw [h.1]; exact hlt)]; exact h1, h2⟩
  ·have hle := lt_of_get hjl
   simp only [List.length_append, List.length_cons, List.length_nil] at hle
   obtain rfl : j = c.length := by omega
   simp only [List.getElem?_concat_length, Option.some.injEq, Prod.mk.injEq] at hjl
   obtain ⟨rfl, rfl⟩ := hjl
   exact ⟨v, ck, by rw [← h.1, List.getElem?_concat_length], hv⟩
theorem CchR.del {P : AV → List B8 → Prop} {es : List (AV × AV × Nat)} {c : Cch} (h : CchR P es c) (i : Int) : CchR P (esDel c i es) (cDel c i) := by
 unfold esDel cDel
 cases hj : cIdx c i with
 | none => exact h
 | some j0 =>
  refine ⟨by simp only [List.length_eraseIdx, h.1], fun j k l hjl => ?_⟩
  simp only [List.getElem?_eraseIdx] at hjl ⊢
  by_cases hlt : j < j0
  ·rw [if_pos hlt] at hjl ⊢; exact h.2 j k l hjl
  ·rw [if_neg hlt] at hjl ⊢; exact h.2 (j + 1) k l hjl
theorem CchR.find {P : AV → List B8 → Prop} {es : List (AV × AV × Nat)} {c : Cch} (h : CchR P es c) (i : Int) : aFind (.one .i) (.int .i64 i) es 0 = some ((cIdx c i).map fun j => (j, ((es[j]?).map (·.2.1)).getD .nils)) := by
 rw [aFind_int i c es 0 h.1 (fun j k b hj => let ⟨v, n, h1, _⟩ := h.2 j k b hj; ⟨v, n, h1⟩)]
 simp
theorem cch_set {P : AV → List B8 → Prop} {m : Mem} {p ck : Nat} {es : List (AV × AV × Nat)} {c : Cch} (hp : m[p]? = some (.map es ck)) (h : CchR P es c) (i : Int) (v : AV) :
  aMapSet (.one .i) m [.map p, .int .i64 i, v] = some (.tup [], m.set p (.map (esPut c i v ck es) (ckPut c i ck))) := by
 have hmo : mapOf m p = some (es, ck) := by unfold mapOf; rw [hp]
 have hkf : keyFits (.one .i) (.int .i64 i) = true := rfl
 show (if keyFits (.one .i) (.int .i64 i) = true then (mapOf m p).bind fun q => (aPutMap (.one .i) (.int .i64 i) v q.1 q.2).map fun q => (AV.tup [], m.set p (.map q.1 q.2)) else none) = _
 rw [if_pos hkf, hmo]
 unfold aPutMap esPut ckPut
 simp only [Option.bind_some, h.find]
 cases cIdx c i <;> simp
theorem cch_del {P : AV → List B8 → Prop} {m : Mem} {p ck : Nat} {es : List (AV × AV × Nat)} {c : Cch} (hp : m[p]? = some (.map es ck)) (h : CchR P es c) (i : Int) :
  aMapDel (.one .i) m [.map p, .int .i64 i] = some (.tup [], m.set p (.map (esDel c i es) ck)) := by
 have hmo : mapOf m p = some (es, ck) := by unfold mapOf; rw [hp]
 have hkf : keyFits (.one .i) (.int .i64 i) = true := rfl
 show (if keyFits (.one .i) (.int .i64 i) = true then (mapOf m p).bind fun q => (aFind (.one .i) (.int .i64 i) q.1 0).map fun r => (AV.tup [], m.set p (.map (delMap r q.1) q.2)) else none) = _
 rw [if_pos hkf, hmo]
 unfold esDel
 simp only [Option.bind_some, h.find]
 cases cIdx c i <;> simp [delMap]
theorem cch_look {P : AV → List B8 → Prop} {m : Mem} {p ck : Nat} {es : List (AV × AV × Nat)} {c : Cch} (hp : m[p]? = some (.map es ck)) (h : CchR P es c) (i : Int) :
  ∃ v, rLookup (.one .i) .nils true m [.map p, .int .i64 i] = some (.tup [v, .bool (cGet c i).isSome]) ∧ (match cGet c i with | some l => P v l | none => v = .nils) := by
 have hmo : mapOf m p = some (es, ck) := by unfold mapOf; rw [hp]
 have hkf : keyFits (.one .i) (.int .i64 i) = true := rfl
 have e : rLookup (.one .i) .nils true m [.map p, .int .i64 i] = (if keyFits (.one .i) (.int .i64 i) = true then (mapOf m p).bind fun q => (aFind (.one .i) (.int .i64 i) q.1 0).map (lookRes .nils true) else none) := rfl
 rw [e, if_pos hkf, hmo]
 simp only [Option.bind_some, h.find]
 unfold cGet
 cases hj : cIdx c i with
 | none => exact ⟨.nils, rfl, rfl⟩
 | some j =>
  obtain ⟨b', hb⟩ := cIdx_some hj
  obtain ⟨v, n, h1, h2⟩ := h.2 j i b' hb
  refine ⟨v, ?_, ?_⟩
  ·simp [h1, hb, lookRes]
  ·simp only [Option.bind_some, hb, Option.map_some]; exact h2
end Go.Proofs.YtoegmnnecanhfaaGreatDoor
end
section
namespace Go.Proofs.YtoegmnnecanhfaaGreatDoor
open Go Go.Adm
set_option linter.unusedSimpArgs false
set_option linter.unusedVariables false
set_option maxRecDepth 100000
theorem ans_dkthere {m : Mem} {x : Nat} {W R : List Nat} {d : Dk} (h : Dsk m x W R d) (i : Int) : Ans Tryz.prog 39 [.ptr x 0, .int .i64 i] m fun r m' => r = .bool (decide (okI d i)) ∧ m' = m := by
 refine ans_ret mixed ok39 ?_
 obtain ⟨pl, pm, pr, lv, es, ck, rfl, hn, h1, -⟩ := h.ex
 by_cases hi : i ≥ 0
 ·by_cases hj : i < (d.lasts.length : Int)
  ·simp -implicitDefEqProofs (disch := (first | omega | (simp only [lq15] <;> omega) | fail)) only [admQ, lq15, aFill, AK.cls, implies_true, if_true, if_false, seval, -List.reduceReplicate, c39, r39, rowOf_own h1, dec_t hi, dec_t hj, dec_t (show okI d i from ⟨hi, hj⟩)]
  ·simp -implicitDefEqProofs (disch := (first | omega | (simp only [lq15] <;> omega) | fail)) only [admQ, lq15, aFill, AK.cls, implies_true, if_true, if_false, seval, -List.reduceReplicate, c39, r39, rowOf_own h1, dec_t hi, dec_f hj, dec_f (show ¬ okI d i from fun h => hj h.2)]
 ·simp -implicitDefEqProofs (disch := (first | omega | (simp only [lq15] <;> omega) | fail)) only [admQ, lq15, aFill, AK.cls, implies_true, if_true, if_false, seval, -List.reduceReplicate, c39, r39, rowOf_own h1, dec_f hi, dec_f (show ¬ okI d i from fun h => hi h.1)]
theorem ans_dkwrong {m : Mem} {x : Nat} {W R : List Nat} {d : Dk} {y : AV} {b : List B8} (h : Dsk m x W R d) (hy : RdB m y b) (i : Int) : Ans Tryz.prog 42 [.ptr x 0, .int .i64 i, y] m fun r m' => r = .int .i64 (wrongD d i b) ∧ m' = m := by
 refine ans_ret mixed ok42 ?_
 simp -implicitDefEqProofs (disch := (first | omega | (simp only [lq15] <;> omega) | fail)) only [admQ, lq15, aFill, AK.cls, implies_true, if_true, if_false, seval, -List.reduceReplicate, c42, r42]
 refine (ans_dkthere h i).mono ?_
 rintro _ M ⟨rfl, hM⟩
 subst hM
 unfold wrongD
 by_cases h1 : okI d i
 ·by_cases h2 : b.length > 1024
  ·simp -implicitDefEqProofs (disch := (first | omega | (simp only [lq15] <;> omega) | fail)) only [admQ, lq15, aFill, AK.cls, implies_true, if_true, if_false, seval, -List.reduceReplicate, dec_t h1, Bool.not_true, hy.len, dec_t (show (b.length : Int) > 1024 by omega), h1, h2]
  ·simp -implicitDefEqProofs (disch := (first | omega | (simp only [lq15] <;> omega) | fail)) only [admQ, lq15, aFill, AK.cls, implies_true, if_true, if_false, seval, -List.reduceReplicate, dec_t h1, Bool.not_true, hy.len, dec_f (show ¬ (b.length : Int) > 1024 by omega), h1, h2]
 ·simp -implicitDefEqProofs (disch := (first | omega | (simp only [lq15] <;> omega) | fail)) only [admQ, lq15, aFill, AK.cls, implies_true, if_true, if_false, seval, -List.reduceReplicate, dec_f h1, Bool.not_false, h1]
theorem ans_dkspend {m : Mem} {x : Nat} {W R : List Nat} {d : Dk} (h : Dsk m x W R d) : Ans Tryz.prog 56 [.ptr x 0] m fun r m' => r = .int .i64 (spendE d) ∧ Kept W m m' ∧ Dsk m' x W R (spendD d) ∧ m'.length = m.length := by
 refine ans_ret mixed ok56 ?_
 obtain ⟨pl, pm, pr, lv, es, ck, rfl, hn, h1, ⟨h2, h3, h4⟩, ⟨h5, h6, h7⟩, h8, h9⟩ := h.ex
 have hx := own_lt h1
 simp only [List.nodup_cons, List.mem_cons, List.not_mem_nil, or_false, not_or] at hn
 have done : ∀ d' : Dk, d'.lasts = d.lasts → d'.cache = d.cache → d'.reads = d.reads → ∀ cells, cells = [AV.sl pl 0 d'.lasts.length d'.lasts.length 0, .map pm, .bool d'.armed, .int .i64 d'.left, .bool d'.off, .int .i64 d'.writes, .sl pr 0 d'.lasts.length d'.lasts.length 0] →
   Kept [x, pl, pm, pr] m (m.set x (.row cells false)) ∧ Dsk (m.set x (.row cells false)) x [x, pl, pm, pr] R d' ∧ (m.set x (.row cells false)).length = m.length := by
  intro d' e1 e2 e3 cells hc
  have kX : Kept [x] m (m.set x (.row cells false)) := .set1 _ _ _
  have hV : ∀ {v : AV} {l : List B8}, RdV m [x, pl, pm, pr] R v l → RdV (m.set x (.row cells false)) [x, pl, pm, pr] R v l := fun hv => hv.kept kX (fun q hq h => (hv.2 q hq).2 (by simp only [List.mem_singleton] at h; simp [h])) (fun _ h => h)
  refine ⟨kX.more (by simp), ⟨⟨pl, pm, pr, lv, es, ck, rfl, by simp [hn], by rw [hc]; exact own_set hx _, ⟨kX.own h2 (by simp; omega), by rw [e1]; exact h3, fun i l hl => ?_⟩, ⟨?_, by rw [e2]; exact h6, fun j k l hl => ?_⟩, by rw [e3]; exact kX.own h8 (by simp; omega), by rw [e1, e3]; exact h9⟩, h.sub, fun q hq => by rw [List.length_set]; exact h.lt q hq, by rw [e2]; exact h.keys, by rw [e1]; exact h.sz⟩, List.length_set⟩
  ·rw [e1] at hl; obtain ⟨v, g1, g2⟩ := h4 i l hl; exact ⟨v, g1, hV g2⟩
  ·rw [kX.eq pm (lt_of_get h5) (by simp; omega)]; exact h5
  ·rw [e2] at hl; obtain ⟨v, c, g1, g2⟩ := h7 j k l hl; exact ⟨v, c, g1, hV g2⟩
 by_cases ho : d.off = true
 ·rw [spendE, spendD, if_pos ho, if_pos ho]
  simp -implicitDefEqProofs (disch := (first | omega | (simp only [lq15] <;> omega) | fail)) only [admQ, lq15, aFill, AK.cls, implies_true, if_true, if_false, seval, -List.reduceReplicate, c56, r56, rowOf_own h1, ho]
  exact ⟨.refl _ _, h⟩
 ·have ho' : d.off = false := by simpa using ho
  by_cases ha : d.armed = true ∧ d.left = 0
  ·rw [spendE, spendD, if_neg ho, if_pos ha, if_neg ho, if_pos ha]
   obtain ⟨ha1, ha2⟩ := ha
   simp -implicitDefEqProofs (disch := (first | omega | (simp only [lq15] <;> omega) | fail)) only [admQ, lq15, aFill, AK.cls, implies_true, if_true, if_false, seval, -List.reduceReplicate, c56, r56, rowOf_own h1, ho', ha1, beq_iff_eq.mpr ha2, h1]
   obtain ⟨r1, r2, -⟩ := done ⟨d.lasts, d.cache, true, d.left, true, d.writes, d.reads⟩ rfl rfl rfl _ rfl
   exact ⟨r1, r2⟩
  ·rw [spendE, spendD, if_neg ho, if_neg ha, if_neg ho, if_neg ha]
   cases har : d.armed with
   | true =>
    have ha2 : ¬ d.left = 0 := fun h => ha ⟨har, h⟩
    simp -implicitDefEqProofs (disch := (first | omega | (simp only [lq15] <;> omega) | fail)) only [admQ, lq15, aFill, AK.cls, implies_true, if_true, if_false, seval, -List.reduceReplicate, c56, r56, rowOf_own h1, ho', har, beq_eq_false_iff_ne.mpr ha2, h1]
    obtain ⟨r1, r2, -⟩ := done ⟨d.lasts, d.cache, true, IntKind.i64.wrap (d.left - 1), false, d.writes, d.reads⟩ rfl rfl rfl _ rfl
    exact ⟨r1, r2⟩
   | false =>
    simp -implicitDefEqProofs (disch := (first | omega | (simp only [lq15] <;> omega) | fail)) only [admQ, lq15, aFill, AK.cls, implies_true, if_true, if_false, seval, -List.reduceReplicate, c56, r56, rowOf_own h1, ho', har, h1]
    obtain ⟨r1, r2, -⟩ := done ⟨d.lasts, d.cache, false, IntKind.i64.wrap (d.left - 1), false, d.writes, d.reads⟩ rfl rfl rfl _ rfl
    exact ⟨r1, r2⟩
theorem ans_dkwrite {m : Mem} {x : Nat} {W R : List Nat} {d : Dk} {y : AV} {b : List B8} (h : Dsk m x W R d) (hy : RdB m y b) (hyW : ∀ q ∈ blkOf y, q ∉ W) (hl : b.length ≤ 100000) (i : Int) :
  Ans Tryz.prog 29 [.ptr x 0, .int .i64 i, y] m fun r m' => r = .int .i64 (writeE d i b) ∧ Kept W m m' ∧ ∃ R', Dsk m' x W R' (writeD d i b) ∧ ∀ q ∈ R', q ∈ R ∨ m.length ≤ q := by
 refine ans_ret mixed ok29 ?_
 have hno : ∀ d', d' = d → Kept W m m ∧ ∃ R', Dsk m x W R' d' ∧ ∀ q ∈ R', q ∈ R ∨ m.length ≤ q := fun d' e => ⟨.refl _ _, R, by rw [e]; exact h, fun q hq => .inl hq⟩
 obtain ⟨pl, pm, pr, lv, es, ck, hWe, hn, h1, -⟩ := h.ex
 by_cases ho : d.off = true
 ·rw [writeE, if_pos ho]
  simp -implicitDefEqProofs (disch := (first | omega | (simp only [lq15] <;> omega) | fail)) only [admQ, lq15, aFill, AK.cls, implies_true, if_true, if_false, seval, -List.reduceReplicate, c29, r29, rowOf_own h1, ho]
  exact hno _ (by rw [writeD, if_pos ho])
 have ho' : d.off = false := by simpa using ho
 simp -implicitDefEqProofs (disch := (first | omega | (simp only [lq15] <;> omega) | fail)) only [admQ, lq15, aFill, AK.cls, implies_true, if_true, if_false, seval, -List.reduceReplicate, c29, r29, rowOf_own h1, ho']
 refine (ans_dkwrong h hy i).mono ?_
 rintro _ M ⟨rfl, hM⟩
 subst hM
 by_cases hw : wrongD d i b = 0
 ·simp -implicitDefEqProofs (disch := (first | omega | (simp only [lq15] <;> omega) | fail)) only [admQ, lq15, aFill, AK.cls, implies_true, if_true, if_false, seval, -List.reduceReplicate, hw]
  refine (ans_dkspend h).mono ?_
  rintro _ m1 ⟨rfl, k1, hD, hml⟩
  have hw2 : ¬ (wrongD d i b ≠ 0) := by simp [hw]
  rw [writeE, if_neg ho, if_neg hw2]
  by_cases hs : spendE d = 0
  ·have hs2 : ¬ (spendE d ≠ 0) := by simp [hs]
   obtain ⟨pl', pm', pr', lv', es', ck', hWe', hn', g1, ⟨g2, g3, g4⟩, ⟨g5, g6, g7⟩, g8, g9⟩ := hD.ex
   have hd1 : (spendD d).cache = d.cache ∧ (spendD d).lasts = d.lasts ∧ (spendD d).reads = d.reads ∧ (spendD d).writes = d.writes := by unfold spendD; split <;> (try split) <;> exact ⟨rfl, rfl, rfl, rfl⟩
   rw [writeD, if_neg ho, if_neg hw2, if_neg hs2]
   simp -implicitDefEqProofs (disch := (first | omega | (simp only [lq15] <;> omega) | fail)) only [admQ, lq15, aFill, AK.cls, implies_true, if_true, if_false, seval, -List.reduceReplicate, hs, rowOf_own g1]
   refine (ans_slclone (rdb_ap hy k1 hyW) (by omega)).mono ?_
   rintro v m2 ⟨k2, g, lo⟩
   have f1 := k2.own g1 (by simp)
   have f5 : m2[pm']? = some (.map es' ck') := by rw [k2.eq pm' (lt_of_get g5) (by simp)]; exact g5
   have hxw : x ∈ W ∧ pm' ∈ W := by rw [hWe']; simp
   have hCR : CchR (RdV m1 W R) es' (spendD d).cache := ⟨g6, g7⟩
   have hset := cch_set f5 hCR i v
   have hn2 := hn'
   rw [hWe'] at hn2
   simp only [List.nodup_cons, List.mem_cons, List.not_mem_nil, or_false, not_or] at hn2
   have lm := lt_of_get f5
   have lx := own_lt f1
   have q1 : own (m2.set pm' (.map (esPut (spendD d).cache i v ck' es') (ckPut (spendD d).cache i ck'))) x = some [.sl pl' 0 (spendD d).lasts.length (spendD d).lasts.length 0, .map pm', .bool (spendD d).armed, .int .i64 (spendD d).left, .bool (spendD d).off, .int .i64 (spendD d).writes, .sl pr' 0 (spendD d).lasts.length (spendD d).lasts.length 0] := own_set_ne' f1 (by omega) _
   simp -implicitDefEqProofs (disch := (first | omega | (simp only [lq15] <;> omega) | fail)) only [admQ, lq15, aFill, AK.cls, implies_true, if_true, if_false, seval, -List.reduceReplicate, rowOf_own f1, rowOf_own g1, mapR, hset, rowOf_own q1, q1]
   have KX : Kept [x, pm'] m2 ((m2.set pm' (.map (esPut (spendD d).cache i v ck' es') (ckPut (spendD d).cache i ck'))).set x (.row [.sl pl' 0 (spendD d).lasts.length (spendD d).lasts.length 0, .map pm', .bool (spendD d).armed, .int .i64 (spendD d).left, .bool (spendD d).off, .int .i64 (IntKind.i64.wrap ((spendD d).writes + 1)), .sl pr' 0 (spendD d).lasts.length (spendD d).lasts.length 0] false)) :=
    (Kept.set (X := [x, pm']) m2 pm' _ (by simp)).trans (.set _ x _ (by simp))
   have x4 := own_set (own_lt q1) [AV.sl pl' 0 (spendD d).lasts.length (spendD d).lasts.length 0, .map pm', .bool (spendD d).armed, .int .i64 (spendD d).left, .bool (spendD d).off, .int .i64 (IntKind.i64.wrap ((spendD d).writes + 1)), .sl pr' 0 (spendD d).lasts.length (spendD d).lasts.length 0]
   have p4 : ((m2.set pm' (.map (esPut (spendD d).cache i v ck' es') (ckPut (spendD d).cache i ck'))).set x (.row [.sl pl' 0 (spendD d).lasts.length (spendD d).lasts.length 0, .map pm', .bool (spendD d).armed, .int .i64 (spendD d).left, .bool (spendD d).off, .int .i64 (IntKind.i64.wrap ((spendD d).writes + 1)), .sl pr' 0 (spendD d).lasts.length (spendD d).lasts.length 0] false))[pm']? = some (.map (esPut (spendD d).cache i v ck' es') (ckPut (spendD d).cache i ck')) := by
    rw [List.getElem?_set_ne (by omega), List.getElem?_set_self lm]
   generalize ((m2.set pm' (.map (esPut (spendD d).cache i v ck' es') (ckPut (spendD d).cache i ck'))).set x (.row [.sl pl' 0 (spendD d).lasts.length (spendD d).lasts.length 0, .map pm', .bool (spendD d).armed, .int .i64 (spendD d).left, .bool (spendD d).off, .int .i64 (IntKind.i64.wrap ((spendD d).writes + 1)), .sl pr' 0 (spendD d).lasts.length (spendD d).lasts.length 0] false)) = m4 at KX x4 p4
   have hnX : ∀ q, q ∉ W → q ∉ [x, pm'] := fun q hq h => by
    simp only [List.mem_cons, List.not_mem_nil, or_false] at h
    rcases h with rfl | rfl
    ·exact hq hxw.1
    ·exact hq hxw.2
   have hold : ∀ v0 l0, RdV m1 W R v0 l0 → RdV m4 W (R ++ blkOf v) v0 l0 := fun v0 l0 hv =>
    ⟨rdb_ap (hv.1.kept0 k2) KX (fun q hq => hnX q (hv.2 q hq).2), fun q hq => ⟨by simp [(hv.2 q hq).1], (hv.2 q hq).2⟩⟩
   have hWlt : ∀ q ∈ W, q < m1.length := fun q hq => hD.lt q (hD.sub q hq)
   have hvW : ∀ q ∈ blkOf v, q ∉ W := fun q hq h => by have := lo q hq; have := hWlt q h; omega
   have hnew : RdV m4 W (R ++ blkOf v) v b := ⟨rdb_ap g.rd KX (fun q hq => hnX q (hvW q hq)), fun q hq => ⟨by simp [hq], hvW q hq⟩⟩
   have hCR4 := CchR.put (hCR.mono hold) hnew i ck'
   have h24 := KX.len
   have h12 := k2.len
   have hlv := g.lt
   refine ⟨(k1.trans (k2.any)).trans (KX.more (fun q hq _ => by simp only [List.mem_cons, List.not_mem_nil, or_false] at hq; rcases hq with rfl | rfl; exact hxw.1; exact hxw.2)), R ++ blkOf v, ⟨⟨pl', pm', pr', lv', _, _, hWe', hn', by rw [x4, hd1.2.2.2], ⟨(KX.own (k2.own g2 (by simp)) (by simp; omega)), g3, fun i l hi => let ⟨v0, e1, e2⟩ := g4 i l hi; ⟨v0, e1, hold _ _ e2⟩⟩, ⟨p4, by rw [← hd1.1]; exact hCR4.1, by rw [← hd1.1]; exact hCR4.2⟩, KX.own (k2.own g8 (by simp)) (by simp; omega), g9⟩, fun q hq => by simp [hD.sub q hq], fun q hq => ?_, by rw [← hd1.1]; exact cPut_keys hD.keys, hD.sz⟩, fun q hq => ?_⟩
   ·rcases List.mem_append.mp hq with h | h
    ·have := hD.lt q h; omega
    ·have := hlv q h; omega
   ·rcases List.mem_append.mp hq with h | h
    ·exact .inl h
    ·right; have := lo q h; omega
  ·have hs2 : spendE d ≠ 0 := hs
   rw [writeD, if_neg ho, if_neg hw2, if_pos hs2]
   simp -implicitDefEqProofs (disch := (first | omega | (simp only [lq15] <;> omega) | fail)) only [admQ, lq15, aFill, AK.cls, implies_true, if_true, if_false, seval, -List.reduceReplicate, beq_eq_false_iff_ne.mpr hs]
   exact ⟨k1, R, hD, fun q hq => .inl hq⟩
 ·rw [writeE, if_neg ho, if_pos hw]
  simp -implicitDefEqProofs (disch := (first | omega | (simp only [lq15] <;> omega) | fail)) only [admQ, lq15, aFill, AK.cls, implies_true, if_true, if_false, seval, -List.reduceReplicate, beq_eq_false_iff_ne.mpr hw]
  exact hno _ (by rw [writeD, if_neg ho, if_pos hw])
end Go.Proofs.YtoegmnnecanhfaaGreatDoor
end
section
namespace Go.Proofs.YtoegmnnecanhfaaGreatDoor
open Go Go.Adm
set_option linter.unusedSimpArgs false
set_option linter.unusedVariables false
set_option maxRecDepth 100000
theorem ans_dkread {m : Mem} {x : Nat} {W R : List Nat} {d : Dk} (h : Dsk m x W R d) {i : Nat} (hi : i < d.lasts.length) (hsz : (peekD d i).length ≤ 1000000) :
  Ans Tryz.prog 17 [.ptr x 0, .int .i64 i] m fun r m' => Kept W m m' ∧ Dsk m' x W R (readD d i) ∧ ∃ v, r = .tup [v, .int .i64 0] ∧ SPb m.length m' v (peekD d i) := by
 refine ans_ret mixed ok17 ?_
 simp -implicitDefEqProofs (disch := (first | omega | (simp only [lq15] <;> omega) | fail)) only [admQ, lq15, aFill, AK.cls, implies_true, if_true, if_false, seval, -List.reduceReplicate, c17, r17]
 refine (ans_dkthere h i).mono ?_
 rintro _ M ⟨rfl, hM⟩
 subst hM
 obtain ⟨pl, pm, pr, lv, es, ck, rfl, hn, h1, ⟨h2, h3, h4⟩, ⟨h5, h6, h7⟩, h8, h9⟩ := h.ex
 have hok : okI d i := ⟨by omega, by omega⟩
 simp only [List.nodup_cons, List.mem_cons, List.not_mem_nil, or_false, not_or] at hn
 have hir : i < d.reads.length := by omega
 have er : (d.reads.map (AV.int .i64))[i]? = some (.int .i64 d.reads[i]) := by rw [List.getElem?_map, List.getElem?_eq_getElem hir]; rfl
 have hsp : splice (d.reads.map (AV.int .i64)) i [.int .i64 (IntKind.i64.wrap (d.reads[i] + 1))] = (d.reads.set i (IntKind.i64.wrap (d.reads[i] + 1))).map (AV.int .i64) := splice_map hir
 have hmy : readD d i = { d with reads := d.reads.set i (IntKind.i64.wrap (d.reads[i] + 1)) } := by
  unfold readD
  rw [Int.toNat_natCast, List.getElem?_eq_getElem hir]; rfl
 have hlr : (d.reads.map (AV.int .i64)).length = d.lasts.length := by rw [List.length_map, h9]
 simp -implicitDefEqProofs (disch := (first | omega | (simp only [lq15] <;> omega) | fail)) only [admQ, lq15, aFill, AK.cls, implies_true, if_true, if_false, seval, -List.reduceReplicate, dec_t hok, Bool.not_true, rowOf_own h1, rowOf_own h8, er, h8, hsp, hlr]
 have kX := Kept.set1 M pr (.row ((d.reads.set i (IntKind.i64.wrap (d.reads[i] + 1))).map (AV.int .i64)) false)
 have p8 := own_set (own_lt h8) ((d.reads.set i (IntKind.i64.wrap (d.reads[i] + 1))).map (AV.int .i64))
 generalize M.set pr (.row ((d.reads.set i (IntKind.i64.wrap (d.reads[i] + 1))).map (AV.int .i64)) false) = A at kX p8
 have hV : ∀ {v : AV} {l : List B8}, RdV M [x, pl, pm, pr] R v l → RdV A [x, pl, pm, pr] R v l := fun hv => hv.kept kX (fun q hq h => (hv.2 q hq).2 (by simp only [List.mem_singleton] at h; simp [h])) (fun _ h => h)
 have p1 := kX.own h1 (by simp; omega)
 have p2 := kX.own h2 (by simp; omega)
 have p5 : A[pm]? = some (.map es ck) := by rw [kX.eq pm (lt_of_get h5) (by simp; omega)]; exact h5
 have hD : Dsk A x [x, pl, pm, pr] R (readD d i) := by
  rw [hmy]
  exact ⟨⟨pl, pm, pr, lv, es, ck, rfl, by simp [hn], p1, ⟨p2, h3, fun i l hl => let ⟨v, g1, g2⟩ := h4 i l hl; ⟨v, g1, hV g2⟩⟩, ⟨p5, h6, fun j k l hl => let ⟨v, c, g1, g2⟩ := h7 j k l hl; ⟨v, c, g1, hV g2⟩⟩, p8, by simp [h9]⟩, h.sub, fun q hq => Nat.lt_of_lt_of_le (h.lt q hq) kX.len, h.keys, h.sz⟩
 have hCR : CchR (RdV A [x, pl, pm, pr] R) es d.cache := ⟨h6, fun j k l hl => let ⟨v, c, g1, g2⟩ := h7 j k l hl; ⟨v, c, g1, hV g2⟩⟩
 obtain ⟨v, lk, hv⟩ := cch_look p5 hCR i
 have kW : Kept [x, pl, pm, pr] M A := kX.more (by simp)
 cases hg : cGet d.cache i with
 | some l =>
  have hpk : peekD d i = l := by rw [peekD, hg]; rfl
  rw [hg] at hv lk
  rw [hpk] at hsz ⊢
  simp -implicitDefEqProofs (disch := (first | omega | (simp only [lq15] <;> omega) | fail)) only [admQ, lq15, aFill, AK.cls, implies_true, if_true, if_false, seval, -List.reduceReplicate, rowOf_own p1, mapR, lk, Option.isSome_some]
  refine (ans_slclone hv.1 (by omega)).mono ?_
  rintro w m2 ⟨k2, g, lo⟩
  simp -implicitDefEqProofs (disch := (first | omega | (simp only [lq15] <;> omega) | fail)) only [admQ, lq15, aFill, AK.cls, implies_true, if_true, if_false, seval, -List.reduceReplicate]
  have hl := kX.len
  exact ⟨kW.trans k2.any, hD.kept0 k2, w, rfl, .gr g fun q hq => by have := lo q hq; omega⟩
 | none =>
  obtain ⟨v0, e0, hv0⟩ := h4 i _ (List.getElem?_eq_getElem hi)
  have hpk : peekD d i = d.lasts[i] := by rw [peekD, hg, Int.toNat_natCast, List.getElem?_eq_getElem hi]; rfl
  rw [hg] at lk
  rw [hpk] at hsz ⊢
  simp -implicitDefEqProofs (disch := (first | omega | (simp only [lq15] <;> omega) | fail)) only [admQ, lq15, aFill, AK.cls, implies_true, if_true, if_false, seval, -List.reduceReplicate, rowOf_own p1, mapR, lk, Option.isSome_none, rowOf_own p2, e0]
  refine (ans_slclone (hV hv0).1 (by omega)).mono ?_
  rintro w m2 ⟨k2, g, lo⟩
  simp -implicitDefEqProofs (disch := (first | omega | (simp only [lq15] <;> omega) | fail)) only [admQ, lq15, aFill, AK.cls, implies_true, if_true, if_false, seval, -List.reduceReplicate]
  have hl := kX.len
  exact ⟨kW.trans k2.any, hD.kept0 k2, w, rfl, .gr g fun q hq => by have := lo q hq; omega⟩
theorem ans_dktamper {m : Mem} {x : Nat} {W R : List Nat} {d : Dk} {y : AV} {b : List B8} (h : Dsk m x W R d) (hy : RdB m y b) (hl : b.length ≤ 100000) (i : Nat) :
  Ans Tryz.prog 20 [.ptr x 0, .int .i64 i, y] m fun r m' => r = .int .i64 (wrongD d i b) ∧ Kept W m m' ∧ ∃ R', Dsk m' x W R' (tamperD d i b) ∧ ∀ q ∈ R', q ∈ R ∨ m.length ≤ q := by
 refine ans_ret mixed ok20 ?_
 simp -implicitDefEqProofs (disch := (first | omega | (simp only [lq15] <;> omega) | fail)) only [admQ, lq15, aFill, AK.cls, implies_true, if_true, if_false, seval, -List.reduceReplicate, c20, r20]
 refine (ans_dkwrong h hy i).mono ?_
 rintro _ M ⟨rfl, hM⟩
 subst hM
 by_cases hw : wrongD d i b = 0
 ·have hw2 : ¬ (wrongD d i b ≠ 0) := by simp [hw]
  have hi : i < d.lasts.length := by
   unfold wrongD at hw
   split at hw
   ·omega
   ·rename_i h; have := (Decidable.not_not.mp h).2; omega
  obtain ⟨pl, pm, pr, lv, es, ck, rfl, hn, h1, ⟨h2, h3, h4⟩, ⟨h5, h6, h7⟩, h8, h9⟩ := h.ex
  simp only [List.nodup_cons, List.mem_cons, List.not_mem_nil, or_false, not_or] at hn
  rw [hw]
  simp -implicitDefEqProofs (disch := (first | omega | (simp only [lq15] <;> omega) | fail)) only [admQ, lq15, aFill, AK.cls, implies_true, if_true, if_false, seval, -List.reduceReplicate, rowOf_own h1]
  refine (ans_slclone hy (by omega)).mono ?_
  rintro v m2 ⟨k2, g, lo⟩
  have f1 := k2.own h1 (by simp)
  have f2 := k2.own h2 (by simp)
  have f8 := k2.own h8 (by simp)
  have f5 : m2[pm]? = some (.map es ck) := by rw [k2.eq pm (lt_of_get h5) (by simp)]; exact h5
  have hsp : splice lv i [v] = lv.set i v := splice_one lv i v (by omega)
  have hll : lv.length = d.lasts.length := h3
  have p1 := own_set_ne' f1 (show pl ≠ x by omega) (.row (lv.set i v) false)
  have p5 : (m2.set pl (.row (lv.set i v) false))[pm]? = some (.map es ck) := by rw [List.getElem?_set_ne (by omega)]; exact f5
  have hdl := cch_del p5 (P := RdV M [x, pl, pm, pr] R) ⟨h6, h7⟩ i
  simp -implicitDefEqProofs (disch := (first | omega | (simp only [lq15] <;> omega) | fail)) only [admQ, lq15, aFill, AK.cls, implies_true, if_true, if_false, seval, -List.reduceReplicate, rowOf_own f1, rowOf_own f2, f2, hsp, hll, (rd_one g.rd).1, (rd_one g.rd).2, rowOf_own p1, mapR, hdl]
  have lpl := own_lt f2
  have lpm := lt_of_get f5
  have KX : Kept [pl, pm] m2 ((m2.set pl (.row (lv.set i v) false)).set pm (.map (esDel d.cache i es) ck)) := (Kept.set (X := [pl, pm]) m2 pl _ (by simp)).trans (.set _ pm _ (by simp))
  have q5 : ((m2.set pl (.row (lv.set i v) false)).set pm (.map (esDel d.cache i es) ck))[pm]? = some (.map (esDel d.cache i es) ck) := List.getElem?_set_self (by rw [List.length_set]; exact lpm)
  have q2 : own ((m2.set pl (.row (lv.set i v) false)).set pm (.map (esDel d.cache i es) ck)) pl = some (lv.set i v) := own_set_ne' (own_set lpl _) (by omega) _
  generalize ((m2.set pl (.row (lv.set i v) false)).set pm (.map (esDel d.cache i es) ck)) = m4 at KX q5 q2
  have hnX : ∀ q, q ∉ [x, pl, pm, pr] → q ∉ [pl, pm] := fun q hq h => hq (by simp only [List.mem_cons, List.not_mem_nil, or_false] at h ⊢; rcases h with h | h <;> simp [h])
  have hold : ∀ v0 l0, RdV M [x, pl, pm, pr] R v0 l0 → RdV m4 [x, pl, pm, pr] (R ++ blkOf v) v0 l0 := fun v0 l0 hv =>
   ⟨rdb_ap (hv.1.kept0 k2) KX (fun q hq => hnX q (hv.2 q hq).2), fun q hq => ⟨by simp [(hv.2 q hq).1], (hv.2 q hq).2⟩⟩
  have hvW : ∀ q ∈ blkOf v, q ∉ [x, pl, pm, pr] := fun q hq hm => by have := lo q hq; have := h.lt q (h.sub q hm); omega
  have hnew : RdV m4 [x, pl, pm, pr] (R ++ blkOf v) v b := ⟨rdb_ap g.rd KX (fun q hq => hnX q (hvW q hq)), fun q hq => ⟨by simp [hq], hvW q hq⟩⟩
  have hCR4 := (CchR.mono (P := RdV M [x, pl, pm, pr] R) ⟨h6, h7⟩ hold).del i
  have h24 := KX.len
  have h12 := k2.len
  have hlv := g.lt
  rw [tamperD, if_neg hw2]
  refine ⟨(k2.any).trans (KX.more (by simp)), R ++ blkOf v, ⟨⟨pl, pm, pr, lv.set i v, _, _, rfl, by simp [hn], ?_, ⟨q2, by simp [h3], fun j l hj => ?_⟩, ⟨q5, hCR4.1, hCR4.2⟩, KX.own f8 (by simp; omega), by simp [h9]⟩, fun q hq => by simp [h.sub q hq], fun q hq => ?_, cDel_keys h.keys, by simpa using h.sz⟩, fun q hq => ?_⟩
  ·simp only [List.length_set]; exact KX.own f1 (by simp; omega)
  ·simp only [Int.toNat_natCast] at hj
   by_cases hij : i = j
   ·subst hij
    rw [List.getElem?_set_self hi] at hj
    cases hj
    exact ⟨v, List.getElem?_set_self (by omega), hnew⟩
   ·rw [List.getElem?_set_ne hij] at hj
    obtain ⟨v0, e1, e2⟩ := h4 j l hj
    exact ⟨v0, by rw [List.getElem?_set_ne hij]; exact e1, hold _ _ e2⟩
  ·rcases List.mem_append.mp hq with h' | h'
   ·have := h.lt q h'; omega
   ·have := hlv q h'; omega
  ·rcases List.mem_append.mp hq with h' | h'
   ·exact .inl h'
   ·right; have := lo q h'; omega
 ·simp -implicitDefEqProofs (disch := (first | omega | (simp only [lq15] <;> omega) | fail)) only [admQ, lq15, aFill, AK.cls, implies_true, if_true, if_false, seval, -List.reduceReplicate, beq_eq_false_iff_ne.mpr hw]
  exact ⟨.refl _ _, R, by rw [tamperD, if_pos hw]; exact h, fun q hq => .inl hq⟩
def dk0 (n : Nat) : Dk := ⟨List.replicate n [], [], false, 0, false, 0, List.replicate n 0⟩
theorem ans_dknew (n : Nat) (hn : 1 ≤ n ∧ n ≤ 4096) (m : Mem) : Ans Tryz.prog 5 [.int .i64 n] m fun r m' => Kept [] m m' ∧ ∃ x W R, r = .tup [.ptr x 0, .int .i64 0] ∧ Dsk m' x W R (dk0 n) ∧ ∀ q ∈ R, m.length ≤ q := by
 refine ans_ret mixed ok5 ?_
 simp -implicitDefEqProofs (disch := (first | omega | (simp only [lq15] <;> omega) | fail)) only [admQ, lq15, aFill, AK.cls, implies_true, if_true, if_false, seval, -List.reduceReplicate, c5, r5, dec_f (show ¬ (n : Int) < 1 by omega), dec_f (show ¬ (n : Int) > 4096 by omega), mapR, mkMp]
 have r1 : rep n [AV.nils] = List.replicate n .nils := by simp [rep]
 have r2 : rep n [AV.int .i64 0] = (List.replicate n (0 : Int)).map (.int .i64) := by simp [rep]
 refine ⟨.app _ _ _, m.length + 3, [m.length + 3, m.length, m.length + 1, m.length + 2], [m.length + 3, m.length, m.length + 1, m.length + 2], rfl, ⟨⟨m.length, m.length + 1, m.length + 2, List.replicate n .nils, [], 0, rfl, by simp, ?_, ⟨?_, by simp [dk0], fun i l hl => ?_⟩, ⟨?_, rfl, fun j k l hj => by simp [dk0] at hj⟩, ?_, by simp [dk0]⟩, fun q hq => hq, by simp, by simp [dk0], by simp only [dk0, List.length_replicate]; exact hn⟩, by simp⟩
 ·rw [own_app_at]; simp [own, dk0]
 ·rw [own_app_at0, r1]; rfl
 ·simp only [dk0, List.getElem?_replicate] at hl
  split at hl
  ·cases hl
   rename_i hi
   exact ⟨.nils, by rw [List.getElem?_replicate, if_pos hi], .nils _, by simp [blkOf]⟩
  ·cases hl
 ·rw [List.getElem?_append_right (by omega)]; simp
 ·rw [own_app_at, r2]; rfl
end Go.Proofs.YtoegmnnecanhfaaGreatDoor
end
section
namespace Go.Proofs.YtoegmnnecanhfaaGreatDoor
open Go Go.Adm
set_option linter.unusedSimpArgs false
set_option linter.unusedVariables false
set_option maxRecDepth 100000
def cySm (s : CyS) (b : List B8) : List B8 := match s with
 | .box key => shaB b
 | .nm S T => nsumB T b
def cyTx (s : CyS) (b : List B8) : CyS := match s with
 | .box key => .box key
 | .nm S T => .nm S (addN b T)
def cyTk : CyS → Nat → Prop
 | .box _, _ => True
 | .nm S T, k => T.length ≤ k
def cySmF : CyS → FuncId
 | .box _ => 140
 | .nm _ _ => 155
theorem cym_sum (s : CyS) : methodD Tryz.prog (cyT s) "Sum" = some (cySmF s) := by
 cases s with
 | box key =>
  show methodD Tryz.prog 35 "Sum" = some 140
  kernel_rfl
 | nm S T =>
  show methodD Tryz.prog 59 "Sum" = some 155
  kernel_rfl
theorem cySm_len (s : CyS) (b : List B8) : (cySm s b).length = 32 := by
 cases s with
 | box key => exact shaB_len b
 | nm S T => exact nsumB_len T b
theorem ans_cysum {m : Mem} {x : Nat} {W R : List Nat} {s : CyS} {b : List B8} {y : AV} (hC : Cy m x W R s) (hb : RdB m y b) (hd : ∀ q ∈ blkOf y, q ∉ W) (hk : cyTk s 1000) (hl : b.length ≤ 100000) :
  Ans Tryz.prog (cySmF s) [.ptr x 0, y] m fun r m' => r = .agg (bys (cySm s b)) ∧ Kept W m m' ∧ Cy m' x W R (cyTx s b) := by
 cases s with
 | box key =>
  obtain ⟨c, kb, k, hs, rfl, rfl⟩ := hC
  refine (ans_sesum hs.kT hb (by omega)).mono ?_
  rintro _ m' ⟨rfl, k1⟩
  exact ⟨rfl, k1, c, kb, k, hs.kept0 k1, rfl, rfl⟩
 | nm S T =>
  obtain ⟨hN, rfl⟩ := hC
  have hT : T.length ≤ 1000 := hk
  refine (ans_nsum hN hb hd (by omega) hl).mono ?_
  rintro _ m' ⟨rfl, k1, h1⟩
  exact ⟨rfl, k1, h1, rfl⟩
def Vo (m : Mem) (xd xc : Nat) (B : List Nat) (d : Dk) (c : CyS) : Prop := ∃ Wd Rd Wc Rc, Dsk m xd Wd Rd d ∧ Cy m xc Wc Rc c ∧ (∀ q ∈ Rd, q ∉ Rc) ∧ B = Rd ++ Rc
theorem Vo.kept {m m' : Mem} {xd xc : Nat} {B X : List Nat} {d : Dk} {c : CyS} (h : Vo m xd xc B d c) (hk : Kept X m m') (hX : ∀ q ∈ B, q ∉ X) : Vo m' xd xc B d c := by
 obtain ⟨Wd, Rd, Wc, Rc, h1, h2, h3, rfl⟩ := h
 exact ⟨Wd, Rd, Wc, Rc, h1.kept hk (fun q hq => hX q (by simp [hq])), h2.kept hk (fun q hq => hX q (by simp [hq])), h3, rfl⟩
theorem Vo.kept0 {m m' : Mem} {xd xc : Nat} {B : List Nat} {d : Dk} {c : CyS} (h : Vo m xd xc B d c) (hk : Kept [] m m') : Vo m' xd xc B d c := h.kept hk (by simp)
theorem Vo.lt {m : Mem} {xd xc : Nat} {B : List Nat} {d : Dk} {c : CyS} (h : Vo m xd xc B d c) : ∀ q ∈ B, q < m.length := by
 obtain ⟨Wd, Rd, Wc, Rc, h1, h2, h3, rfl⟩ := h
 intro q hq
 rcases List.mem_append.mp hq with h | h
 ·exact h1.lt q h
 ·exact h2.lt q h
def suS (e : Int) (g : Geo) : Sec := ⟨1, e, 0, 0, putG g⟩
def suE (d : Dk) (c : CyS) (e : Int) (g : Geo) : Int := if errG g ≠ 0 then errG g else if errP (suS e g) ≠ 0 then errP (suS e g) else writeE d 0 (putL c (suS e g))
def suC (d : Dk) (c : CyS) (e : Int) (g : Geo) : CyS := if errG g ≠ 0 then c else if errP (suS e g) ≠ 0 then c else if writeE d 0 (putL c (suS e g)) ≠ 0 then putC c (suS e g) else cyTx (putC c (suS e g)) (putL c (suS e g))
def suD (d : Dk) (c : CyS) (e : Int) (g : Geo) : Dk := if errG g ≠ 0 then d else if errP (suS e g) ≠ 0 then d else writeD d 0 (putL c (suS e g))
def suM (d : Dk) (c : CyS) (e : Int) (g : Geo) : List B8 := if suE d c e g = 0 then cySm (putC c (suS e g)) (putL c (suS e g)) else List.replicate 32 0#8
theorem kept_mix {X Y : List Nat} {m m1 m2 : Mem} (h : Kept Y m m1) (h2 : Kept X m1 m2) (hx : ∀ q ∈ X, q ∈ Y ∨ m.length ≤ q) : Kept Y m m2 :=
 ⟨Nat.le_trans h.len h2.len, fun q h3 h4 => by rw [h2.eq q (h.lt h3) (fun h5 => (hx q h5).elim h4 (fun h6 => by omega)), h.eq q h3 h4]⟩
def vwB (c : CyS) (B : List Nat) : List Nat := match c with
 | .box _ => B.take (B.length - 5)
 | .nm _ _ => B
theorem vwB_d {m : Mem} {xc : Nat} {Rd Wc Rc : List Nat} {c : CyS} (h : Cy m xc Wc Rc c) {q : Nat} (hq : q ∈ Rd) : q ∈ vwB c (Rd ++ Rc) := by
 cases c with
 | box key =>
  obtain ⟨a, b, k, -, -, rfl⟩ := h
  have : vwB (.box key) (Rd ++ [xc, a, b, k, 0]) = Rd := List.take_left' (by simp)
  rw [this]; exact hq
 | nm S T => exact List.mem_append_left _ hq
theorem vwB_w {m : Mem} {xc n : Nat} {B Wc Rc : List Nat} {c c' : CyS} (h : Cy m xc Wc Rc c') (hc : cyT c = cyT c') {q : Nat} (hq : q ∈ Wc) (hB : q ∈ B ∨ n ≤ q) : q ∈ vwB c B ∨ n ≤ q := by
 cases c with
 | box key =>
  cases c' with
  | box key' => obtain ⟨a, b, k, -, rfl, -⟩ := h; cases hq
  | nm S T => exact absurd (show 35 = 59 from hc) (by decide)
 | nm S T => exact hB
theorem vwB_w0 {m : Mem} {xc : Nat} {Rd Wc Rc : List Nat} {c : CyS} (h : Cy m xc Wc Rc c) {q : Nat} (hq : q ∈ Wc) : q ∈ vwB c (Rd ++ Rc) := by
 cases c with
 | box key => obtain ⟨a, b, k, -, rfl, -⟩ := h; cases hq
 | nm S T => exact List.mem_append_right _ (Cy.sub h q hq)
theorem ans_suwrite {m : Mem} {xd xc : Nat} {B : List Nat} {d : Dk} {c : CyS} (hV : Vo m xd xc B d c) (e : Int) (g : Geo) (hk : cyOk c 999) (ht : cyTk c 1000) :
  Ans Tryz.prog 11 [.ptr xd 0, .iface (cyT c) (.ptr xc 0), .int .i64 e, geoV g] m fun r m' => r = .tup [.agg (bys (suM d c e g)), .int .i64 (suE d c e g)] ∧ Kept (vwB c B) m m' ∧ ∃ B', Vo m' xd xc B' (suD d c e g) (suC d c e g) ∧ ∀ q ∈ B', q ∈ B ∨ m.length ≤ q := by
 refine ans_ret mixed ok11 ?_
 unfold geoV geoC
 obtain ⟨Wd, Rd, Wc, Rc, hD, hC, hap, rfl⟩ := hV
 have k0 := Kept.app [] m [.row [.int .i64 g.s, .int .i64 g.n, .int .i64 g.b] false, .row (bys (List.replicate 32 0#8)) false]
 have o0 : own (m ++ [.row [.int .i64 g.s, .int .i64 g.n, .int .i64 g.b] false, .row (bys (List.replicate 32 0#8)) false]) (m.length + 1) = some (bys (List.replicate 32 0#8)) := by rw [own_app_at]; rfl
 simp -implicitDefEqProofs (disch := (first | omega | (simp only [lq15] <;> omega) | fail)) only [admQ, lq15, aFill, AK.cls, implies_true, if_true, if_false, seval, -List.reduceReplicate, c11, r11]
 generalize m ++ [.row [.int .i64 g.s, .int .i64 g.n, .int .i64 g.b] false, .row (bys (List.replicate 32 0#8)) false] = A at *
 refine (ans_suput g A).mono ?_
 rintro _ m1 ⟨k1, w, rfl, rw1, bw1⟩
 have o1 := k1.own o0 (by simp)
 have K1 := k0.trans k1
 have lA := own_lt o0
 have l1 := k1.len
 have hz : (bys (List.replicate 32 0#8)).length = 32 := by simp
 have hsp : splice (bys (List.replicate 32 0#8)) 0 (bys (List.replicate 32 0#8)) = bys (List.replicate 32 0#8) := splice_whole rfl
 have htk : List.take 32 (bys (List.replicate 32 0#8)) = bys (List.replicate 32 0#8) := List.take_of_length_le (by simp)
 have KW : Kept [] m (m1.set (m.length + 1) (.row (bys (List.replicate 32 0#8)) false)) := K1.write (.inr (by omega)) _
 have fin : ∀ (M : Mem) (row : Blk) {Wd' Rd'' Wc' Rc'' : List Nat} {d' : Dk} {c' : CyS}, Kept (vwB c (Rd ++ Rc)) m M → Dsk M xd Wd' Rd'' d' → Cy M xc Wc' Rc'' c' → (∀ q ∈ Rd'', q ∉ Rc'') → (∀ q ∈ Rd'' ++ Rc'', q ∈ Rd ++ Rc ∨ m1.length ≤ q) →
   Kept (vwB c (Rd ++ Rc)) m (M.set (m.length + 1) row) ∧ ∃ B', Vo (M.set (m.length + 1) row) xd xc B' d' c' ∧ ∀ q ∈ B', q ∈ Rd ++ Rc ∨ m.length ≤ q := by
  intro M row Wd' Rd'' Wc' Rc'' d' c' hK h1 h2 h3 h4
  have hZ : ∀ q ∈ Rd'' ++ Rc'', q ∉ [m.length + 1] := fun q hq h => by
   simp only [List.mem_singleton] at h
   subst h
   rcases h4 _ hq with h | h
   ·rcases List.mem_append.mp h with h | h
    ·have := hD.lt _ h; omega
    ·have := hC.lt _ h; omega
   ·omega
  have kZ := Kept.set1 M (m.length + 1) row
  exact ⟨hK.write (.inr (by omega)) _, Rd'' ++ Rc'', ⟨Wd', Rd'', Wc', Rc'', h1.kept kZ (fun q hq => hZ q (by simp [hq])), h2.kept kZ (fun q hq => hZ q (by simp [hq])), h3, rfl⟩, fun q hq => (h4 q hq).imp id fun h => by omega⟩
 by_cases h1 : errG g = 0
 ·have h1' : ¬ (errG g ≠ 0) := by simp [h1]
  have hok := (errG_ok g).mp h1
  have hpl : (putG g).length = 24 := by rw [putG, if_pos hok, geoB_len]
  rw [h1]
  simp -implicitDefEqProofs (disch := (first | omega | (simp only [lq15] <;> omega) | fail)) only [admQ, lq15, aFill, AK.cls, implies_true, if_true, if_false, seval, -List.reduceReplicate, (rd_one rw1).1, (rd_one rw1).2]
  have hbw : ∀ q ∈ blkOf w, q ∉ Wc := fun q hq h => by have := bw1 q hq; have := hC.lt q (hC.sub q h); omega
  refine (ans_scputS (s := suS e g) (hC.kept0 K1) (v := w) rw1 hbw (cyOk_mono hk (by omega)) (by simp only [suS]; omega)).mono ?_
  rintro _ m2 ⟨W', R', w2, k2, hC2, hR2, rfl, sp2, bw2⟩
  have hWcl : ∀ q ∈ Wc, q < m.length ∧ q ∈ Rc := fun q hq => ⟨hC.lt q (hC.sub q hq), hC.sub q hq⟩
  have hWdl : ∀ q ∈ Wd, q < m.length ∧ q ∈ Rd := fun q hq => ⟨hD.lt q (hD.sub q hq), hD.sub q hq⟩
  have hK1l := K1.len
  have o2 := k2.own o1 (fun h => by have := (hWcl _ h).1; omega)
  have hD2 : Dsk m2 xd Wd Rd d := (hD.kept0 K1).kept k2 (fun q hq h => hap q hq (hWcl q h).2)
  have K2 : Kept (vwB c (Rd ++ Rc)) m m2 := (K1.any).trans (k2.more (fun q hq _ => vwB_w0 hC hq))
  have hR2' : ∀ q ∈ Rd, q ∉ R' := fun q hq h => (hR2 q h).elim (hap q hq) (fun h2 => by have := hD.lt q hq; omega)
  have l2 := k2.len
  by_cases h2 : errP (suS e g) = 0
  ·have h2' : ¬ (errP (suS e g) ≠ 0) := by simp [h2]
   have hok2 := (errP_ok _).mp h2
   have hlp := putL_len (c := c) hok2
   have hsp24 : (suS e g).p.length = 24 := hpl
   rw [h2]
   simp -implicitDefEqProofs (disch := (first | omega | (simp only [lq15] <;> omega) | fail)) only [admQ, lq15, aFill, AK.cls, implies_true, if_true, if_false, seval, -List.reduceReplicate]
   refine (ans_dkwrite hD2 sp2.rd (fun q hq h => by have := sp2.low q hq; have := (hWdl q h).1; omega) (by omega) 0).mono ?_
   rintro _ m3 ⟨rfl, k3, Rd', hD3, hRd3⟩
   have o3 := k3.own o2 (fun h => by have := (hWdl _ h).1; omega)
   have hC3 : Cy m3 xc W' R' (putC c (suS e g)) := hC2.kept k3 (fun q hq h => hR2' q (hWdl q h).2 hq)
   have rw3 : RdB m3 w2 (putL c (suS e g)) := rdb_ap sp2.rd k3 (fun q hq h => by have := sp2.low q hq; have := (hWdl q h).1; omega)
   have K3 : Kept (vwB c (Rd ++ Rc)) m m3 := K2.trans (k3.more (fun q hq _ => vwB_d hC (hWdl q hq).2))
   have l3 := k3.len
   have hap3 : ∀ q ∈ Rd', q ∉ R' := fun q hq h => (hRd3 q hq).elim (fun h1 => hR2' q h1 h) (fun h1 => by have := hC2.lt q h; omega)
   have hB3 : ∀ q ∈ Rd' ++ R', q ∈ Rd ++ Rc ∨ m.length ≤ q := fun q hq => by
    rcases List.mem_append.mp hq with h | h
    ·rcases hRd3 q h with h | h
     ·exact .inl (by simp [h])
     ·right; omega
    ·rcases hR2 q h with h | h
     ·exact .inl (by simp [h])
     ·right; omega
   by_cases h3 : writeE d 0 (putL c (suS e g)) = 0
   ·have h3' : ¬ (writeE d 0 (putL c (suS e g)) ≠ 0) := by simp [h3]
    have hE : suE d c e g = 0 := by rw [suE, if_neg h1', if_neg h2', h3]
    rw [suM, if_pos hE, hE, suD, suC, if_neg h1', if_neg h1', if_neg h2', if_neg h2', if_neg h3', h3]
    have hm : methodD Tryz.prog (cyT c) "Sum" = some (cySmF (putC c (suS e g))) := by rw [← cyT_put c (suS e g)]; exact cym_sum _
    simp -implicitDefEqProofs (disch := (first | omega | (simp only [lq15] <;> omega) | fail)) only [admQ, lq15, aFill, AK.cls, implies_true, if_true, if_false, seval, -List.reduceReplicate, opW_invoke _ hm, opDW_invoke _ hm]
    have ht3 : cyTk (putC c (suS e g)) 1000 := by
     have e1 : ∀ s, cyTk (cyNx c s) 1000 := fun s => by cases c <;> exact ht
     unfold putC; split <;> first | exact e1 _ | exact ht
    refine (ans_cysum hC3 rw3 (fun q hq h => (bw2 q hq).2 (hC2.sub q h)) ht3 (by omega)).mono ?_
    rintro _ m4 ⟨rfl, k4, hC4⟩
    have hW' : ∀ q ∈ W', q ∈ R' := hC2.sub
    have o4 := k4.own o3 (fun h => (hR2 _ (hW' _ h)).elim (fun h1 => by have := hC.lt _ h1; omega) (fun h1 => by have := k1.len; have := K1.len; omega))
    have hsl := cySm_len (putC c (suS e g)) (putL c (suS e g))
    have hsp2 : splice (bys (List.replicate 32 0#8)) 0 (bys (cySm (putC c (suS e g)) (putL c (suS e g)))) = bys (cySm (putC c (suS e g)) (putL c (suS e g))) := splice_whole (by rw [hsl]; rfl)
    have htk2 : List.take 32 (bys (cySm (putC c (suS e g)) (putL c (suS e g)))) = bys (cySm (putC c (suS e g)) (putL c (suS e g))) := List.take_of_length_le (by rw [bys_len, hsl]; omega)
    have hbl : (bys (cySm (putC c (suS e g)) (putL c (suS e g)))).length = 32 := by rw [bys_len, hsl]
    generalize cySm (putC c (suS e g)) (putL c (suS e g)) = SM at *
    simp -implicitDefEqProofs (disch := (first | omega | (simp only [lq15] <;> omega) | fail)) only [admQ, lq15, aFill, AK.cls, implies_true, if_true, if_false, seval, -List.reduceReplicate, o4, hz, hsp2, hbl, rowOf_own (own_set (own_lt o4) _), htk2]
    have hapW : ∀ q ∈ Rd', q ∉ W' := fun q hq h => hap3 q hq (hW' q h)
    refine fin m4 _ (kept_mix K3 k4 (fun q hq => vwB_w hC2 (cyT_put c (suS e g)).symm hq (hB3 q (by simp [hW' q hq])))) (hD3.kept k4 hapW) hC4 hap3 (fun q hq => ?_)
    rcases List.mem_append.mp hq with h | h
    ·exact (hRd3 q h).imp (fun h => by simp [h]) (fun h => by omega)
    ·exact (hR2 q h).imp (fun h => by simp [h]) (fun h => by omega)
   ·rw [suM, suE, suD, suC, if_neg h1', if_neg h1', if_neg h1', if_neg h2', if_neg h2', if_neg h2', if_pos h3, if_neg h3]
    simp -implicitDefEqProofs (disch := (first | omega | (simp only [lq15] <;> omega) | fail)) only [admQ, lq15, aFill, AK.cls, implies_true, if_true, if_false, seval, -List.reduceReplicate, beq_eq_false_iff_ne.mpr h3, o3, hz, hsp, rowOf_own (own_set (own_lt o3) _), htk]
    refine fin m3 _ K3 hD3 hC3 hap3 (fun q hq => ?_)
    rcases List.mem_append.mp hq with h | h
    ·exact (hRd3 q h).imp (fun h => by simp [h]) (fun h => by omega)
    ·exact (hR2 q h).imp (fun h => by simp [h]) (fun h => by omega)
  ·have hno : ¬ okP (suS e g) := fun h => h2 ((errP_ok _).mpr h)
   have hcc : putC c (suS e g) = c := by rw [putC, if_neg hno]
   rw [hcc] at hC2
   rw [suM, suE, suD, suC, if_neg h1', if_neg h1', if_neg h1', if_pos h2, if_pos h2, if_pos h2, if_neg h2]
   simp -implicitDefEqProofs (disch := (first | omega | (simp only [lq15] <;> omega) | fail)) only [admQ, lq15, aFill, AK.cls, implies_true, if_true, if_false, seval, -List.reduceReplicate, beq_eq_false_iff_ne.mpr h2, o2, hz, hsp, rowOf_own (own_set (own_lt o2) _), htk]
   refine fin m2 _ K2 hD2 hC2 hR2' (fun q hq => ?_)
   rcases List.mem_append.mp hq with h | h
   ·exact .inl (by simp [h])
   ·exact (hR2 q h).imp (fun h => by simp [h]) (fun h => by omega)
 ·rw [suM, suE, suD, suC, if_pos h1, if_pos h1, if_pos h1, if_neg h1]
  simp -implicitDefEqProofs (disch := (first | omega | (simp only [lq15] <;> omega) | fail)) only [admQ, lq15, aFill, AK.cls, implies_true, if_true, if_false, seval, -List.reduceReplicate, beq_eq_false_iff_ne.mpr h1, o1, hz, hsp, rowOf_own (own_set (own_lt o1) _), htk]
  exact ⟨K1.any.write (.inr (by omega)) _, Rd ++ Rc, ⟨Wd, Rd, Wc, Rc, hD.kept0 KW, hC.kept0 KW, hap, rfl⟩, fun q hq => .inl hq⟩
end Go.Proofs.YtoegmnnecanhfaaGreatDoor
end
section
namespace Go.Proofs.YtoegmnnecanhfaaGreatDoor
open Go Go.Adm
set_option linter.unusedSimpArgs false
set_option linter.unusedVariables false
set_option maxRecDepth 100000
theorem cyOp_le {c : CyS} {e n : Int} {head b pl : List B8} (h : cyOp c e n head b = some pl) : pl.length ≤ b.length := by
 cases c with
 | box key =>
  simp only [cyOp] at h
  split at h
  ·simp only [Option.some.injEq] at h; rw [← h, turnB_len]; simp
  ·cases h
 | nm S T =>
  simp only [cyOp] at h
  split at h
  ·simp only [Option.some.injEq] at h; rw [← h]; simp
  ·cases h
theorem getS_le (c : CyS) (k a : Int) (b : List B8) : (getS c k a b).p.length ≤ b.length := by
 unfold getS; split
 ·cases h : cyOp c (nE b) (nN b) (headB k a.toNat) (b.drop 17) with
  | none => simp
  | some pl => have := cyOp_le h; simp at this ⊢; omega
 ·simp [sec0]
def srOk (c : CyS) (b : List B8) : Prop := b.length ≠ 0 ∧ getE c 1 0 b = 0 ∧ getGE (getS c 1 0 b).p = 0 ∧ (getS c 1 0 b).n = 0
open Classical in
noncomputable def srE (c : CyS) (b : List B8) : Int := if b.length = 0 then 9 else if srOk c b then 0 else 14
open Classical in
noncomputable def srG (c : CyS) (b : List B8) : Geo := if srOk c b then getG (getS c 1 0 b).p else geo0
open Classical in
noncomputable def srM (c : CyS) (b : List B8) : List B8 := if srOk c b then cySm c b else List.replicate 32 0#8
open Classical in
noncomputable def srC (c : CyS) (b : List B8) : CyS := if srOk c b then cyTx c b else c
theorem ans_suread {m : Mem} {xd xc : Nat} {B : List Nat} {d : Dk} {c : CyS} (hV : Vo m xd xc B d c) (hk : cyOk c 1000) (ht : cyTk c 1000) (hl : (peekD d 0).length ≤ 100000) :
  Ans Tryz.prog 15 [.ptr xd 0, .iface (cyT c) (.ptr xc 0)] m fun r m' => r = .tup [geoV (srG c (peekD d 0)), .agg (bys (srM c (peekD d 0))), .int .i64 (srE c (peekD d 0))] ∧ Kept (vwB c B) m m' ∧ Vo m' xd xc B (readD d 0) (srC c (peekD d 0)) := by
 refine ans_ret mixed ok15 ?_
 obtain ⟨Wd, Rd, Wc, Rc, hD, hC, hap, rfl⟩ := hV
 have k0 := Kept.app [] m [.row [.int .i64 0, .int .i64 0, .int .i64 0] false, .row (bys (List.replicate 32 0#8)) false]
 have o0 : own (m ++ [.row [.int .i64 0, .int .i64 0, .int .i64 0] false, .row (bys (List.replicate 32 0#8)) false]) m.length = some [.int .i64 0, .int .i64 0, .int .i64 0] := by rw [own_app_at0]; rfl
 have s0 : own (m ++ [.row [.int .i64 0, .int .i64 0, .int .i64 0] false, .row (bys (List.replicate 32 0#8)) false]) (m.length + 1) = some (bys (List.replicate 32 0#8)) := by rw [own_app_at]; rfl
 simp -implicitDefEqProofs (disch := (first | omega | (simp only [lq15] <;> omega) | fail)) only [admQ, lq15, aFill, AK.cls, implies_true, if_true, if_false, seval, -List.reduceReplicate, c15, r15]
 generalize m ++ [.row [.int .i64 0, .int .i64 0, .int .i64 0] false, .row (bys (List.replicate 32 0#8)) false] = A at *
 have lA := own_lt s0
 have hsz := hD.sz
 have rdk : Ans Tryz.prog 17 [.ptr xd 0, .int .i64 0] A fun r m' => Kept Wd A m' ∧ Dsk m' xd Wd Rd (readD d 0) ∧ ∃ v, r = .tup [v, .int .i64 0] ∧ SPb A.length m' v (peekD d 0) :=
  ans_dkread (i := 0) (hD.kept0 k0) (by omega) (show (peekD d 0).length ≤ 1000000 by omega)
 refine rdk.mono ?_
 rintro _ m1 ⟨k1, hD1, v, rfl, sv⟩
 generalize hb : peekD d 0 = b at *
 have hWcl : ∀ q ∈ Wc, q < m.length ∧ q ∈ Rc := fun q hq => ⟨hC.lt q (hC.sub q hq), hC.sub q hq⟩
 have hWdl : ∀ q ∈ Wd, q < m.length ∧ q ∈ Rd := fun q hq => ⟨hD.lt q (hD.sub q hq), hD.sub q hq⟩
 have o1 := k1.own o0 (fun h => by have := (hWdl _ h).1; omega)
 have s1 := k1.own s0 (fun h => by have := (hWdl _ h).1; omega)
 have hC1 : Cy m1 xc Wc Rc c := (hC.kept0 k0).kept k1 (fun q hq h => hap q (hWdl q h).2 hq)
 have K1 : Kept (vwB c (Rd ++ Rc)) m m1 := k0.any.trans (k1.more (fun q hq _ => vwB_d hC (hWdl q hq).2))
 have l1 := k1.len
 have hz : (bys (List.replicate 32 0#8)).length = 32 := by simp
 have hsp : splice (bys (List.replicate 32 0#8)) 0 (bys (List.replicate 32 0#8)) = bys (List.replicate 32 0#8) := splice_whole rfl
 have htk : List.take 32 (bys (List.replicate 32 0#8)) = bys (List.replicate 32 0#8) := List.take_of_length_le (by simp)
 have fin : ∀ (M : Mem) (r1 r2 : Blk) {c' : CyS}, Kept (vwB c (Rd ++ Rc)) m M → Dsk M xd Wd Rd (readD d 0) → Cy M xc Wc Rc c' →
   Kept (vwB c (Rd ++ Rc)) m ((M.set m.length r1).set (m.length + 1) r2) ∧ Vo ((M.set m.length r1).set (m.length + 1) r2) xd xc (Rd ++ Rc) (readD d 0) c' := by
  intro M r1 r2 c' hK h1 h2
  have kZ : Kept [m.length, m.length + 1] M ((M.set m.length r1).set (m.length + 1) r2) := (Kept.set (X := [m.length, m.length + 1]) M m.length r1 (by simp)).trans (.set _ _ r2 (by simp))
  have hZ : ∀ q, q < m.length → q ∉ [m.length, m.length + 1] := fun q hq h => by simp only [List.mem_cons, List.not_mem_nil, or_false] at h; omega
  exact ⟨(hK.write (.inr (Nat.le_refl _)) _).write (.inr (by omega)) _, Wd, Rd, Wc, Rc, h1.kept kZ (fun q hq => hZ q (hD.lt q hq)), h2.kept kZ (fun q hq => hZ q (hC.lt q hq)), hap, rfl⟩
 have bad : ∀ (M : Mem) (er : Int), ¬ srOk c b → srE c b = er → Kept (vwB c (Rd ++ Rc)) m M → Dsk M xd Wd Rd (readD d 0) → Cy M xc Wc Rc c →
   AV.tup [.agg [.int .i64 0, .int .i64 0, .int .i64 0], .agg (bys (List.replicate 32 0#8)), .int .i64 er] = .tup [geoV (srG c b), .agg (bys (srM c b)), .int .i64 (srE c b)] ∧
   Kept (vwB c (Rd ++ Rc)) m ((M.set m.length (.row [AV.int .i64 0, .int .i64 0, .int .i64 0] false)).set (m.length + 1) (.row (bys (List.replicate 32 0#8)) false)) ∧ Vo ((M.set m.length (.row [AV.int .i64 0, .int .i64 0, .int .i64 0] false)).set (m.length + 1) (.row (bys (List.replicate 32 0#8)) false)) xd xc (Rd ++ Rc) (readD d 0) (srC c b) := by
  intro M er hno he hK h1 h2
  have e1 : srG c b = geo0 := if_neg hno
  have e2 : srM c b = List.replicate 32 0#8 := if_neg hno
  have e3 : srC c b = c := if_neg hno
  rw [e1, e2, e3, he]
  obtain ⟨f1, f2⟩ := fin M _ _ hK h1 h2
  exact ⟨rfl, f1, f2⟩
 by_cases h0 : b.length = 0
 ·have hno : ¬ srOk c b := fun h => h.1 h0
  have he : srE c b = 9 := if_pos h0
  have t1 := own_set (own_lt o1) [AV.int .i64 0, .int .i64 0, .int .i64 0]
  have t2 := own_set_ne' s1 (show m.length ≠ m.length + 1 by omega) (.row [AV.int .i64 0, .int .i64 0, .int .i64 0] false)
  have t3 := own_set (own_lt t2) (bys (List.replicate 32 0#8))
  have t4 := own_set_ne' t1 (show m.length + 1 ≠ m.length by omega) (.row (bys (List.replicate 32 0#8)) false)
  simp -implicitDefEqProofs (disch := (first | omega | (simp only [lq15] <;> omega) | fail)) only [admQ, lq15, aFill, AK.cls, implies_true, if_true, if_false, seval, -List.reduceReplicate, sv.rd.len, h0, o1, t1, t2, hz, hsp, rowOf_own t3, rowOf_own t4, htk]
  exact bad m1 9 hno he K1 hD1 hC1
 ·simp -implicitDefEqProofs (disch := (first | omega | (simp only [lq15] <;> omega) | fail)) only [admQ, lq15, aFill, AK.cls, implies_true, if_true, if_false, seval, -List.reduceReplicate, sv.rd.len, beq_eq_false_iff_ne.mpr (show ¬ (b.length : Int) = 0 by omega)]
  refine (ans_scget (k := 1) (a := 0) hC1 sv.rd hk (by omega)).mono ?_
  rintro _ m2 ⟨k2, w2, rfl, rw2, bw2⟩
  have hgl : (getS c 1 0 b).p.length ≤ 100000 := by
   have : (getS c 1 0 b).p.length ≤ b.length := getS_le _ _ _ _
   omega
  generalize hS : getS c 1 0 b = S at *
  unfold secV
  simp -implicitDefEqProofs (disch := (first | omega | (simp only [lq15] <;> omega) | fail)) only [admQ, lq15, aFill, AK.cls, implies_true, if_true, if_false, seval, -List.reduceReplicate, (rd_one rw2).1, (rd_one rw2).2]
  have k3 := Kept.app [] m2 [.row [.int .i64 S.k, .int .i64 S.e, .int .i64 S.n, .int .i64 S.a, w2] false]
  have q3 : own (m2 ++ [.row [.int .i64 S.k, .int .i64 S.e, .int .i64 S.n, .int .i64 S.a, w2] false]) m2.length = some [.int .i64 S.k, .int .i64 S.e, .int .i64 S.n, .int .i64 S.a, w2] := by rw [own_app_at0]; rfl
  generalize m2 ++ [.row [.int .i64 S.k, .int .i64 S.e, .int .i64 S.n, .int .i64 S.a, w2] false] = E at *
  refine (ans_suget (rw2.kept0 k3) hgl).mono ?_
  rintro _ m4 ⟨k4, rfl⟩
  unfold geoV geoC
  simp -implicitDefEqProofs (disch := (first | omega | (simp only [lq15] <;> omega) | fail)) only [admQ, lq15, aFill, AK.cls, implies_true, if_true, if_false, seval, -List.reduceReplicate]
  generalize hG : getG S.p = G at *
  generalize hE5 : m4 ++ _ = E5
  have k5 : Kept [] m4 E5 := by rw [← hE5]; exact .app _ _ _
  have g5 : own E5 m4.length = some [.int .i64 G.s, .int .i64 G.n, .int .i64 G.b] := by rw [← hE5, own_app_at0]; rfl
  clear hE5
  have k15 := ((k2.trans k3).trans k4).trans k5
  have q5 := (k4.trans k5).own q3 (by simp)
  have o5 := k15.own o1 (by simp)
  have s5 := k15.own s1 (by simp)
  have K5 : Kept (vwB c (Rd ++ Rc)) m E5 := K1.trans k15.any
  have hD5 := hD1.kept0 k15
  have hC5 := hC1.kept0 k15
  have t1 := own_set (own_lt o5) [AV.int .i64 0, .int .i64 0, .int .i64 0]
  have t2 := own_set_ne' s5 (show m.length ≠ m.length + 1 by omega) (.row [AV.int .i64 0, .int .i64 0, .int .i64 0] false)
  have t3 := own_set (own_lt t2) (bys (List.replicate 32 0#8))
  have t4 := own_set_ne' t1 (show m.length + 1 ≠ m.length by omega) (.row (bys (List.replicate 32 0#8)) false)
  have bad' : ¬ srOk c b → _ := fun hno => bad E5 14 hno (by rw [srE, if_neg h0, if_neg hno]) K5 hD5 hC5
  by_cases hE : getE c 1 0 b = 0
  ·by_cases hF : getGE S.p = 0
   ·by_cases hN : S.n = 0
    ·have hok : srOk c b := ⟨h0, hE, by rw [hS]; exact hF, by rw [hS]; exact hN⟩
     have e1 : srG c b = G := by rw [srG, if_pos hok, hS, hG]
     have e2 : srM c b = cySm c b := if_pos hok
     have e3 : srC c b = cyTx c b := if_pos hok
     have e4 : srE c b = 0 := by rw [srE, if_neg h0, if_pos hok]
     rw [e1, e2, e3, e4]
     simp -implicitDefEqProofs (disch := (first | omega | (simp only [lq15] <;> omega) | fail)) only [admQ, lq15, aFill, AK.cls, implies_true, if_true, if_false, seval, -List.reduceReplicate, hE, hF, hN, Bool.not_true, rowOf_own q5, rowOf_own g5, opW_invoke _ (cym_sum c), opDW_invoke _ (cym_sum c)]
     refine (ans_cysum hC5 (sv.rd.kept0 k15) (fun q hq h => by have := sv.low q hq; have := (hWcl q h).1; omega) ht (by omega)).mono ?_
     rintro _ m6 ⟨rfl, k6, hC6⟩
     have hWn : ∀ q, m.length ≤ q → q ∉ Wc := fun q h1 h2 => by have := (hWcl q h2).1; omega
     have o6 := k6.own o5 (hWn _ (Nat.le_refl _))
     have s6 := k6.own s5 (hWn _ (by omega))
     have g6 := k6.own g5 (hWn _ (by have := own_lt o5; have := k2.len; have := k3.len; have := k4.len; omega))
     have K6 : Kept (vwB c (Rd ++ Rc)) m m6 := K5.trans (k6.more (fun q hq _ => vwB_w0 hC hq))
     have hD6 := hD5.kept k6 (fun q hq h => hap q hq (hWcl q h).2)
     have hsl := cySm_len c b
     have hsp2 : splice (bys (List.replicate 32 0#8)) 0 (bys (cySm c b)) = bys (cySm c b) := splice_whole (by rw [hsl]; rfl)
     have htk2 : List.take 32 (bys (cySm c b)) = bys (cySm c b) := List.take_of_length_le (by rw [bys_len, hsl]; omega)
     have hbl : (bys (cySm c b)).length = 32 := by rw [bys_len, hsl]
     have u1 := own_set (own_lt o6) [AV.int .i64 G.s, .int .i64 G.n, .int .i64 G.b]
     have u2 := own_set_ne' s6 (show m.length ≠ m.length + 1 by omega) (.row [AV.int .i64 G.s, .int .i64 G.n, .int .i64 G.b] false)
     have u3 := own_set (own_lt u2) (bys (cySm c b))
     have u4 := own_set_ne' u1 (show m.length + 1 ≠ m.length by omega) (.row (bys (cySm c b)) false)
     simp -implicitDefEqProofs (disch := (first | omega | (simp only [lq15] <;> omega) | fail)) only [admQ, lq15, aFill, AK.cls, implies_true, if_true, if_false, seval, -List.reduceReplicate, rowOf_own g6, rowOf_own g5, o6, u1, u2, hz, hsp2, hbl, rowOf_own u3, rowOf_own u4, htk2]
     exact fin m6 _ _ K6 hD6 hC6
    ·have hno : ¬ srOk c b := fun h => hN (by rw [← hS]; exact h.2.2.2)
     simp -implicitDefEqProofs (disch := (first | omega | (simp only [lq15] <;> omega) | fail)) only [admQ, lq15, aFill, AK.cls, implies_true, if_true, if_false, seval, -List.reduceReplicate, hE, hF, beq_eq_false_iff_ne.mpr hN, Bool.not_false, Bool.not_true, rowOf_own q5, o5, t1, t2, hz, hsp, rowOf_own t3, rowOf_own t4, htk]
     exact bad' hno
   ·have hno : ¬ srOk c b := fun h => hF (by rw [← hS]; exact h.2.2.1)
    simp -implicitDefEqProofs (disch := (first | omega | (simp only [lq15] <;> omega) | fail)) only [admQ, lq15, aFill, AK.cls, implies_true, if_true, if_false, seval, -List.reduceReplicate, hE, beq_eq_false_iff_ne.mpr hF, Bool.not_false, Bool.not_true, rowOf_own q5, o5, t1, t2, hz, hsp, rowOf_own t3, rowOf_own t4, htk]
    exact bad' hno
  ·have hno : ¬ srOk c b := fun h => hE h.2.1
   simp -implicitDefEqProofs (disch := (first | omega | (simp only [lq15] <;> omega) | fail)) only [admQ, lq15, aFill, AK.cls, implies_true, if_true, if_false, seval, -List.reduceReplicate, beq_eq_false_iff_ne.mpr hE, Bool.not_false, rowOf_own q5, o5, t1, t2, hz, hsp, rowOf_own t3, rowOf_own t4, htk]
   exact bad' hno
end Go.Proofs.YtoegmnnecanhfaaGreatDoor
end
section
namespace Go.Proofs.YtoegmnnecanhfaaGreatDoor
open Go Go.Adm
set_option linter.unusedSimpArgs false
set_option linter.unusedVariables false
set_option maxRecDepth 100000
def Calm (d : Dk) : Prop := d.off = false ∧ d.armed = false ∧ 1 ≤ d.lasts.length ∧ (d.cache.map (·.1)).Nodup
theorem calm_write {d : Dk} (h : Calm d) {b : List B8} (hb : b.length ≤ 1024) : writeE d 0 b = 0 ∧ Calm (writeD d 0 b) ∧ peekD (writeD d 0 b) 0 = b ∧ (writeD d 0 b).lasts = d.lasts := by
 obtain ⟨h1, h2, h3, h4⟩ := h
 have hi : okI d 0 := ⟨by omega, by omega⟩
 have hw : wrongD d 0 b = 0 := by rw [wrongD, if_neg (by simpa using hi), if_neg (by omega)]
 have hs : spendE d = 0 := by rw [spendE, if_neg (by simp [h1]), if_neg (by simp [h2])]
 have hd : spendD d = { d with left := IntKind.i64.wrap (d.left - 1) } := by rw [spendD, if_neg (by simp [h1]), if_neg (by simp [h2])]
 have hD : writeD d 0 b = { spendD d with cache := cPut d.cache 0 b, writes := IntKind.i64.wrap (d.writes + 1) } := by rw [writeD, if_neg (by simp [h1]), if_neg (by simp [hw]), if_neg (by simp [hs])]
 refine ⟨by rw [writeE, if_neg (by simp [h1]), if_neg (by simp [hw]), hs], ?_, ?_, ?_⟩
 ·rw [hD, hd]; exact ⟨h1, h2, h3, cPut_keys h4⟩
 ·rw [hD, peekD]
  simp only
  rw [cGet_put h4]; rfl
 ·rw [hD, hd]
theorem calm_read {d : Dk} (h : Calm d) (i : Int) : Calm (readD d i) ∧ peekD (readD d i) 0 = peekD d 0 := ⟨h, rfl⟩
theorem calm0 (n : Nat) (h : 1 ≤ n) : Calm (dk0 n) := ⟨rfl, rfl, by simpa [dk0] using h, by simp [dk0]⟩
theorem sup_len (c : CyS) (e : Int) (g : Geo) : (putL c (suS e g)).length ≤ 1024 := by
 by_cases h : okP (suS e g)
 ·rw [putL_len h]; have := h.2.2; omega
 ·rw [putL, if_neg h]; simp
theorem addN_again {α : Type} [DecidableEq α] (b : α) (T : List α) : addN b (addN b T) = addN b T ∧ posN b (addN b T) = posN b T := by
 obtain ⟨h1, h2⟩ := addN_in (fidx_addself b T)
 exact ⟨h1, by rw [h2]; have := (posN_le b T).1; omega⟩
def suOk (e : Int) (g : Geo) : Prop := okG g ∧ okP (suS e g)
instance (e : Int) (g : Geo) : Decidable (suOk e g) := by unfold suOk; infer_instance
theorem su_calm {d : Dk} (h : Calm d) (c : CyS) (e : Int) (g : Geo) : (suE d c e g = 0 ↔ suOk e g) ∧ Calm (suD d c e g) := by
 obtain ⟨w1, w2, -, -⟩ := calm_write h (sup_len c e g)
 unfold suE suD suOk
 by_cases h1 : errG g = 0
 ·have h1' : ¬ (errG g ≠ 0) := by simp [h1]
  rw [if_neg h1', if_neg h1']
  by_cases h2 : errP (suS e g) = 0
  ·have h2' : ¬ (errP (suS e g) ≠ 0) := by simp [h2]
   rw [if_neg h2', if_neg h2', w1]
   exact ⟨⟨fun _ => ⟨(errG_ok g).mp h1, (errP_ok _).mp h2⟩, fun _ => rfl⟩, w2⟩
  ·rw [if_pos h2, if_pos h2]
   exact ⟨⟨fun h => absurd h h2, fun h => absurd ((errP_ok _).mpr h.2) h2⟩, h⟩
 ·rw [if_pos h1, if_pos h1]
  exact ⟨⟨fun h => absurd h h1, fun h => absurd ((errG_ok g).mpr h.1) h1⟩, h⟩
theorem su_back {d : Dk} (h : Calm d) {S : List Sd} {T : List (List B8)} {e : Int} {g : Geo} (hk : suOk e g) :
  suD d (.nm S T) e g = writeD d 0 (putL (.nm S T) (suS e g)) ∧ peekD (suD d (.nm S T) e g) 0 = putL (.nm S T) (suS e g) ∧ suC d (.nm S T) e g = .nm (putS S (suS e g)) (addN (putL (.nm S T) (suS e g)) T) ∧ suM d (.nm S T) e g = nsumB T (putL (.nm S T) (suS e g)) := by
 obtain ⟨w1, w2, w3, -⟩ := calm_write h (sup_len (.nm S T) e g)
 have h1' : ¬ (errG g ≠ 0) := by simp [(errG_ok g).mpr hk.1]
 have h2' : ¬ (errP (suS e g) ≠ 0) := by simp [(errP_ok _).mpr hk.2]
 have h3' : ¬ (writeE d 0 (putL (.nm S T) (suS e g)) ≠ 0) := by simp [w1]
 have hD : suD d (.nm S T) e g = writeD d 0 (putL (.nm S T) (suS e g)) := by rw [suD, if_neg h1', if_neg h2']
 refine ⟨hD, by rw [hD]; exact w3, ?_, ?_⟩
 ·rw [suC, if_neg h1', if_neg h2', if_neg h3', putC_nm]; rfl
 ·rw [suM, if_pos ((su_calm h _ e g).1.mpr hk), putC_nm]; rfl
theorem sr_back {S S2 : List Sd} {T T2 : List (List B8)} {e : Int} {g : Geo} (hk : suOk e g) (hs : cyHas (.nm S T) (.nm S2 T2) (secD (suS e g))) :
  srOk (.nm S2 T2) (putL (.nm S T) (suS e g)) ∧ srG (.nm S2 T2) (putL (.nm S T) (suS e g)) = g ∧ srM (.nm S2 T2) (putL (.nm S T) (suS e g)) = nsumB T2 (putL (.nm S T) (suS e g)) ∧ srC (.nm S2 T2) (putL (.nm S T) (suS e g)) = .nm S2 (addN (putL (.nm S T) (suS e g)) T2) ∧ srE (.nm S2 T2) (putL (.nm S T) (suS e g)) = 0 := by
 obtain ⟨p1, p2⟩ := get_put (c := .nm S T) hk.2 hs
 obtain ⟨q1, q2⟩ := get_putG hk.1
 have hl := putL_len (c := .nm S T) hk.2
 have p1' : getE (.nm S2 T2) 1 0 (putL (.nm S T) (suS e g)) = 0 := p1
 have p2' : getS (.nm S2 T2) 1 0 (putL (.nm S T) (suS e g)) = suS e g := p2
 have hok : srOk (.nm S2 T2) (putL (.nm S T) (suS e g)) := ⟨by omega, p1', by rw [p2']; exact q1, by rw [p2']; rfl⟩
 exact ⟨hok, by rw [srG, if_pos hok, p2']; exact q2, by rw [srM, if_pos hok]; rfl, by rw [srC, if_pos hok]; rfl, by rw [srE, if_neg hok.1, if_pos hok]⟩
theorem srM_len (c : CyS) (b : List B8) : (srM c b).length = 32 := by
 unfold srM; split
 ·exact cySm_len c b
 ·simp
theorem suM_len (d : Dk) (c : CyS) (e : Int) (g : Geo) : (suM d c e g).length = 32 := by
 unfold suM; split
 ·exact cySm_len _ _
 ·simp
theorem sm_facts {l : List B8} (h : l.length = 32) : (bys l).length = 32 ∧ splice (bys (List.replicate 32 0#8)) 0 (bys l) = bys l ∧ List.take 32 (bys l) = bys l :=
 ⟨by rw [bys_len, h], splice_whole (by rw [h]; rfl), List.take_of_length_le (by rw [bys_len, h]; omega)⟩
def smallG : Geo := ⟨18, 32, 4⟩
theorem ans_small (m : Mem) : Ans Tryz.prog 23 [] m fun r m' => r = geoV smallG ∧ Kept [] m m' := by
 refine ans_ret mixed ok23 ?_
 have h0 : own (m ++ [.row [.int .i64 0, .int .i64 0, .int .i64 0] false]) m.length = some [.int .i64 0, .int .i64 0, .int .i64 0] := by rw [own_app_at0]; rfl
 simp -implicitDefEqProofs (disch := (first | omega | (simp only [lq15] <;> omega) | fail)) only [admQ, lq15, aFill, AK.cls, implies_true, if_true, if_false, seval, -List.reduceReplicate, c23, r23]
 exact ⟨rfl, .app _ _ _⟩
theorem ans_suknown (m : Mem) : Ans Tryz.prog 4 [] m fun r m' => r = .bool true ∧ Kept [] m m' := by
 refine ans_ret mixed ok4 ?_
 simp -implicitDefEqProofs (disch := (first | omega | (simp only [lq15] <;> omega) | fail)) only [admQ, lq15, aFill, AK.cls, implies_true, if_true, if_false, seval, -List.reduceReplicate, c4, r4]
 have hnew := ans_dknew 5 (by omega) m
 refine Ans.mono hnew ?_
 rintro _ m1 ⟨k1, xd, Wd, Rd, rfl, hD, hRd⟩
 simp -implicitDefEqProofs (disch := (first | omega | (simp only [lq15] <;> omega) | fail)) only [admQ, lq15, aFill, AK.cls, implies_true, if_true, if_false, seval, -List.reduceReplicate]
 refine (ans_nnew m1).mono ?_
 rintro _ m2 ⟨xc, Wc, rfl, k2, hN, hWc⟩
 simp -implicitDefEqProofs (disch := (first | omega | (simp only [lq15] <;> omega) | fail)) only [admQ, lq15, aFill, AK.cls, implies_true, if_true, if_false, seval, -List.reduceReplicate]
 have hV : Vo m2 xd xc (Rd ++ Wc) (dk0 5) (.nm [] []) := ⟨Wd, Rd, Wc, Wc, hD.kept0 k2, ⟨hN, rfl⟩, fun q h1 h2 => by have := hD.lt q h1; have := hWc q h2; omega, rfl⟩
 have hz : (bys (List.replicate 32 0#8)).length = 32 := by simp
 have hB : ∀ q ∈ Rd ++ Wc, m.length ≤ q := fun q hq => by
  have := k1.len
  rcases List.mem_append.mp hq with h | h
  ·exact hRd q h
  ·have := hWc q h; omega
 have K2 := k1.trans k2
 have hp0 : peekD (dk0 5) 0 = [] := rfl
 generalize hBe : Rd ++ Wc = B at hV hB
 refine (ans_suread hV (show 0 ≤ 1000 by omega) (show 0 ≤ 1000 by omega) (by rw [hp0]; simp)).mono ?_
 rintro _ m3 ⟨rfl, k3, hV3⟩
 have hno : ¬ srOk (.nm [] []) [] := fun h => h.1 rfl
 rw [hp0] at hV3 ⊢
 have e9 : srE (.nm [] []) [] = 9 := if_pos rfl
 have ec : srC (.nm [] []) [] = .nm [] [] := if_neg hno
 rw [ec] at hV3
 rw [e9]
 obtain ⟨f1, f2, f3⟩ := sm_facts (srM_len (.nm [] []) [])
 generalize srM (.nm [] []) [] = M0 at *
 generalize srG (.nm [] []) [] = G0 at *
 unfold geoV geoC
 simp -implicitDefEqProofs (disch := (first | omega | (simp only [lq15] <;> omega) | fail)) only [admQ, lq15, aFill, AK.cls, implies_true, if_true, if_false, seval, -List.reduceReplicate, hz, f1, f2]
 have K3 : Kept [] m m3 := K2.upon k3 hB
 have hV4 := hV3.kept0 (.app [] m3 [.row [.int .i64 G0.s, .int .i64 G0.n, .int .i64 G0.b] false, .row (bys M0) false])
 have K4 := K3.more_app [.row [.int .i64 G0.s, .int .i64 G0.n, .int .i64 G0.b] false, .row (bys M0) false]
 generalize m3 ++ [.row [.int .i64 G0.s, .int .i64 G0.n, .int .i64 G0.b] false, .row (bys M0) false] = m4 at *
 refine (ans_small m4).mono ?_
 rintro _ m5 ⟨rfl, k5⟩
 have K5 := K4.trans k5
 unfold geoV
 simp -implicitDefEqProofs (disch := (first | omega | (simp only [lq15] <;> omega) | fail)) only [admQ, lq15, aFill, AK.cls, implies_true, if_true, if_false, seval, -List.reduceReplicate]
 refine (ans_suwrite (hV4.kept0 k5) 1 smallG (show 0 ≤ 999 by omega) (show 0 ≤ 1000 by omega)).mono ?_
 rintro _ m6 ⟨rfl, k6, B6, hV6, hB6⟩
 have hcalm : Calm (readD (dk0 5) 0) := (calm_read (calm0 5 (by omega)) 0).1
 have hok : suOk 1 smallG := by decide
 have hE0 := (su_calm hcalm (.nm [] []) 1 smallG).1.mpr hok
 obtain ⟨b1, b2, b3, b4⟩ := su_back hcalm (S := []) (T := []) hok
 have hcm := (su_calm hcalm (.nm [] []) 1 smallG).2
 obtain ⟨g1, g2, g3⟩ := sm_facts (suM_len (readD (dk0 5) 0) (.nm [] []) 1 smallG)
 rw [hE0]
 rw [b3] at hV6
 obtain ⟨r1, r2, r3, r4, r5⟩ := sr_back (S := []) (S2 := putS [] (suS 1 smallG)) (T := []) (T2 := addN (putL (.nm [] []) (suS 1 smallG)) []) hok (by have := putC_ok (c := .nm [] []) hok.2; rw [putC_nm] at this; exact this)
 have hsm : suM (readD (dk0 5) 0) (.nm [] []) 1 smallG = nsumB (addN (putL (.nm [] []) (suS 1 smallG)) []) (putL (.nm [] []) (suS 1 smallG)) := by
  rw [b4, nsumB, nsumB, (addN_again _ _).2]
 have hpl := sup_len (.nm [] []) 1 smallG
 have hsl := putS_len [] (suS 1 smallG)
 have htl := addN_len (putL (.nm [] []) (suS 1 smallG)) []
 rw [hsm] at g1 g2 g3 ⊢
 generalize nsumB (addN (putL (.nm [] []) (suS 1 smallG)) []) (putL (.nm [] []) (suS 1 smallG)) = SM at *
 generalize suD (readD (dk0 5) 0) (.nm [] []) 1 smallG = D6 at *
 simp -implicitDefEqProofs (disch := (first | omega | (simp only [lq15] <;> omega) | fail)) only [admQ, lq15, aFill, AK.cls, implies_true, if_true, if_false, seval, -List.reduceReplicate, hz, g1, g2]
 have K6 : Kept [] m m6 := K5.upon k6 hB
 have hB6' : ∀ q ∈ B6, m.length ≤ q := fun q hq => (hB6 q hq).elim (hB q) (fun h => by have := K5.len; omega)
 have k7 := Kept.app [] m6 [.row (bys SM) false]
 have s7 : own (m6 ++ [.row (bys SM) false]) m6.length = some (bys SM) := by rw [own_app_at0]; rfl
 generalize m6 ++ [.row (bys SM) false] = m7 at *
 have cT : ∀ (S : List Sd) (T : List (List B8)) (z : Nat), AV.iface 59 (.ptr z 0) = .iface (cyT (.nm S T)) (.ptr z 0) := fun _ _ _ => rfl
 rw [cT (putS [] (suS 1 smallG)) (addN (putL (.nm [] []) (suS 1 smallG)) [])]
 refine (ans_suread (hV6.kept0 k7) (show (putS [] (suS 1 smallG)).length ≤ 1000 by simp at hsl; omega) (show (addN (putL (.nm [] []) (suS 1 smallG)) []).length ≤ 1000 by simp at htl; omega) (by rw [b2]; omega)).mono ?_
 rintro _ m8 ⟨rfl, k8, hV8⟩
 rw [b2, r2, r3, r5]
 have hq6 : ∀ q, q ∈ B6 → q < m6.length := hV6.lt
 have s8 := k8.own s7 (fun h => by have := hq6 _ h; omega)
 have K8 : Kept [] m m8 := (K6.trans k7).upon k8 hB6'
 unfold geoV geoC
 simp -implicitDefEqProofs (disch := (first | omega | (simp only [lq15] <;> omega) | fail)) only [admQ, lq15, aFill, AK.cls, implies_true, if_true, if_false, seval, -List.reduceReplicate, hz, g1, g2]
 have k9 := Kept.app [] m8 [.row [.int .i64 smallG.s, .int .i64 smallG.n, .int .i64 smallG.b] false, .row (bys SM) false]
 have o9 : own (m8 ++ [.row [.int .i64 smallG.s, .int .i64 smallG.n, .int .i64 smallG.b] false, .row (bys SM) false]) m8.length = some [.int .i64 smallG.s, .int .i64 smallG.n, .int .i64 smallG.b] := by rw [own_app_at0]; rfl
 have p9 : own (m8 ++ [.row [.int .i64 smallG.s, .int .i64 smallG.n, .int .i64 smallG.b] false, .row (bys SM) false]) (m8.length + 1) = some (bys SM) := by rw [own_app_at]; rfl
 generalize m8 ++ [.row [.int .i64 smallG.s, .int .i64 smallG.n, .int .i64 smallG.b] false, .row (bys SM) false] = m9 at *
 have s9 := k9.own s8 (by simp)
 refine (ans_small m9).mono ?_
 rintro _ m10 ⟨rfl, k10⟩
 have o10 := k10.own o9 (by simp)
 have p10 := k10.own p9 (by simp)
 have s10 := k10.own s9 (by simp)
 have hSM : SM.length = 32 := by rw [bys_len] at g1; exact g1
 unfold geoV geoC
 simp -implicitDefEqProofs (disch := (first | omega | (simp only [lq15] <;> omega) | fail)) only [admQ, lq15, aFill, AK.cls, implies_true, if_true, if_false, seval, -List.reduceReplicate, rowOf_own o9, rowOf_own p9, rowOf_own s9, rowOf_own o10, rowOf_own p10, rowOf_own s10, g3, hz, g1, aEq_bys SM SM hSM hSM, beq_self_eq_true]
 exact ((K8.trans k9).trans k10)
end Go.Proofs.YtoegmnnecanhfaaGreatDoor
end
section
namespace Go.Proofs.YtoegmnnecanhfaaGreatDoor
open Go Go.Adm
set_option linter.unusedSimpArgs false
set_option linter.unusedVariables false
set_option maxRecDepth 100000
theorem ans_r9int {m : Mem} {x : AV} {l : List B8} (v : Nat) (hv : v < 4611686018427387904) (hx : RdB m x l) (hl : l.length ≤ 900000000) : Ans Tryz.prog 58 [x, .int .i64 v] m fun r m' => Kept [] m m' ∧ GrB m.length m' r (l ++ numB v) := by
 refine ans_ret mixed ok58 ?_
 simp -implicitDefEqProofs (disch := (first | omega | (simp only [lq15] <;> omega) | fail)) only [admQ, lq15, aFill, AK.cls, implies_true, if_true, if_false, seval, -List.reduceReplicate, c58, r58]
 have k0 := Kept.app [] m [Blk.row [] false]
 have g0 : GrB m.length (m ++ [Blk.row [] false]) (.sl m.length 0 0 0 0) [] := .zero (by rw [own_app_at0]; rfl)
 have hx0 := hx.app [Blk.row [] false]
 generalize m ++ [Blk.row [] false] = A at *
 obtain ⟨x1, m1, e1, g1, k1, a1⟩ := g0.pushs hx0 (by simp; omega) k0.len
 refine someW_eq e1 ?_
 simp -implicitDefEqProofs (disch := (first | omega | (simp only [lq15] <;> omega) | fail)) only [admQ, lq15, aFill, AK.cls, implies_true, if_true, if_false, seval, -List.reduceReplicate, nw64 (show v < 18446744073709551616 by omega)]
 have K1 := a1 _ _ k0 (Nat.le_refl _)
 rw [List.nil_append] at g1
 refine LoopW.on (fun t : Nat × AV => [(5, t.2), (6, .int .u64 v), (7, .int .i64 (7 - (t.1 : Int)))]) (fun t => 8 - t.1)
  (fun t M => t.1 ≤ 8 ∧ Kept [] m M ∧ GrB m.length M t.2 (l ++ tab t.1 (fun i => byV v (7 - i)))) ?_ (0, x1) _ _ rfl ⟨by simp, K1, by simpa [tab] using g1⟩
 rintro ⟨k, x⟩ M X ⟨hk, kk, g⟩ hX
 change GrB m.length M x (l ++ tab k (fun i => byV v (7 - i))) at g
 simp only at hk kk
 by_cases hlt : k < 8
 ·rw [show (7 - (k : Int)) = ((7 - k : Nat) : Int) by omega]
  have hw : IntKind.u8.wrap ((v >>> (8 * (7 - k)) : Nat) : Int) = ((byV v (7 - k)).toNat : Int) := wrap_u8 _
  have hmin : Nat.min (8 * (7 - k)) 64 = 8 * (7 - k) := Nat.min_eq_left (by omega)
  have hfd : ((v : Nat) : Int).fdiv (2 ^ Nat.min (8 * (7 - k)) IntKind.u64.bits) = ((v >>> (8 * (7 - k)) : Nat) : Int) := fdiv_nat (by omega)
  simp -implicitDefEqProofs (disch := (first | omega | (simp only [lq15] <;> omega) | fail)) only [admQ, lq15, aFill, AK.cls, implies_true, if_true, if_false, seval, -List.reduceReplicate, hfd, hw, @nw64]
  obtain ⟨x3, m3, e3, g3, k3, a3⟩ := g.push (byV v (7 - k)) (by simp [tab_len]; omega) kk.len
  refine someW_eq e3 ?_
  simp -implicitDefEqProofs (disch := (first | omega | (simp only [lq15] <;> omega) | fail)) only [admQ, lq15, aFill, AK.cls, implies_true, if_true, if_false, seval, -List.reduceReplicate]
  rw [show ((7 - k : Nat) : Int) - 1 = 7 - ((k + 1 : Nat) : Int) by omega]
  refine hX (k + 1, x3) _ _ rfl (by simp only; omega) ⟨by simp only; omega, a3 _ _ kk (Nat.le_refl _), ?_⟩
  show GrB m.length m3 x3 (l ++ tab (k + 1) _)
  rw [tab_succ, ← List.append_assoc]; exact g3
 ·obtain rfl : k = 8 := by omega
  simp -implicitDefEqProofs (disch := (first | omega | (simp only [lq15] <;> omega) | fail)) only [admQ, lq15, aFill, AK.cls, implies_true, if_true, if_false, seval, -List.reduceReplicate]
  exact ⟨kk, g⟩
def Rd9 (m : Mem) (r : Nat) (l : List B8) (j : Nat) : Prop := ∃ v, own m r = some [v, .int .i64 j, .bool false] ∧ RdB m v l ∧ (∀ b ∈ blkOf v, b < r) ∧ j ≤ l.length ∧ l.length ≤ 1000000000
theorem ans_r9read {m : Mem} {x : AV} {l : List B8} (hx : RdB m x l) (hb : l.length ≤ 900000000) : Ans Tryz.prog 71 [x] m fun r m' => Kept [] m m' ∧ ∃ p, r = .ptr p 0 ∧ m.length ≤ p ∧ Rd9 m' p l 0 := by
 refine ans_ret mixed ok71 ?_
 simp -implicitDefEqProofs (disch := (first | omega | (simp only [lq15] <;> omega) | fail)) only [admQ, lq15, aFill, AK.cls, implies_true, if_true, if_false, seval, -List.reduceReplicate, c71, r71]
 have k0 := Kept.app [] m [Blk.row [] false]
 have g0 : GrB m.length (m ++ [Blk.row [] false]) (.sl m.length 0 0 0 0) [] := .zero (by rw [own_app_at0]; rfl)
 have hx0 := hx.app [Blk.row [] false]
 generalize m ++ [Blk.row [] false] = A at *
 obtain ⟨x1, m1, e1, g1, k1, a1⟩ := g0.pushs hx0 (by simp; omega) k0.len
 refine someW_eq e1 ?_
 have K1 := a1 _ _ k0 (Nat.le_refl _)
 rw [List.nil_append] at g1
 have hb1 := g1.lt
 simp -implicitDefEqProofs (disch := (first | omega | (simp only [lq15] <;> omega) | fail)) only [admQ, lq15, aFill, AK.cls, implies_true, if_true, if_false, seval, -List.reduceReplicate, (rd_one g1.rd).1, (rd_one g1.rd).2]
 refine ⟨K1.more_app _, m1.length, rfl, K1.len, x1, by rw [own_app_at0]; rfl, g1.rd.app _, fun b hb => by have := hb1 b hb; omega, Nat.zero_le _, by omega⟩
theorem ans_r9left {m : Mem} {r : Nat} {l : List B8} {j : Nat} (h : Rd9 m r l j) : Ans Tryz.prog 95 [.ptr r 0] m fun v m' => v = .int .i64 ((l.length - j : Nat) : Int) ∧ m' = m := by
 refine ans_ret mixed ok95 ?_
 obtain ⟨v, h1, h2, h3, h4, hl9⟩ := h
 have e : (l.length : Int) - j = ((l.length - j : Nat) : Int) := by omega
 simp -implicitDefEqProofs (disch := (first | omega | (simp only [lq15] <;> omega) | fail)) only [admQ, lq15, aFill, AK.cls, implies_true, if_true, if_false, seval, -List.reduceReplicate, c95, r95, rowOf_own h1, h2.len, e]
theorem ans_r9next {m : Mem} {r : Nat} {l : List B8} {j : Nat} (h : Rd9 m r l j) (hj : j + 8 ≤ l.length) : Ans Tryz.prog 92 [.ptr r 0, .int .i64 8] m fun v m' => Kept [r] m m' ∧ Rd9 m' r l (j + 8) ∧ ∃ y, v = .tup [y, .bool true] ∧ RdB m' y ((l.drop j).take 8) := by
 refine ans_ret mixed ok92 ?_
 simp -implicitDefEqProofs (disch := (first | omega | (simp only [lq15] <;> omega) | fail)) only [admQ, lq15, aFill, AK.cls, implies_true, if_true, if_false, seval, -List.reduceReplicate, c92, r92]
 refine (ans_r9left h).mono ?_
 rintro _ M ⟨rfl, hM⟩
 subst hM
 obtain ⟨v, h1, h2, h3, h4, hl9⟩ := h
 obtain ⟨q, o, cap, sl, cc, rfl, hrow, hat, hlen, hcap, hsl, htk⟩ := h2.cons (i := j) (by omega)
 have hw := own_set (own_lt h1) [AV.sl q o l.length cap sl, .int .i64 ((j + 8 : Nat) : Int), .bool false]
 have kX := Kept.set1 M r (.row [AV.sl q o l.length cap sl, .int .i64 ((j + 8 : Nat) : Int), .bool false] false)
 have h2' := h2.kept kX (fun b o n cap s e => by cases e; have := h3 q (by simp [blkOf]); simp; omega)
 have e8 : ((j + 8 : Nat) : Int) - 8 = (j : Int) := by omega
 have hq : l.length - j - 8 = l.length - (j + 8) := by omega
 simp -implicitDefEqProofs (disch := (first | omega | (simp only [lq15] <;> omega) | fail)) only [admQ, lq15, aFill, AK.cls, implies_true, if_true, if_false, seval, -List.reduceReplicate, dec_f (show ¬ ((l.length - j : Nat) : Int) < 8 by omega), rowOf_own h1, h1, rowOf_own hw, hw, e8, hsl]
 refine ⟨kX, ⟨_, hw, h2', h3, by omega, hl9⟩, _, rfl, ?_⟩
 have hd := h2'.drop (k := j) (by omega)
 have ht := hd.take (k := 8) (by omega)
 rwa [show j + 8 - j = 8 by omega]
theorem ans_r9rint {m : Mem} {r : Nat} {l : List B8} {j : Nat} (h : Rd9 m r l j) (hj : j + 8 ≤ l.length) : Ans Tryz.prog 72 [.ptr r 0] m fun v m' => v = .int .i64 (intB ((l.drop j).take 8)) ∧ Kept [r] m m' ∧ Rd9 m' r l (j + 8) := by
 refine ans_ret mixed ok72 ?_
 simp -implicitDefEqProofs (disch := (first | omega | (simp only [lq15] <;> omega) | fail)) only [admQ, lq15, aFill, AK.cls, implies_true, if_true, if_false, seval, -List.reduceReplicate, c72, r72]
 refine (ans_r9next h hj).mono ?_
 rintro _ m1 ⟨k1, hR, y, rfl, hy⟩
 have hl8 : ((l.drop j).take 8).length = 8 := by rw [List.length_take, List.length_drop]; omega
 generalize (l.drop j).take 8 = u at hy hl8
 simp -implicitDefEqProofs (disch := (first | omega | (simp only [lq15] <;> omega) | fail)) only [admQ, lq15, aFill, AK.cls, implies_true, if_true, if_false, seval, -List.reduceReplicate, Bool.not_true]
 refine LoopW.on (fun i : Nat => [(3, y), (5, .int .u64 (beN (u.take i) : Nat)), (6, .int .i64 i)]) (fun i => 8 - i) (fun i M => i ≤ 8 ∧ M = m1) ?_ 0 _ _ rfl ⟨by omega, rfl⟩
 rintro i M X ⟨hi, rfl⟩ hX
 by_cases hlt : i < 8
 ·obtain ⟨b, o, cap, sl, c, rfl, hrow, hat, _⟩ := hy.cons (i := i) (by omega)
  have e := hat i (by omega)
  have hb8 := (gb u i).isLt
  have hn := beN_lt (i + 1) (u.take (i + 1)) (by rw [List.length_take]; omega)
  have hs : beN (u.take (i + 1)) = beN (u.take i) * 256 + (gb u i).toNat := by rw [take_gb (by omega), beN_snoc]
  have hp : 256 ^ (i + 1) ≤ 256 ^ 8 := Nat.pow_le_pow_right (by omega) (by omega)
  have e8 : (256 : Nat) ^ 8 = 18446744073709551616 := by decide
  have f1 : IntKind.u64.wrap ((beN (u.take i) * 256 : Nat) : Int) = ((beN (u.take i) * 256 : Nat) : Int) := nw64 (by omega)
  have f2 : IntKind.u64.wrap ((gb u i).toNat : Int) = ((gb u i).toNat : Int) := nw64 (by omega)
  have f3 : IntKind.u64.wrap ((beN (u.take i) * 256 + (gb u i).toNat : Nat) : Int) = ((beN (u.take (i + 1)) : Nat) : Int) := by
   rw [hs, nw64 (by omega)]
  simp -implicitDefEqProofs (disch := (first | omega | (simp only [lq15] <;> omega) | fail)) only [admQ, lq15, aFill, AK.cls, implies_true, if_true, if_false, seval, -List.reduceReplicate, hrow, e, f1, f2, f3]
  exact hX (i + 1) _ _ rfl (by omega) ⟨by omega, rfl⟩
 ·obtain rfl : i = 8 := by omega
  have hu : u.take 8 = u := List.take_of_length_le (by omega)
  rw [hu]
  simp -implicitDefEqProofs (disch := (first | omega | (simp only [lq15] <;> omega) | fail)) only [admQ, lq15, aFill, AK.cls, implies_true, if_true, if_false, seval, -List.reduceReplicate]
  exact ⟨rfl, k1, hR⟩
end Go.Proofs.YtoegmnnecanhfaaGreatDoor
end
section
namespace Go.Proofs.YtoegmnnecanhfaaGreatDoor
open Go Go.Adm
set_option linter.unusedSimpArgs false
set_option linter.unusedVariables false
set_option maxRecDepth 100000
def RCy (m : Mem) (x : Nat) (key : List B8) : Prop := ∃ b c, rowOf m x = some [.ptr b 0, .nilp] ∧ RBox m b c key
theorem RCy.kept0 {m m' : Mem} {x : Nat} {key : List B8} (h : RCy m x key) (hk : Kept [] m m') : RCy m' x key := by
 obtain ⟨b, c, h1, h2⟩ := h
 exact ⟨b, c, hk.row h1 (by simp), h2.kept0 hk⟩
theorem ans_rcseal {m : Mem} {x : Nat} {key head b : List B8} {hx bx : AV} {e n : Int} (hC : RCy m x key) (hh : RdB m hx head) (hb : RdB m bx b) (hl : head.length ≤ 100000 ∧ b.length ≤ 100000) (hp : placedP e n) :
  Ans Tryz.prog 62 [.ptr x 0, .int .i64 e, .int .i64 n, hx, bx] m fun r m' => Kept [] m m' ∧ GrB m.length m' r (sealB key head e n b) := by
 refine ans_ret mixed ok62 ?_
 obtain ⟨y, c, h1, h2⟩ := hC
 simp -implicitDefEqProofs (disch := (first | omega | (simp only [lq15] <;> omega) | fail)) only [admQ, lq15, aFill, AK.cls, implies_true, if_true, if_false, seval, -List.reduceReplicate, c62, r62, h1]
 refine (ans_rsseal (e := e) (n := n) h2 hh hb hl).mono ?_
 rintro r m' ⟨k1, g1, -⟩
 simp -implicitDefEqProofs (disch := (first | omega | (simp only [lq15] <;> omega) | fail)) only [admQ, lq15, aFill, AK.cls, implies_true, if_true, if_false, seval, -List.reduceReplicate, h1]
 exact ⟨k1, g1 hp⟩
theorem gr_apart {m0 p : Nat} {m : Mem} {v : AV} {l : List B8} {c : List AV} (g : GrB m0 m v l) (hp : p < m0) (ho : own m p = some c) (hc : c ≠ []) : ∀ q ∈ blkOf v, q ≠ p := by
 rcases g with ⟨_, rfl | ⟨b, rfl, hb⟩⟩ | ⟨b, n, _, _, rfl, _, h⟩
 ·simp [blkOf]
 ·simp only [blkOf, List.mem_singleton]
  rintro q rfl rfl
  rw [ho] at hb
  exact hc (Option.some.inj hb)
 ·simp only [blkOf, List.mem_singleton]
  rintro q rfl; omega
theorem ans_rcopen {m : Mem} {x : Nat} {key head b : List B8} {hx bx : AV} {e n : Int} (hC : RCy m x key) (hh : RdB m hx head) (hb : RdB m bx b) (hl : head.length ≤ 100000 ∧ b.length ≤ 100000) :
  Ans Tryz.prog 73 [.ptr x 0, .int .i64 e, .int .i64 n, hx, bx] m fun r m' => Kept [] m m' ∧ ∃ v, r = .tup [v, .bool (cyOp (.box key) e n head b).isSome] ∧ GrB m.length m' v ((cyOp (.box key) e n head b).getD []) := by
 refine ans_ret mixed ok73 ?_
 obtain ⟨y, c, h1, h2⟩ := hC
 simp -implicitDefEqProofs (disch := (first | omega | (simp only [lq15] <;> omega) | fail)) only [admQ, lq15, aFill, AK.cls, implies_true, if_true, if_false, seval, -List.reduceReplicate, c73, r73, h1]
 refine (ans_rsopen (e := e) (n := n) h2 hh hb hl).mono ?_
 rintro r m' ⟨k1, g1, g2⟩
 simp only [cyOp]
 by_cases hp : openP key head e n b
 ·obtain ⟨v, rfl, g⟩ := g1 hp
  rw [if_pos hp]
  simp -implicitDefEqProofs (disch := (first | omega | (simp only [lq15] <;> omega) | fail)) only [admQ, lq15, aFill, AK.cls, implies_true, if_true, if_false, seval, -List.reduceReplicate]
  exact ⟨k1, v, rfl, g⟩
 ·obtain rfl := g2 hp
  rw [if_neg hp]
  simp -implicitDefEqProofs (disch := (first | omega | (simp only [lq15] <;> omega) | fail)) only [admQ, lq15, aFill, AK.cls, implies_true, if_true, if_false, seval, -List.reduceReplicate]
  exact ⟨k1, .nils, rfl, .nils ..⟩
theorem ans_r11kind (k : Int) (m : Mem) : Ans Tryz.prog 59 [.int .i64 k] m fun r m' => r = .bool (decide (1 ≤ k ∧ k ≤ 5)) ∧ m' = m := by
 refine ans_ret mixed ok59 ?_
 by_cases h1 : k ≥ 1
 ·by_cases h2 : k ≤ 5
  ·simp -implicitDefEqProofs (disch := (first | omega | (simp only [lq15] <;> omega) | fail)) only [admQ, lq15, aFill, AK.cls, implies_true, if_true, if_false, seval, -List.reduceReplicate, c59, r59, dec_t h1, dec_t h2, dec_t (show 1 ≤ k ∧ k ≤ 5 from ⟨h1, h2⟩)]
  ·simp -implicitDefEqProofs (disch := (first | omega | (simp only [lq15] <;> omega) | fail)) only [admQ, lq15, aFill, AK.cls, implies_true, if_true, if_false, seval, -List.reduceReplicate, c59, r59, dec_t h1, dec_f h2, dec_f (show ¬ (1 ≤ k ∧ k ≤ 5) from fun h => h2 h.2)]
 ·simp -implicitDefEqProofs (disch := (first | omega | (simp only [lq15] <;> omega) | fail)) only [admQ, lq15, aFill, AK.cls, implies_true, if_true, if_false, seval, -List.reduceReplicate, c59, r59, dec_f h1, dec_f (show ¬ (1 ≤ k ∧ k ≤ 5) from fun h => h1 h.1)]
theorem ans_r11number (k : Int) (m : Mem) : Ans Tryz.prog 60 [.int .i64 k] m fun r m' => r = .bool (decide (0 ≤ k ∧ k ≤ 1099511627776)) ∧ m' = m := by
 refine ans_ret mixed ok60 ?_
 by_cases h1 : k ≥ 0
 ·by_cases h2 : k ≤ 1099511627776
  ·simp -implicitDefEqProofs (disch := (first | omega | (simp only [lq15] <;> omega) | fail)) only [admQ, lq15, aFill, AK.cls, implies_true, if_true, if_false, seval, -List.reduceReplicate, c60, r60, dec_t h1, dec_t h2, dec_t (show 0 ≤ k ∧ k ≤ 1099511627776 from ⟨h1, h2⟩)]
  ·simp -implicitDefEqProofs (disch := (first | omega | (simp only [lq15] <;> omega) | fail)) only [admQ, lq15, aFill, AK.cls, implies_true, if_true, if_false, seval, -List.reduceReplicate, c60, r60, dec_t h1, dec_f h2, dec_f (show ¬ (0 ≤ k ∧ k ≤ 1099511627776) from fun h => h2 h.2)]
 ·simp -implicitDefEqProofs (disch := (first | omega | (simp only [lq15] <;> omega) | fail)) only [admQ, lq15, aFill, AK.cls, implies_true, if_true, if_false, seval, -List.reduceReplicate, c60, r60, dec_f h1, dec_f (show ¬ (0 ≤ k ∧ k ≤ 1099511627776) from fun h => h1 h.1)]
theorem ans_r11place (k : Int) (m : Mem) : Ans Tryz.prog 61 [.int .i64 k] m fun r m' => r = .bool (decide (0 ≤ k ∧ k < 4096)) ∧ m' = m := by
 refine ans_ret mixed ok61 ?_
 by_cases h1 : k ≥ 0
 ·by_cases h2 : k < 4096
  ·simp -implicitDefEqProofs (disch := (first | omega | (simp only [lq15] <;> omega) | fail)) only [admQ, lq15, aFill, AK.cls, implies_true, if_true, if_false, seval, -List.reduceReplicate, c61, r61, dec_t h1, dec_t h2, dec_t (show 0 ≤ k ∧ k < 4096 from ⟨h1, h2⟩)]
  ·simp -implicitDefEqProofs (disch := (first | omega | (simp only [lq15] <;> omega) | fail)) only [admQ, lq15, aFill, AK.cls, implies_true, if_true, if_false, seval, -List.reduceReplicate, c61, r61, dec_t h1, dec_f h2, dec_f (show ¬ (0 ≤ k ∧ k < 4096) from fun h => h2 h.2)]
 ·simp -implicitDefEqProofs (disch := (first | omega | (simp only [lq15] <;> omega) | fail)) only [admQ, lq15, aFill, AK.cls, implies_true, if_true, if_false, seval, -List.reduceReplicate, c61, r61, dec_f h1, dec_f (show ¬ (0 ≤ k ∧ k < 4096) from fun h => h1 h.1)]
theorem ans_r11head (k : Int) (a : Nat) (ha : a < 4611686018427387904) (m : Mem) : Ans Tryz.prog 63 [.int .i64 k, .int .i64 a] m fun r m' => Kept [] m m' ∧ GrB m.length m' r (headB k a) := by
 refine ans_ret mixed ok63 ?_
 have hw : IntKind.u8.wrap k = ((kB k).toNat : Int) := wr_u8 k
 simp -implicitDefEqProofs (disch := (first | omega | (simp only [lq15] <;> omega) | fail)) only [admQ, lq15, aFill, AK.cls, implies_true, if_true, if_false, seval, -List.reduceReplicate, c63, r63, hw]
 have hr := RdB.row (m := m ++ [Blk.row [b8 (kB k)] false]) (l := [kB k]) 1 0 (rowOf_app_at0 m _) (by simp)
 refine (ans_r9int a ha hr (by simp)).mono ?_
 rintro r m' ⟨h1, g⟩
 simp -implicitDefEqProofs (disch := (first | omega | (simp only [lq15] <;> omega) | fail)) only [admQ, lq15, aFill, AK.cls, implies_true, if_true, if_false, seval, -List.reduceReplicate]
 exact ⟨(Kept.app [] m _).trans h1, g.low (by simp)⟩
theorem ans_r11put {m : Mem} {x : Nat} {key : List B8} {s : Sec} {v : AV} (hC : RCy m x key) (hv : RdB m v s.p) (hl : s.p.length ≤ 100000) :
  Ans Tryz.prog 31 [.ptr x 0, secV s v] m fun r m' => Kept [] m m' ∧ ∃ w, r = .tup [w, .int .i64 (errP s)] ∧ RdB m' w (putL (.box key) s) := by
 refine ans_ret mixed ok31 ?_
 unfold secV
 have hno : ∀ (m' : Mem) (er : Int), ¬ okP s → errP s = er → Kept [] m m' → Kept [] m m' ∧ ∃ w, AV.tup [.nils, .int .i64 er] = .tup [w, .int .i64 (errP s)] ∧ RdB m' w (putL (.box key) s) := fun m' er hn he hk =>
  ⟨hk, .nils, by rw [he], by rw [putL, if_neg hn]; exact .nils _⟩
 simp -implicitDefEqProofs (disch := (first | omega | (simp only [lq15] <;> omega) | fail)) only [admQ, lq15, aFill, AK.cls, implies_true, if_true, if_false, seval, -List.reduceReplicate, c31, r31, (rd_one hv).1, (rd_one hv).2]
 have k0 := Kept.app [] m [Blk.row [.int .i64 s.k, .int .i64 s.e, .int .i64 s.n, .int .i64 s.a, v] false]
 have o0 : own (m ++ [Blk.row [.int .i64 s.k, .int .i64 s.e, .int .i64 s.n, .int .i64 s.a, v] false]) m.length = some [.int .i64 s.k, .int .i64 s.e, .int .i64 s.n, .int .i64 s.a, v] := by rw [own_app_at0]; rfl
 generalize m ++ [Blk.row [.int .i64 s.k, .int .i64 s.e, .int .i64 s.n, .int .i64 s.a, v] false] = A at k0 o0
 refine (ans_r11kind s.k A).mono ?_
 rintro _ M ⟨rfl, hM⟩
 subst hM
 by_cases h1 : 1 ≤ s.k ∧ s.k ≤ 5
 ·simp -implicitDefEqProofs (disch := (first | omega | (simp only [lq15] <;> omega) | fail)) only [admQ, lq15, aFill, AK.cls, implies_true, if_true, if_false, seval, -List.reduceReplicate, dec_t h1, Bool.not_true, rowOf_own o0]
  refine (ans_r11number s.e M).mono ?_
  rintro _ M2 ⟨rfl, hM⟩
  subst hM
  by_cases h2 : 0 ≤ s.e ∧ s.e ≤ 1099511627776
  ·simp -implicitDefEqProofs (disch := (first | omega | (simp only [lq15] <;> omega) | fail)) only [admQ, lq15, aFill, AK.cls, implies_true, if_true, if_false, seval, -List.reduceReplicate, dec_t h2, Bool.not_true, rowOf_own o0]
   refine (ans_r11number s.n M2).mono ?_
   rintro _ M3 ⟨rfl, hM⟩
   subst hM
   by_cases h3 : 0 ≤ s.n ∧ s.n ≤ 1099511627776
   ·simp -implicitDefEqProofs (disch := (first | omega | (simp only [lq15] <;> omega) | fail)) only [admQ, lq15, aFill, AK.cls, implies_true, if_true, if_false, seval, -List.reduceReplicate, dec_t h3, Bool.not_true, rowOf_own o0]
    refine (ans_r11place s.a M3).mono ?_
    rintro _ M4 ⟨rfl, hM⟩
    subst hM
    by_cases h4 : 0 ≤ s.a ∧ s.a < 4096
    ·have hr : rightP s.e s.n s.a := ⟨⟨h2.1, h3.1, h4.1⟩, ⟨h2.2, h3.2⟩, h4.2⟩
     by_cases h5 : (s.p.length : Int) > 975
     ·have he : errP s = 3 := by rw [errP, if_neg (by omega), if_neg (by simpa using hr), if_pos (by omega)]
      simp -implicitDefEqProofs (disch := (first | omega | (simp only [lq15] <;> omega) | fail)) only [admQ, lq15, aFill, AK.cls, implies_true, if_true, if_false, seval, -List.reduceReplicate, dec_t h4, Bool.not_true, rowOf_own o0, (hv.kept0 k0).len, dec_t h5]
      exact hno _ _ (fun h => by have := h.2.2; omega) he k0
     ·have hok : okP s := ⟨h1, hr, by omega⟩
      have he := (errP_ok s).mpr hok
      clear hno
      obtain ⟨k, e, n, a, p⟩ := s
      simp only at *
      obtain ⟨e, rfl⟩ : ∃ e' : Nat, e = e' := ⟨e.toNat, by omega⟩
      obtain ⟨n, rfl⟩ : ∃ n' : Nat, n = n' := ⟨n.toNat, by omega⟩
      obtain ⟨a, rfl⟩ : ∃ a' : Nat, a = a' := ⟨a.toNat, by omega⟩
      have hw : IntKind.u8.wrap k = ((kB k).toNat : Int) := wr_u8 k
      simp -implicitDefEqProofs (disch := (first | omega | (simp only [lq15] <;> omega) | fail)) only [admQ, lq15, aFill, AK.cls, implies_true, if_true, if_false, seval, -List.reduceReplicate, dec_t h4, Bool.not_true, rowOf_own o0, (hv.kept0 k0).len, dec_f h5, hw]
      have k1 := Kept.app [] M4 [Blk.row [b8 (kB k)] false]
      have r1 := RdB.row (m := M4 ++ [Blk.row [b8 (kB k)] false]) (l := [kB k]) 1 0 (rowOf_app_at0 M4 _) (by simp)
      have e1 : own (M4 ++ [Blk.row [b8 (kB k)] false]) M4.length = some [b8 (kB k)] := by rw [own_app_at0]; rfl
      generalize M4 ++ [Blk.row [b8 (kB k)] false] = B at *
      have o1 := k1.own o0 (by simp)
      simp -implicitDefEqProofs (disch := (first | omega | (simp only [lq15] <;> omega) | fail)) only [admQ, lq15, aFill, AK.cls, implies_true, if_true, if_false, seval, -List.reduceReplicate, rowOf_own o1]
      refine (ans_r9int e (by omega) r1 (by simp)).mono ?_
      rintro y1 m1 ⟨k2, g2⟩
      have o2 := k2.own o1 (by simp)
      have e2 := k2.own e1 (by simp)
      simp -implicitDefEqProofs (disch := (first | omega | (simp only [lq15] <;> omega) | fail)) only [admQ, lq15, aFill, AK.cls, implies_true, if_true, if_false, seval, -List.reduceReplicate, rowOf_own o2, rowOf_own o1, own_some e2]
      refine (ans_r9int n (by omega) g2.rd (by simp [numB_len])).mono ?_
      rintro y2 m2 ⟨k3, g3⟩
      have o3 := k3.own o2 (by simp)
      have e3 := k3.own e2 (by simp)
      simp -implicitDefEqProofs (disch := (first | omega | (simp only [lq15] <;> omega) | fail)) only [admQ, lq15, aFill, AK.cls, implies_true, if_true, if_false, seval, -List.reduceReplicate, rowOf_own o3, rowOf_own o2, rowOf_own o1, own_some e3]
      refine (ans_r11head k a (by omega) m2).mono ?_
      rintro y3 m3 ⟨k4, g4⟩
      have o4 := k4.own o3 (by simp)
      have K4 := ((k0.trans k1).trans k2).trans (k3.trans k4)
      simp -implicitDefEqProofs (disch := (first | omega | (simp only [lq15] <;> omega) | fail)) only [admQ, lq15, aFill, AK.cls, implies_true, if_true, if_false, seval, -List.reduceReplicate, rowOf_own o4, rowOf_own o3, rowOf_own o2]
      refine (ans_rcseal (e := e) (n := n) (hC.kept0 K4) g4.rd (hv.kept0 K4) ⟨by rw [headB_len]; omega, hl⟩ ⟨h2, h3⟩).mono ?_
      rintro z m4 ⟨kS, gz⟩
      have o5 := kS.own o4 (by simp)
      have hzl := sealB_len key (headB k a) e n p
      have g3' := (g3.kept0 k4).kept0 kS
      have hB : m2.length ≤ m4.length := Nat.le_trans k4.len kS.len
      obtain ⟨w, m5, e5, g5, k5, a5⟩ := g3'.pushs gz.rd (by simp [numB_len, hzl]; omega) (Nat.le_trans k3.len hB)
      simp -implicitDefEqProofs (disch := (first | omega | (simp only [lq15] <;> omega) | fail)) only [admQ, lq15, aFill, AK.cls, implies_true, if_true, if_false, seval, -List.reduceReplicate, rowOf_own o5, rowOf_own o4, rowOf_own o3, rowOf_own o2]
      refine someW_eq e5 ?_
      have hAm := (k1.trans k2).len
      have KA : Kept [] M4 m5 := a5 _ _ ((k1.trans k2).trans ((k3.trans k4).trans kS)) hAm
      have o6 := KA.own o0 (by simp)
      simp -implicitDefEqProofs (disch := (first | omega | (simp only [lq15] <;> omega) | fail)) only [admQ, lq15, aFill, AK.cls, implies_true, if_true, if_false, seval, -List.reduceReplicate, rowOf_own o6, rowOf_own o5, rowOf_own o4, rowOf_own o3, rowOf_own o2]
      refine ⟨k0.trans KA, w, by rw [he], ?_⟩
      have hsd : secD ⟨k, e, n, a, p⟩ = ((e : Int), (n : Int), headB k a, p) := by simp [secD]
      rw [putL, if_pos hok, putB, hsd]
      simp only [cySl, if_pos (show mayP ((e : Int), (n : Int), headB k a, p) from ⟨h2, h3⟩), Int.toNat_natCast]
      simpa using g5.rd
    ·have he : errP s = 7 := by rw [errP, if_neg (by omega), if_pos (fun h => h4 ⟨h.1.2.2, h.2.2⟩)]
     simp -implicitDefEqProofs (disch := (first | omega | (simp only [lq15] <;> omega) | fail)) only [admQ, lq15, aFill, AK.cls, implies_true, if_true, if_false, seval, -List.reduceReplicate, dec_f h4, Bool.not_false]
     exact hno _ _ (fun h => h4 ⟨h.2.1.1.2.2, h.2.1.2.2⟩) he k0
   ·have he : errP s = 7 := by rw [errP, if_neg (by omega), if_pos (fun h => h3 ⟨h.1.2.1, h.2.1.2⟩)]
    simp -implicitDefEqProofs (disch := (first | omega | (simp only [lq15] <;> omega) | fail)) only [admQ, lq15, aFill, AK.cls, implies_true, if_true, if_false, seval, -List.reduceReplicate, dec_f h3, Bool.not_false]
    exact hno _ _ (fun h => h3 ⟨h.2.1.1.2.1, h.2.1.2.1.2⟩) he k0
  ·have he : errP s = 7 := by rw [errP, if_neg (by omega), if_pos (fun h => h2 ⟨h.1.1, h.2.1.1⟩)]
   simp -implicitDefEqProofs (disch := (first | omega | (simp only [lq15] <;> omega) | fail)) only [admQ, lq15, aFill, AK.cls, implies_true, if_true, if_false, seval, -List.reduceReplicate, dec_f h2, Bool.not_false]
   exact hno _ _ (fun h => h2 ⟨h.2.1.1.1, h.2.1.2.1.1⟩) he k0
 ·have he : errP s = 5 := by rw [errP, if_pos (by omega)]
  simp -implicitDefEqProofs (disch := (first | omega | (simp only [lq15] <;> omega) | fail)) only [admQ, lq15, aFill, AK.cls, implies_true, if_true, if_false, seval, -List.reduceReplicate, dec_f h1, Bool.not_false]
  exact hno _ _ (fun h => h1 h.1) he k0
end Go.Proofs.YtoegmnnecanhfaaGreatDoor
end
section
namespace Go.Proofs.YtoegmnnecanhfaaGreatDoor
open Go Go.Adm
set_option linter.unusedSimpArgs false
set_option linter.unusedVariables false
set_option maxRecDepth 100000
theorem ans_r11get {m : Mem} {x : Nat} {key : List B8} {k a : Int} {y : AV} {b : List B8} (hC : RCy m x key) (hy : RdB m y b) (hl : b.length ≤ 100000) :
  Ans Tryz.prog 37 [.ptr x 0, .int .i64 k, .int .i64 a, y] m fun r m' => Kept [] m m' ∧ ∃ w, r = .tup [secV (getS (.box key) k a b) w, .int .i64 (getE (.box key) k a b)] ∧ GrB m.length m' w (getS (.box key) k a b).p := by
 refine ans_ret mixed ok37 ?_
 have hno : ∀ (m' : Mem) (er : Int), er ≠ 0 → getE (.box key) k a b = er → Kept [] m m' → Kept [] m m' ∧ ∃ w, AV.tup [.agg [.int .i64 0, .int .i64 0, .int .i64 0, .int .i64 0, .nils], .int .i64 er] = .tup [secV (getS (.box key) k a b) w, .int .i64 (getE (.box key) k a b)] ∧ GrB m.length m' w (getS (.box key) k a b).p := fun m' er h0 he hk => by
  rw [he]
  have hs : getS (.box key) k a b = sec0 := by rw [getS, he, if_neg h0]
  rw [hs]
  exact ⟨hk, .nils, rfl, .nils ..⟩
 have k0 := Kept.app [] m [Blk.row [.int .i64 0, .int .i64 0, .int .i64 0, .int .i64 0, .nils] false]
 have o0 : own (m ++ [Blk.row [.int .i64 0, .int .i64 0, .int .i64 0, .int .i64 0, .nils] false]) m.length = some [.int .i64 0, .int .i64 0, .int .i64 0, .int .i64 0, .nils] := by rw [own_app_at0]; rfl
 by_cases h1 : b.length < 17
 ·have he : getE (.box key) k a b = 2 := by rw [getE, if_pos h1]
  simp -implicitDefEqProofs (disch := (first | omega | (simp only [lq15] <;> omega) | fail)) only [admQ, lq15, aFill, AK.cls, implies_true, if_true, if_false, seval, -List.reduceReplicate, c37, r37, hy.len, dec_t (show (b.length : Int) < 17 by omega)]
  exact hno _ _ (by omega) he (.app _ _ _)
 by_cases h2 : b.length > 1024
 ·have he : getE (.box key) k a b = 3 := by rw [getE, if_neg h1, if_pos h2]
  simp -implicitDefEqProofs (disch := (first | omega | (simp only [lq15] <;> omega) | fail)) only [admQ, lq15, aFill, AK.cls, implies_true, if_true, if_false, seval, -List.reduceReplicate, c37, r37, hy.len, dec_f (show ¬ (b.length : Int) < 17 by omega), dec_t (show (b.length : Int) > 1024 by omega)]
  exact hno _ _ (by omega) he (.app _ _ _)
 obtain ⟨q, o, cap, sl, cc, rfl, hrow, hat, hlen, hcap, hsl, htk⟩ := hy.cons (i := 0) (by omega)
 have hbl := (gb b 0).isLt
 have e0 := hat 0 (by omega)
 simp only [Nat.add_zero] at e0
 have w0 := wrap_i64 (show (-9223372036854775808 : Int) ≤ ((gb b 0).toNat : Int) by omega) (show ((gb b 0).toNat : Int) < 9223372036854775808 by omega)
 simp -implicitDefEqProofs (disch := (first | omega | (simp only [lq15] <;> omega) | fail)) only [admQ, lq15, aFill, AK.cls, implies_true, if_true, if_false, seval, -List.reduceReplicate, c37, r37, hy.len, dec_f (show ¬ (b.length : Int) < 17 by omega), dec_f (show ¬ (b.length : Int) > 1024 by omega)]
 generalize m ++ [Blk.row [.int .i64 0, .int .i64 0, .int .i64 0, .int .i64 0, .nils] false] = A at k0 o0
 have hyA := hy.kept0 k0
 have hrA := k0.row hrow (by simp)
 refine (ans_r11kind k A).mono ?_
 rintro _ M ⟨rfl, hM⟩
 subst hM
 by_cases h3 : 1 ≤ k ∧ k ≤ 5
 ·by_cases h4 : ((gb b 0).toNat : Int) = k
  ·have hkb : kindB b = k := by rw [kindB, if_neg (by omega), h4]
   have hsub : RdB M (.sl q (o + 1) 16 (cap - 1) sl) ((b.drop 1).take 16) := by
    have hd := hyA.drop (k := 1) (by omega)
    exact hd.take (k := 16) (by omega)
   have hl16 : ((b.drop 1).take 16).length = 16 := by rw [List.length_take, List.length_drop]; omega
   have hkk : (((gb b 0).toNat : Int) == k) = true := beq_iff_eq.mpr h4
   simp -implicitDefEqProofs (disch := (first | omega | (simp only [lq15] <;> omega) | fail)) only [admQ, lq15, aFill, AK.cls, implies_true, if_true, if_false, seval, -List.reduceReplicate, dec_t h3, Bool.not_true, hrA, e0, w0, hkk, hsl]
   refine (ans_r9read hsub (by omega)).mono ?_
   rintro _ m1 ⟨k1, p, rfl, hp, hR1⟩
   simp -implicitDefEqProofs (disch := (first | omega | (simp only [lq15] <;> omega) | fail)) only [admQ, lq15, aFill, AK.cls, implies_true, if_true, if_false, seval, -List.reduceReplicate]
   refine (ans_r9rint hR1 (by omega)).mono ?_
   rintro _ m2 ⟨rfl, k2, hR2⟩
   simp -implicitDefEqProofs (disch := (first | omega | (simp only [lq15] <;> omega) | fail)) only [admQ, lq15, aFill, AK.cls, implies_true, if_true, if_false, seval, -List.reduceReplicate]
   refine (ans_r9rint hR2 (by omega)).mono ?_
   rintro _ m3 ⟨rfl, k3, -⟩
   have e1 : (((b.drop 1).take 16).drop 0).take 8 = (b.drop 1).take 8 := by rw [List.drop_zero, List.take_take]; rfl
   have e2 : (((b.drop 1).take 16).drop (0 + 8)).take 8 = (b.drop 9).take 8 := by rw [List.drop_take, List.take_take, List.drop_drop]; rfl
   have hE : intB (((b.drop 1).take 16).take 8) = nE b := by rw [List.drop_zero] at e1; rw [e1]; rfl
   have hNn : intB ((((b.drop 1).take 16).drop (0 + 8)).take 8) = nN b := by rw [e2]; rfl
   have K3 : Kept [] M m3 := (k1.upon k2 (by simpa using hp)).upon k3 (by simpa using hp)
   have o3 := K3.own o0 (by simp)
   have KB := k0.trans K3
   rw [hE, hNn]
   simp -implicitDefEqProofs (disch := (first | omega | (simp only [lq15] <;> omega) | fail)) only [admQ, lq15, aFill, AK.cls, implies_true, if_true, if_false, seval, -List.reduceReplicate]
   refine (ans_r11number (nE b) m3).mono ?_
   rintro _ M3 ⟨rfl, hM⟩
   subst hM
   have er7 : ¬ rightP (nE b) (nN b) a → getE (.box key) k a b = 7 := fun h => by rw [getE, if_neg h1, if_neg h2, if_neg (by rintro (h | h); omega; exact h hkb), if_pos h]
   by_cases h5 : 0 ≤ nE b ∧ nE b ≤ 1099511627776
   ·simp -implicitDefEqProofs (disch := (first | omega | (simp only [lq15] <;> omega) | fail)) only [admQ, lq15, aFill, AK.cls, implies_true, if_true, if_false, seval, -List.reduceReplicate, dec_t h5, Bool.not_true]
    refine (ans_r11number (nN b) M3).mono ?_
    rintro _ M4 ⟨rfl, hM⟩
    subst hM
    by_cases h6 : 0 ≤ nN b ∧ nN b ≤ 1099511627776
    ·simp -implicitDefEqProofs (disch := (first | omega | (simp only [lq15] <;> omega) | fail)) only [admQ, lq15, aFill, AK.cls, implies_true, if_true, if_false, seval, -List.reduceReplicate, dec_t h6, Bool.not_true]
     refine (ans_r11place a M4).mono ?_
     rintro _ M5 ⟨rfl, hM⟩
     subst hM
     by_cases h7 : 0 ≤ a ∧ a < 4096
     ·simp -implicitDefEqProofs (disch := (first | omega | (simp only [lq15] <;> omega) | fail)) only [admQ, lq15, aFill, AK.cls, implies_true, if_true, if_false, seval, -List.reduceReplicate, dec_t h7, Bool.not_true]
      obtain ⟨a, rfl⟩ : ∃ a' : Nat, a = a' := ⟨a.toNat, by omega⟩
      refine (ans_r11head k a (by omega) M5).mono ?_
      rintro y1 m5 ⟨k5, g5⟩
      have hr : rightP (nE b) (nN b) a := ⟨⟨h5.1, h6.1, h7.1⟩, ⟨h5.2, h6.2⟩, h7.2⟩
      have K5 := KB.trans k5
      have hy5 := hy.kept0 K5
      have hdr := hy5.drop (k := 17) (by omega)
      simp -implicitDefEqProofs (disch := (first | omega | (simp only [lq15] <;> omega) | fail)) only [admQ, lq15, aFill, AK.cls, implies_true, if_true, if_false, seval, -List.reduceReplicate, hsl]
      refine (ans_rcopen (e := nE b) (n := nN b) (hC.kept0 K5) g5.rd hdr ⟨by rw [headB_len]; omega, by rw [List.length_drop]; omega⟩).mono ?_
      rintro _ m6 ⟨k6, w, rfl, gw6⟩
      have rw6 := gw6.rd
      have K6 := K5.trans k6
      have o6 := (k5.trans k6).own o3 (by simp)
      cases hop : cyOp (.box key) (nE b) (nN b) (headB k a) (b.drop 17) with
      | none =>
       have he : getE (.box key) k a b = 19 := by rw [getE, if_neg h1, if_neg h2, if_neg (by rintro (h | h); omega; exact h hkb), if_neg (by simpa using hr), Int.toNat_natCast, hop]
       simp -implicitDefEqProofs (disch := (first | omega | (simp only [lq15] <;> omega) | fail)) only [admQ, lq15, aFill, AK.cls, implies_true, if_true, if_false, seval, -List.reduceReplicate, Option.isSome_none, Bool.not_false, o6, own_set (own_lt o6), rowOf_own (own_set (own_lt o6) _)]
       exact hno _ _ (by omega) he (K6.write (.inr (Nat.le_refl _)) _)
      | some pl =>
       have he : getE (.box key) k a b = 0 := by rw [getE, if_neg h1, if_neg h2, if_neg (by rintro (h | h); omega; exact h hkb), if_neg (by simpa using hr), Int.toNat_natCast, hop]
       have hs : getS (.box key) k a b = ⟨k, nE b, nN b, a, pl⟩ := by rw [getS, if_pos he, Int.toNat_natCast, hop]; rfl
       rw [hop] at rw6 gw6
       simp -implicitDefEqProofs (disch := (first | omega | (simp only [lq15] <;> omega) | fail)) only [admQ, lq15, aFill, AK.cls, implies_true, if_true, if_false, seval, -List.reduceReplicate, Option.isSome_some, Bool.not_true, (rd_one rw6).1, (rd_one rw6).2, o6, own_set (own_lt o6), rowOf_own (own_set (own_lt o6) _)]
       refine ⟨K6.write (.inr (Nat.le_refl _)) _, w, by rw [hs, he]; rfl, ?_⟩
       rw [hs]
       exact (gw6.low K5.len).kept (X := [m.length]) (.set1 _ _ _) fun q hq => by
        have := gr_apart gw6 (own_lt (k5.own o3 (by simp))) o6 (by simp) q hq
        simpa using this
     ·simp -implicitDefEqProofs (disch := (first | omega | (simp only [lq15] <;> omega) | fail)) only [admQ, lq15, aFill, AK.cls, implies_true, if_true, if_false, seval, -List.reduceReplicate, dec_f h7, Bool.not_false, o3, own_set (own_lt o3), rowOf_own (own_set (own_lt o3) _)]
      exact hno _ _ (by omega) (er7 fun h => h7 ⟨h.1.2.2, h.2.2⟩) (KB.write (.inr (Nat.le_refl _)) _)
    ·simp -implicitDefEqProofs (disch := (first | omega | (simp only [lq15] <;> omega) | fail)) only [admQ, lq15, aFill, AK.cls, implies_true, if_true, if_false, seval, -List.reduceReplicate, dec_f h6, Bool.not_false, o3, own_set (own_lt o3), rowOf_own (own_set (own_lt o3) _)]
     exact hno _ _ (by omega) (er7 fun h => h6 ⟨h.1.2.1, h.2.1.2⟩) (KB.write (.inr (Nat.le_refl _)) _)
   ·simp -implicitDefEqProofs (disch := (first | omega | (simp only [lq15] <;> omega) | fail)) only [admQ, lq15, aFill, AK.cls, implies_true, if_true, if_false, seval, -List.reduceReplicate, dec_f h5, Bool.not_false, o3, own_set (own_lt o3), rowOf_own (own_set (own_lt o3) _)]
    exact hno _ _ (by omega) (er7 fun h => h5 ⟨h.1.1, h.2.1.1⟩) (KB.write (.inr (Nat.le_refl _)) _)
  ·have hkk : (((gb b 0).toNat : Int) == k) = false := beq_eq_false_iff_ne.mpr h4
   have he : getE (.box key) k a b = 5 := by
    rw [getE, if_neg h1, if_neg h2, if_pos (.inr (by unfold kindB; split <;> omega))]
   simp -implicitDefEqProofs (disch := (first | omega | (simp only [lq15] <;> omega) | fail)) only [admQ, lq15, aFill, AK.cls, implies_true, if_true, if_false, seval, -List.reduceReplicate, dec_t h3, Bool.not_true, hrA, e0, w0, hkk, Bool.not_false, o0, own_set (own_lt o0), rowOf_own (own_set (own_lt o0) _)]
   exact hno _ _ (by omega) he (k0.write (.inr (Nat.le_refl _)) _)
 ·have he : getE (.box key) k a b = 5 := by
   rw [getE, if_neg h1, if_neg h2]
   by_cases hk0 : k = 0
   ·rw [if_pos (.inl hk0)]
   ·rw [if_pos (.inr (by unfold kindB; split <;> omega))]
  simp -implicitDefEqProofs (disch := (first | omega | (simp only [lq15] <;> omega) | fail)) only [admQ, lq15, aFill, AK.cls, implies_true, if_true, if_false, seval, -List.reduceReplicate, dec_f h3, Bool.not_false, o0, own_set (own_lt o0), rowOf_own (own_set (own_lt o0) _)]
  exact hno _ _ (by omega) he (k0.write (.inr (Nat.le_refl _)) _)
end Go.Proofs.YtoegmnnecanhfaaGreatDoor
end
section
namespace Go.Proofs.YtoegmnnecanhfaaGreatDoor
open Go Go.Adm
set_option linter.unusedSimpArgs false
set_option linter.unusedVariables false
set_option maxRecDepth 100000
theorem need_le {n b k : Nat} (hn : 2 ≤ n) : k * (n - 1) < 4 * b ↔ k < needG n b := by
 unfold needG
 rw [Nat.lt_div_iff_mul_lt (by omega)]
 constructor <;> intro h <;> omega
theorem ans_r10needs (s n b : Nat) (hn : 2 ≤ n ∧ n ≤ 1000) (hb : b ≤ 1000) (m : Mem) : Ans Tryz.prog 103 [geoV ⟨s, n, b⟩, .int .i64 b] m fun r m' => r = .int .i64 (needG n b : Nat) ∧ Kept [] m m' := by
 refine ans_ret mixed ok103 ?_
 unfold geoV geoC
 have k0 := Kept.app [] m [.row [.int .i64 s, .int .i64 n, .int .i64 b] false]
 have o0 : own (m ++ [.row [.int .i64 s, .int .i64 n, .int .i64 b] false]) m.length = some [.int .i64 s, .int .i64 n, .int .i64 b] := by rw [own_app_at0]; rfl
 have hq : needG n b ≤ b * 4 + n - 2 := Nat.div_le_self _ _
 simp -implicitDefEqProofs (disch := (first | omega | (simp only [lq15] <;> omega) | fail)) only [admQ, lq15, aFill, AK.cls, implies_true, if_true, if_false, seval, -List.reduceReplicate, c103, r103]
 generalize m ++ [.row [.int .i64 s, .int .i64 n, .int .i64 b] false] = A at *
 refine LoopW.on (fun k : Nat => [(1, .int .i64 b), (2, .ptr m.length 0), (5, .int .i64 k)]) (fun k => needG n b - k) (fun k M => k ≤ needG n b ∧ M = A) ?_ 0 _ _ rfl ⟨Nat.zero_le _, rfl⟩
 rintro k M X ⟨hk, rfl⟩ hX
 have hmul : k * (n - 1) ≤ 10000 * 1000 := Nat.mul_le_mul (by omega) (by omega)
 by_cases hlt : k < needG n b
 ·have h1 := (need_le (n := n) (b := b) (k := k) hn.1).mpr hlt
  simp -implicitDefEqProofs (disch := (first | omega | (simp only [lq15] <;> omega) | fail)) only [admQ, lq15, aFill, AK.cls, implies_true, if_true, if_false, seval, -List.reduceReplicate, rowOf_own o0, dec_t (show ((k * (n - 1) : Nat) : Int) < ((4 * b : Nat) : Int) by omega)]
  exact hX (k + 1) _ _ rfl (by omega) ⟨by omega, rfl⟩
 ·obtain rfl : k = needG n b := by omega
  have h1 : ¬ needG n b * (n - 1) < 4 * b := fun h => hlt ((need_le hn.1).mp h)
  simp -implicitDefEqProofs (disch := (first | omega | (simp only [lq15] <;> omega) | fail)) only [admQ, lq15, aFill, AK.cls, implies_true, if_true, if_false, seval, -List.reduceReplicate, rowOf_own o0, dec_f (show ¬ ((needG n b * (n - 1) : Nat) : Int) < ((4 * b : Nat) : Int) by omega)]
  exact k0
theorem ans_r10right (g : Geo) (m : Mem) : Ans Tryz.prog 85 [geoV g] m fun r m' => r = .bool (decide (okG g)) ∧ Kept [] m m' := by
 refine ans_ret mixed ok85 ?_
 unfold geoV geoC
 have k0 := Kept.app [] m [.row [.int .i64 g.s, .int .i64 g.n, .int .i64 g.b] false]
 have o0 : own (m ++ [.row [.int .i64 g.s, .int .i64 g.n, .int .i64 g.b] false]) m.length = some [.int .i64 g.s, .int .i64 g.n, .int .i64 g.b] := by rw [own_app_at0]; rfl
 by_cases h1 : g.s < 16
 ·simp -implicitDefEqProofs (disch := (first | omega | (simp only [lq15] <;> omega) | fail)) only [admQ, lq15, aFill, AK.cls, implies_true, if_true, if_false, seval, -List.reduceReplicate, c85, r85, dec_t h1, dec_f (show ¬ okG g from fun h => by have := h.1.1.1; omega)]
  exact k0
 by_cases h2 : g.s > 32
 ·simp -implicitDefEqProofs (disch := (first | omega | (simp only [lq15] <;> omega) | fail)) only [admQ, lq15, aFill, AK.cls, implies_true, if_true, if_false, seval, -List.reduceReplicate, c85, r85, dec_f h1, dec_t h2, dec_f (show ¬ okG g from fun h => by have := h.1.1.2; omega)]
  exact k0
 by_cases h3 : g.n < 32
 ·simp -implicitDefEqProofs (disch := (first | omega | (simp only [lq15] <;> omega) | fail)) only [admQ, lq15, aFill, AK.cls, implies_true, if_true, if_false, seval, -List.reduceReplicate, c85, r85, dec_f h1, dec_f h2, dec_t h3, dec_f (show ¬ okG g from fun h => by have := h.1.2.1.1; omega)]
  exact k0
 by_cases h4 : g.n > 64
 ·simp -implicitDefEqProofs (disch := (first | omega | (simp only [lq15] <;> omega) | fail)) only [admQ, lq15, aFill, AK.cls, implies_true, if_true, if_false, seval, -List.reduceReplicate, c85, r85, dec_f h1, dec_f h2, dec_f h3, dec_t h4, dec_f (show ¬ okG g from fun h => by have := h.1.2.1.2; omega)]
  exact k0
 by_cases h5 : g.b < 1
 ·simp -implicitDefEqProofs (disch := (first | omega | (simp only [lq15] <;> omega) | fail)) only [admQ, lq15, aFill, AK.cls, implies_true, if_true, if_false, seval, -List.reduceReplicate, c85, r85, dec_f h1, dec_f h2, dec_f h3, dec_f h4, dec_t h5, dec_f (show ¬ okG g from fun h => by have := h.1.2.2.1; omega)]
  exact k0
 by_cases h6 : g.b > 64
 ·simp -implicitDefEqProofs (disch := (first | omega | (simp only [lq15] <;> omega) | fail)) only [admQ, lq15, aFill, AK.cls, implies_true, if_true, if_false, seval, -List.reduceReplicate, c85, r85, dec_f h1, dec_f h2, dec_f h3, dec_f h4, dec_f h5, dec_t h6, dec_f (show ¬ okG g from fun h => by have := h.1.2.2.2; omega)]
  exact k0
 have hi : inG g := ⟨by omega, by omega, by omega⟩
 simp -implicitDefEqProofs (disch := (first | omega | (simp only [lq15] <;> omega) | fail)) only [admQ, lq15, aFill, AK.cls, implies_true, if_true, if_false, seval, -List.reduceReplicate, c85, r85, dec_f h1, dec_f h2, dec_f h3, dec_f h4, dec_f h5, dec_f h6]
 generalize m ++ [.row [.int .i64 g.s, .int .i64 g.n, .int .i64 g.b] false] = A at *
 obtain ⟨s, n, b⟩ := g
 simp only [inG] at *
 obtain ⟨s, rfl⟩ : ∃ e' : Nat, s = e' := ⟨s.toNat, by omega⟩
 obtain ⟨n, rfl⟩ : ∃ n' : Nat, n = n' := ⟨n.toNat, by omega⟩
 obtain ⟨b, rfl⟩ : ∃ a' : Nat, b = a' := ⟨b.toNat, by omega⟩
 have hneed : needG n b ≤ 10 := by
  unfold needG
  exact Nat.div_le_of_le_mul (by omega)
 have hlean : leanG n ≤ 12 := by unfold leanG; omega
 refine (ans_r10needs s n b (by omega) (by omega) A).mono ?_
 rintro _ m1 ⟨rfl, k1⟩
 have o1 := k1.own o0 (by simp)
 have w1 : IntKind.i64.wrap ((s : Int) - (needG n b : Nat)) = (s : Int) - (needG n b : Nat) := wrap_i64 (by omega) (by omega)
 have hlq : ((n - 1) / 5 : Nat) = leanG n := rfl
 have hx : ((s - needG n b : Nat) : Int) - 14 = (s : Int) - (needG n b : Nat) - 14 := by omega
 have hy : ∀ z : Int, -100 ≤ z → z ≤ 100 → -10000 ≤ z * ((leanG n + 1 : Nat) : Int) ∧ z * ((leanG n + 1 : Nat) : Int) ≤ 10000 := fun z h1 h2 => by
  have : leanG n = 0 ∨ leanG n = 1 ∨ leanG n = 2 ∨ leanG n = 3 ∨ leanG n = 4 ∨ leanG n = 5 ∨ leanG n = 6 ∨ leanG n = 7 ∨ leanG n = 8 ∨ leanG n = 9 ∨ leanG n = 10 ∨ leanG n = 11 ∨ leanG n = 12 := by omega
  rcases this with h | h | h | h | h | h | h | h | h | h | h | h | h <;> rw [h] <;> omega
 have w2 : IntKind.i64.wrap ((s : Int) - (needG n b : Nat) - 14) = (s : Int) - (needG n b : Nat) - 14 := wrap_i64 (by omega) (by omega)
 obtain ⟨y1, y2⟩ := hy ((s : Int) - (needG n b : Nat) - 14) (by omega) (by omega)
 simp -implicitDefEqProofs (disch := (first | omega | (simp only [lq15] <;> omega) | fail)) only [admQ, lq15, aFill, AK.cls, implies_true, if_true, if_false, seval, -List.reduceReplicate, rowOf_own o1, rowOf_own o0, w1, w2, hlq, hx, wrap_i64 (show (-9223372036854775808 : Int) ≤ ((s : Int) - (needG n b : Nat) - 14) * ((leanG n + 1 : Nat) : Int) by omega) (by omega)]
 refine ⟨?_, k0.trans k1⟩
 have hin : inG ⟨(s : Int), (n : Int), (b : Int)⟩ := hi
 congr 2
 simp only [okG, hin, true_and, Int.toNat_natCast, Int.natCast_add, Int.natCast_one, gt_iff_lt]
 rfl
theorem ans_r10check (g : Geo) (m : Mem) : Ans Tryz.prog 57 [geoV g] m fun r m' => r = .int .i64 (errG g) ∧ Kept [] m m' := by
 refine ans_ret mixed ok57 ?_
 unfold geoV geoC
 have k0 := Kept.app [] m [.row [.int .i64 g.s, .int .i64 g.n, .int .i64 g.b] false]
 simp -implicitDefEqProofs (disch := (first | omega | (simp only [lq15] <;> omega) | fail)) only [admQ, lq15, aFill, AK.cls, implies_true, if_true, if_false, seval, -List.reduceReplicate, c57, r57]
 refine (ans_r10right g _).mono ?_
 rintro _ m1 ⟨rfl, k1⟩
 unfold errG
 by_cases h : okG g
 ·rw [if_pos h]
  simp -implicitDefEqProofs (disch := (first | omega | (simp only [lq15] <;> omega) | fail)) only [admQ, lq15, aFill, AK.cls, implies_true, if_true, if_false, seval, -List.reduceReplicate, dec_t h]
  exact k0.trans k1
 ·rw [if_neg h]
  simp -implicitDefEqProofs (disch := (first | omega | (simp only [lq15] <;> omega) | fail)) only [admQ, lq15, aFill, AK.cls, implies_true, if_true, if_false, seval, -List.reduceReplicate, dec_f h]
  exact k0.trans k1
theorem ans_r15put (g : Geo) (m : Mem) : Ans Tryz.prog 30 [geoV g] m fun r m' => Kept [] m m' ∧ ∃ w, r = .tup [w, .int .i64 (errG g)] ∧ RdB m' w (putG g) := by
 refine ans_ret mixed ok30 ?_
 unfold geoV geoC
 have k0 := Kept.app [] m [.row [.int .i64 g.s, .int .i64 g.n, .int .i64 g.b] false]
 have o0 : own (m ++ [.row [.int .i64 g.s, .int .i64 g.n, .int .i64 g.b] false]) m.length = some [.int .i64 g.s, .int .i64 g.n, .int .i64 g.b] := by rw [own_app_at0]; rfl
 simp -implicitDefEqProofs (disch := (first | omega | (simp only [lq15] <;> omega) | fail)) only [admQ, lq15, aFill, AK.cls, implies_true, if_true, if_false, seval, -List.reduceReplicate, c30, r30]
 generalize m ++ [.row [.int .i64 g.s, .int .i64 g.n, .int .i64 g.b] false] = A at *
 refine (ans_r10check g _).mono ?_
 rintro _ m1 ⟨rfl, k1⟩
 have o1 := k1.own o0 (by simp)
 have K1 := k0.trans k1
 by_cases h : okG g
 ·have he := (errG_ok g).mpr h
  rw [he]
  obtain ⟨s, n, b⟩ := g
  have hi := h.1
  simp only [inG] at hi
  simp only at *
  obtain ⟨s, rfl⟩ : ∃ e' : Nat, s = e' := ⟨s.toNat, by omega⟩
  obtain ⟨n, rfl⟩ : ∃ n' : Nat, n = n' := ⟨n.toNat, by omega⟩
  obtain ⟨b, rfl⟩ : ∃ a' : Nat, b = a' := ⟨b.toNat, by omega⟩
  simp -implicitDefEqProofs (disch := (first | omega | (simp only [lq15] <;> omega) | fail)) only [admQ, lq15, aFill, AK.cls, implies_true, if_true, if_false, seval, -List.reduceReplicate, rowOf_own o1]
  refine (ans_r9int s (by omega) (.nils m1) (by simp)).mono ?_
  rintro y1 m2 ⟨k2, g2⟩
  have o2 := k2.own o1 (by simp)
  rw [List.nil_append] at g2
  simp -implicitDefEqProofs (disch := (first | omega | (simp only [lq15] <;> omega) | fail)) only [admQ, lq15, aFill, AK.cls, implies_true, if_true, if_false, seval, -List.reduceReplicate, rowOf_own o1, rowOf_own o2]
  refine (ans_r9int n (by omega) g2.rd (by simp [numB_len])).mono ?_
  rintro y2 m3 ⟨k3, g3⟩
  have o3 := k3.own o2 (by simp)
  simp -implicitDefEqProofs (disch := (first | omega | (simp only [lq15] <;> omega) | fail)) only [admQ, lq15, aFill, AK.cls, implies_true, if_true, if_false, seval, -List.reduceReplicate, rowOf_own o1, rowOf_own o2, rowOf_own o3]
  refine (ans_r9int b (by omega) g3.rd (by simp [numB_len])).mono ?_
  rintro y3 m4 ⟨k4, g4⟩
  have o4 := k4.own o3 (by simp)
  simp -implicitDefEqProofs (disch := (first | omega | (simp only [lq15] <;> omega) | fail)) only [admQ, lq15, aFill, AK.cls, implies_true, if_true, if_false, seval, -List.reduceReplicate, rowOf_own o1, rowOf_own o2, rowOf_own o3, rowOf_own o4]
  refine ⟨(K1.trans k2).trans (k3.trans k4), y3, rfl, ?_⟩
  rw [putG, if_pos h, geoB]
  simpa using g4.rd
 ·have he : errG g = 15 := if_neg h
  rw [he]
  simp -implicitDefEqProofs (disch := (first | omega | (simp only [lq15] <;> omega) | fail)) only [admQ, lq15, aFill, AK.cls, implies_true, if_true, if_false, seval, -List.reduceReplicate]
  exact ⟨K1, .nils, rfl, by rw [putG, if_neg h]; exact .nils _⟩
def Rd9g (m : Mem) (r : Nat) (l : List B8) (j : Nat) (bad : Bool) : Prop := ∃ v, own m r = some [v, .int .i64 j, .bool bad] ∧ RdB m v l ∧ (∀ b ∈ blkOf v, b < r) ∧ j ≤ l.length ∧ l.length ≤ 1000000000
theorem Rd9g.kept0 {m m' : Mem} {r : Nat} {l : List B8} {j : Nat} {bad : Bool} (h : Rd9g m r l j bad) (hk : Kept [] m m') : Rd9g m' r l j bad := by
 obtain ⟨v, h1, h2, h3⟩ := h
 exact ⟨v, hk.own h1 (by simp), h2.kept0 hk, h3⟩
theorem ans_r9left2 {m : Mem} {r : Nat} {l : List B8} {j : Nat} {bad : Bool} (h : Rd9g m r l j bad) : Ans Tryz.prog 95 [.ptr r 0] m fun v m' => v = .int .i64 (if bad = true then 0 else ((l.length - j : Nat) : Int)) ∧ m' = m := by
 cases bad with
 | false => exact ans_r9left h
 | true =>
  refine ans_ret mixed ok95 ?_
  obtain ⟨v, h1, h2, h3, h4, h5⟩ := h
  simp -implicitDefEqProofs (disch := (first | omega | (simp only [lq15] <;> omega) | fail)) only [admQ, lq15, aFill, AK.cls, implies_true, if_true, if_false, seval, -List.reduceReplicate, c95, r95, rowOf_own h1]
theorem ans_r9end {m : Mem} {r : Nat} {l : List B8} {j : Nat} {bad : Bool} (h : Rd9g m r l j bad) : Ans Tryz.prog 74 [.ptr r 0] m fun v m' => v = .int .i64 (if bad = true then 4 else if 0 < (l.drop j).length then 3 else 0) ∧ m' = m := by
 refine ans_ret mixed ok74 ?_
 have hh := h
 obtain ⟨v, h1, h2, h3, h4, h5⟩ := h
 cases bad with
 | true => simp -implicitDefEqProofs (disch := (first | omega | (simp only [lq15] <;> omega) | fail)) only [admQ, lq15, aFill, AK.cls, implies_true, if_true, if_false, seval, -List.reduceReplicate, c74, r74, rowOf_own h1]
 | false =>
  simp -implicitDefEqProofs (disch := (first | omega | (simp only [lq15] <;> omega) | fail)) only [admQ, lq15, aFill, AK.cls, implies_true, if_true, if_false, seval, -List.reduceReplicate, c74, r74, rowOf_own h1]
  refine (ans_r9left2 hh).mono ?_
  rintro _ M ⟨rfl, hM⟩
  subst hM
  rw [List.length_drop]
  by_cases hl : 0 < l.length - j
  ·simp -implicitDefEqProofs (disch := (first | omega | (simp only [lq15] <;> omega) | fail)) only [admQ, lq15, aFill, AK.cls, implies_true, if_true, if_false, seval, -List.reduceReplicate, dec_t (show ((l.length - j : Nat) : Int) > 0 by omega), hl]
  ·simp -implicitDefEqProofs (disch := (first | omega | (simp only [lq15] <;> omega) | fail)) only [admQ, lq15, aFill, AK.cls, implies_true, if_true, if_false, seval, -List.reduceReplicate, dec_f (show ¬ ((l.length - j : Nat) : Int) > 0 by omega), hl]
theorem ans_r9rint2 {m : Mem} {r : Nat} {l : List B8} {j : Nat} {bad : Bool} (h : Rd9g m r l j bad) : Ans Tryz.prog 72 [.ptr r 0] m fun v m' => v = .int .i64 (rdN (l.drop j, bad)) ∧ Kept [r] m m' ∧ ∃ j', Rd9g m' r l j' (rdT (l.drop j, bad)).2 ∧ (rdT (l.drop j, bad)).1 = l.drop j' := by
 by_cases hok : bad = false ∧ 8 ≤ (l.drop j).length
 ·obtain ⟨rfl, hl⟩ := hok
  rw [rdN, rdT, if_pos ⟨rfl, hl⟩, if_pos ⟨rfl, hl⟩]
  rw [List.length_drop] at hl
  refine (ans_r9rint (j := j) h (by obtain ⟨_, _, _, _, h4, _⟩ := h; omega)).mono ?_
  rintro v m' ⟨h1, h2, h3⟩
  exact ⟨h1, h2, j + 8, h3, by rw [List.drop_drop]⟩
 ·rw [rdN, rdT, if_neg hok, if_neg hok]
  have hh := h
  obtain ⟨v, h1, h2, h3, h4, h5⟩ := h
  have h1' := own_set (own_lt h1) [v, .int .i64 (j : Nat), .bool true]
  have kX := Kept.set1 m r (.row [v, .int .i64 (j : Nat), .bool true] false)
  have h2' : RdB (m.set r (.row [v, .int .i64 (j : Nat), .bool true] false)) v l := rdb_ap h2 kX (fun b hb => by have := h3 b hb; simp; omega)
  have hnx : Ans Tryz.prog 92 [.ptr r 0, .int .i64 8] m fun v' m' => v' = .tup [.nils, .bool false] ∧ Kept [r] m m' ∧ Rd9g m' r l j true := by
   refine ans_ret mixed ok92 ?_
   simp -implicitDefEqProofs (disch := (first | omega | (simp only [lq15] <;> omega) | fail)) only [admQ, lq15, aFill, AK.cls, implies_true, if_true, if_false, seval, -List.reduceReplicate, c92, r92]
   refine (ans_r9left2 hh).mono ?_
   rintro _ M ⟨rfl, hM⟩
   subst hM
   have hlt : (if bad = true then (0 : Int) else ((l.length - j : Nat) : Int)) < 8 := by
    split
    ·omega
    ·rename_i hb
     have : ¬ 8 ≤ (l.drop j).length := fun h => hok ⟨by simpa using hb, h⟩
     rw [List.length_drop] at this
     omega
   simp -implicitDefEqProofs (disch := (first | omega | (simp only [lq15] <;> omega) | fail)) only [admQ, lq15, aFill, AK.cls, implies_true, if_true, if_false, seval, -List.reduceReplicate, dec_t hlt, h1]
   exact ⟨kX, v, h1', h2', h3, h4, h5⟩
  refine ans_ret mixed ok72 ?_
  simp -implicitDefEqProofs (disch := (first | omega | (simp only [lq15] <;> omega) | fail)) only [admQ, lq15, aFill, AK.cls, implies_true, if_true, if_false, seval, -List.reduceReplicate, c72, r72]
  refine hnx.mono ?_
  rintro _ m1 ⟨rfl, k1, hR⟩
  simp -implicitDefEqProofs (disch := (first | omega | (simp only [lq15] <;> omega) | fail)) only [admQ, lq15, aFill, AK.cls, implies_true, if_true, if_false, seval, -List.reduceReplicate, Bool.not_false]
  exact ⟨k1, j, hR, rfl⟩
theorem ans_r15get {m : Mem} {x : AV} {b : List B8} (hx : RdB m x b) (hl : b.length ≤ 100000) : Ans Tryz.prog 38 [x] m fun r m' => Kept [] m m' ∧ r = .tup [geoV (getG b), .int .i64 (getGE b)] := by
 refine ans_ret mixed ok38 ?_
 simp -implicitDefEqProofs (disch := (first | omega | (simp only [lq15] <;> omega) | fail)) only [admQ, lq15, aFill, AK.cls, implies_true, if_true, if_false, seval, -List.reduceReplicate, c38, r38]
 have k0 := Kept.app [] m [.row [.int .i64 0, .int .i64 0, .int .i64 0] false]
 have o0 : own (m ++ [.row [.int .i64 0, .int .i64 0, .int .i64 0] false]) m.length = some [.int .i64 0, .int .i64 0, .int .i64 0] := by rw [own_app_at0]; rfl
 generalize m ++ [.row [.int .i64 0, .int .i64 0, .int .i64 0] false] = A at *
 refine (ans_r9read (hx.kept0 k0) (by omega)).mono ?_
 rintro _ m1 ⟨k1, p, rfl, hp, hR⟩
 simp -implicitDefEqProofs (disch := (first | omega | (simp only [lq15] <;> omega) | fail)) only [admQ, lq15, aFill, AK.cls, implies_true, if_true, if_false, seval, -List.reduceReplicate]
 refine (ans_r9rint2 (bad := false) hR).mono ?_
 rintro _ m2 ⟨rfl, k2, j2, hR2, e2⟩
 obtain ⟨q1, q2⟩ := rd_three (b := b)
 rw [List.drop_zero] at e2 hR2 ⊢
 simp -implicitDefEqProofs (disch := (first | omega | (simp only [lq15] <;> omega) | fail)) only [admQ, lq15, aFill, AK.cls, implies_true, if_true, if_false, seval, -List.reduceReplicate]
 have t1 : (b.drop j2, (rdT (b, false)).2) = rdT (b, false) := by rw [← e2]
 have hpm2 : p < m2.length := by obtain ⟨v, h, _⟩ := hR2; exact own_lt h
 have k2' := Kept.app [] m2 [.row [.int .i64 (rdN (b, false)), .int .i64 0, .int .i64 0] false]
 have g2 : own (m2 ++ [.row [.int .i64 (rdN (b, false)), .int .i64 0, .int .i64 0] false]) m2.length = some [.int .i64 (rdN (b, false)), .int .i64 0, .int .i64 0] := by rw [own_app_at0]; rfl
 generalize m2 ++ [.row [.int .i64 (rdN (b, false)), .int .i64 0, .int .i64 0] false] = B2 at *
 have hpm : p < B2.length := by obtain ⟨v, h, _⟩ := hR2.kept0 k2'; exact own_lt h
 refine (ans_r9rint2 (hR2.kept0 k2')).mono ?_
 rintro _ m3 ⟨rfl, k3, j3, hR3, e3⟩
 rw [t1] at hR3 e3 ⊢
 have t2 : (b.drop j3, (rdT (rdT (b, false))).2) = rdT (rdT (b, false)) := by rw [← e3]
 have g3 := k3.own g2 (by simp; omega)
 have l23 := k3.len
 simp -implicitDefEqProofs (disch := (first | omega | (simp only [lq15] <;> omega) | fail)) only [admQ, lq15, aFill, AK.cls, implies_true, if_true, if_false, seval, -List.reduceReplicate, g3]
 have k3' := Kept.set1 m3 m2.length (.row [.int .i64 (rdN (b, false)), .int .i64 (rdN (rdT (b, false))), .int .i64 0] false)
 have g4 := own_set (own_lt g3) [AV.int .i64 (rdN (b, false)), .int .i64 (rdN (rdT (b, false))), .int .i64 0]
 generalize m3.set m2.length (.row [.int .i64 (rdN (b, false)), .int .i64 (rdN (rdT (b, false))), .int .i64 0] false) = B3 at *
 have hR4 : Rd9g B3 p b j3 (rdT (rdT (b, false))).2 := by
  obtain ⟨v, h1, h2, h3, h4⟩ := hR3
  exact ⟨v, k3'.own h1 (by simp; omega), rdb_ap h2 k3' (fun q hq => by have := h3 q hq; simp; omega), h3, h4⟩
 refine (ans_r9rint2 hR4).mono ?_
 rintro _ m4 ⟨rfl, k4, j4, hR5, e4⟩
 rw [t2] at hR5 e4 ⊢
 have g5 := k4.own g4 (by simp; omega)
 simp -implicitDefEqProofs (disch := (first | omega | (simp only [lq15] <;> omega) | fail)) only [admQ, lq15, aFill, AK.cls, implies_true, if_true, if_false, seval, -List.reduceReplicate, g5]
 have k4' := Kept.set1 m4 m2.length (.row [.int .i64 (rdN (b, false)), .int .i64 (rdN (rdT (b, false))), .int .i64 (rdN (rdT (rdT (b, false))))] false)
 have g6 := own_set (own_lt g5) [AV.int .i64 (rdN (b, false)), .int .i64 (rdN (rdT (b, false))), .int .i64 (rdN (rdT (rdT (b, false))))]
 generalize hB4 : m4.set m2.length (.row [.int .i64 (rdN (b, false)), .int .i64 (rdN (rdT (b, false))), .int .i64 (rdN (rdT (rdT (b, false))))] false) = B4 at *
 have hR6 : Rd9g B4 p b j4 (rdT (rdT (rdT (b, false)))).2 := by
  obtain ⟨v, h1, h2, h3, h4⟩ := hR5
  exact ⟨v, k4'.own h1 (by simp; omega), rdb_ap h2 k4' (fun q hq => by have := h3 q hq; simp; omega), h3, h4⟩
 have lA := own_lt o0
 have l12 := k1.len
 have l2 := k2.len
 have hX : ∀ q ∈ [p], A.length ≤ q := by simpa using hp
 have KA2 : Kept [] A m2 := k1.upon k2 hX
 have KA : Kept [] A B4 := by
  have h1 := ((KA2.trans k2').upon k3 hX).upon k3' (by simp; omega)
  exact (h1.upon k4 hX).upon k4' (by simp; omega)
 have o6 := KA.own o0 (by simp)
 have KB := k0.trans KA
 refine (ans_r9end hR6).mono ?_
 rintro _ M ⟨rfl, hM⟩
 subst hM
 have e5 : (b.drop j4).length = (rdT (rdT (rdT (b, false)))).1.length := by rw [e4]
 rw [e5, q1]
 have fin0 : ∀ (m' : Mem) (e : Int), e ≠ 0 → getGE b = e → Kept [] m m' → Kept [] m m' ∧ AV.tup [.agg [.int .i64 0, .int .i64 0, .int .i64 0], .int .i64 e] = .tup [geoV (getG b), .int .i64 (getGE b)] := fun m' e h0 he hk => by
  refine ⟨hk, ?_⟩
  rw [he, getG, he, if_neg h0]; rfl
 by_cases h1 : b.length < 24
 ·have he : getGE b = 4 := by rw [getGE, if_pos h1]
  rw [if_pos h1]
  simp -implicitDefEqProofs (disch := (first | omega | (simp only [lq15] <;> omega) | fail)) only [admQ, lq15, aFill, AK.cls, implies_true, if_true, if_false, seval, -List.reduceReplicate, o6, own_set (own_lt o6), rowOf_own (own_set (own_lt o6) _)]
  exact fin0 _ _ (by omega) he (KB.write (.inr (Nat.le_refl _)) _)
 by_cases h2 : 24 < b.length
 ·have he : getGE b = 3 := by rw [getGE, if_neg h1, if_pos h2]
  rw [if_neg h1, if_pos h2]
  simp -implicitDefEqProofs (disch := (first | omega | (simp only [lq15] <;> omega) | fail)) only [admQ, lq15, aFill, AK.cls, implies_true, if_true, if_false, seval, -List.reduceReplicate, o6, own_set (own_lt o6), rowOf_own (own_set (own_lt o6) _)]
  exact fin0 _ _ (by omega) he (KB.write (.inr (Nat.le_refl _)) _)
 have hraw := q2 (by omega)
 rw [if_neg h1, if_neg h2]
 simp -implicitDefEqProofs (disch := (first | omega | (simp only [lq15] <;> omega) | fail)) only [admQ, lq15, aFill, AK.cls, implies_true, if_true, if_false, seval, -List.reduceReplicate, rowOf_own g6]
 refine (ans_r10check ⟨rdN (b, false), rdN (rdT (b, false)), rdN (rdT (rdT (b, false)))⟩ M).mono ?_
 rintro _ m7 ⟨rfl, k7⟩
 have o7 := k7.own g6 (by simp)
 have o7' := k7.own o6 (by simp)
 have he : getGE b = errG ⟨rdN (b, false), rdN (rdT (b, false)), rdN (rdT (rdT (b, false)))⟩ := by rw [getGE, if_neg h1, if_neg h2, hraw]
 have K7 := KB.trans k7
 by_cases h3 : errG ⟨rdN (b, false), rdN (rdT (b, false)), rdN (rdT (rdT (b, false)))⟩ = 0
 ·rw [h3]
  simp -implicitDefEqProofs (disch := (first | omega | (simp only [lq15] <;> omega) | fail)) only [admQ, lq15, aFill, AK.cls, implies_true, if_true, if_false, seval, -List.reduceReplicate, rowOf_own o7, o7', own_set (own_lt o7'), rowOf_own (own_set (own_lt o7') _)]
  refine ⟨K7.write (.inr (Nat.le_refl _)) _, ?_⟩
  rw [getG, he, h3, if_pos rfl, hraw]; rfl
 ·simp -implicitDefEqProofs (disch := (first | omega | (simp only [lq15] <;> omega) | fail)) only [admQ, lq15, aFill, AK.cls, implies_true, if_true, if_false, seval, -List.reduceReplicate, beq_eq_false_iff_ne.mpr h3, o7', own_set (own_lt o7'), rowOf_own (own_set (own_lt o7') _)]
  exact fin0 _ _ h3 he (K7.write (.inr (Nat.le_refl _)) _)
end Go.Proofs.YtoegmnnecanhfaaGreatDoor
end
section
namespace Go.Proofs.YtoegmnnecanhfaaGreatDoor
open Go Go.Adm
set_option linter.unusedSimpArgs false
set_option linter.unusedVariables false
set_option maxRecDepth 100000
theorem ans_copybytes2 {m : Mem} {x : AV} {l : List B8} (hx : RdB m x l) (hl : l.length ≤ 1000000000) :
  Ans Tryz.prog 45 [x] m fun r m' => Kept [] m m' ∧ GrB m.length m' r l ∧ ∀ q ∈ blkOf r, m.length ≤ q := by
 refine ans_ret mixed ok45 ?_
 simp -implicitDefEqProofs (disch := (first | omega | (simp only [lenB] <;> omega) | fail)) only [admQ, lenB, aFill, AK.cls, implies_true, if_true, if_false, seval, -List.reduceReplicate, c45, r45]
 refine LoopW.on (fun t : Nat × AV => [(0, x), (3, t.2), (4, .int .i64 t.1)]) (fun t => l.length - t.1) (fun t M => t.1 ≤ l.length ∧ Kept [] m M ∧ GrB m.length M t.2 (l.take t.1) ∧ ∀ q ∈ blkOf t.2, m.length ≤ q) ?_ (0, .nils) _ _ rfl ⟨by simp, .refl _ _, .nils .., by simp [blkOf]⟩
 rintro ⟨i, y⟩ M X ⟨hi, kk, g, hb⟩ hX
 change GrB m.length M y (l.take i) at g
 simp only at hi hb
 by_cases hlt : i < l.length
 ·have hlen := hx.len
  obtain ⟨b, o, cap, s, c, rfl, hrow, hat, _⟩ := hx.cons hlt
  have hr := kk.row hrow (by simp)
  have e := hat i hlt
  have hkl := kk.len
  simp -implicitDefEqProofs (disch := (first | omega | (simp only [lenB] <;> omega) | fail)) only [admQ, lenB, aFill, AK.cls, implies_true, if_true, if_false, seval, -List.reduceReplicate, hlen, hr, e]
  obtain ⟨x3, m3, e3, g3, k3, a3, n3⟩ := GrA.push5 (sz := 1) (bytes := 1) (l := [b8 (gb l i)]) g Nat.one_pos rfl (by simp; omega) kk.len
  refine someW_eq e3 ?_
  simp -implicitDefEqProofs (disch := (first | omega | (simp only [lenB] <;> omega) | fail)) only [admQ, lenB, aFill, AK.cls, implies_true, if_true, if_false, seval, -List.reduceReplicate]
  refine hX (i + 1, x3) _ _ rfl (by simp only; omega) ⟨by simp only; omega, a3 _ _ kk (Nat.le_refl _), ?_, fun q hq => by have := n3 q hq; omega⟩
  show GrB m.length m3 x3 (l.take (i + 1))
  rw [take_gb hlt]
  simpa [GrB, bys] using g3
 ·obtain rfl : i = l.length := by omega
  rw [List.take_length] at g
  simp -implicitDefEqProofs (disch := (first | omega | (simp only [lenB] <;> omega) | fail)) only [admQ, lenB, aFill, AK.cls, implies_true, if_true, if_false, seval, -List.reduceReplicate, hx.len]
  exact ⟨kk, g, hb⟩
abbrev It := Int × AV × List B8
def itC (e : It) : List AV := [.int .i64 e.1, e.2.1]
theorem itC_len (e : It) : (itC e).length = 2 := rfl
def lfind (E : List It) (i : Int) : Option (List B8) := (E.find? (fun e => e.1 == i)).map (·.2.2)
def RdIt (m : Mem) (x : AV) (E : List It) : Prop := (E = [] ∧ pLen [x] = some (.int .i64 0)) ∨ ∃ p cap s, x = .sl p 0 E.length cap s ∧ rowOf m p = some (flatOf itC E)
theorem RdIt.kept {m m' : Mem} {x : AV} {E : List It} {X : List Nat} (h : RdIt m x E) (hk : Kept X m m') (hX : ∀ q ∈ blkOf x, q ∉ X) : RdIt m' x E := by
 rcases h with h | ⟨p, cap, s, rfl, h⟩
 ·exact .inl h
 ·exact .inr ⟨p, cap, s, rfl, hk.row h (hX p (by simp [blkOf]))⟩
theorem RdIt.len {m : Mem} {x : AV} {E : List It} (h : RdIt m x E) : pLen [x] = some (.int .i64 E.length) := by
 rcases h with ⟨rfl, h⟩ | ⟨p, cap, s, rfl, h⟩
 ·exact h
 ·rfl
theorem RdIt.gr {m0 : Nat} {m : Mem} {x : AV} {E : List It} (h : GrA 2 m0 m x (flatOf itC E)) : RdIt m x E := by
 have hl := flatOf_length itC_len E
 rcases h with ⟨h0, rfl | ⟨b, rfl, h⟩⟩ | ⟨b, n, h1, h2, rfl, h4, h5⟩
 ·rw [h0] at hl; simp at hl; exact .inl ⟨List.length_eq_zero_iff.mp (by omega), rfl⟩
 ·rw [h0] at hl; simp at hl; exact .inl ⟨List.length_eq_zero_iff.mp (by omega), rfl⟩
 ·obtain rfl : n = E.length := by omega
  exact .inr ⟨b, _, 2, rfl, rowOf_own h4⟩
theorem RdIt.at {m : Mem} {x : AV} {E : List It} (h : RdIt m x E) {i : Nat} (hi : i < E.length) : ∃ p cap s, x = .sl p 0 E.length cap s ∧ rowOf m p = some (flatOf itC E) ∧ (flatOf itC E)[i * 2]? = some (.int .i64 E[i].1) ∧ (flatOf itC E)[i * 2 + 1]? = some E[i].2.1 ∧ List.take 2 (List.drop (i * 2) (flatOf itC E)) = [.int .i64 E[i].1, E[i].2.1] ∧ (flatOf itC E).length = E.length * 2 := by
 rcases h with ⟨rfl, h⟩ | ⟨p, cap, s, rfl, h⟩
 ·simp at hi
 ·have ht := flatOf_get itC_len E i hi
  refine ⟨p, cap, s, rfl, h, ?_, ?_, ht, flatOf_length itC_len E⟩
  ·have := congrArg (fun l => l[0]?) ht
   simpa [itC] using this
  ·have := congrArg (fun l => l[1]?) ht
   simpa [itC] using this
theorem ans_r7find {m : Mem} {x : AV} {E : List It} (hx : RdIt m x E) (hl : E.length ≤ 1000000) (hE : ∀ e ∈ E, RdB m e.2.1 e.2.2 ∧ e.2.2.length ≤ 1000000) (i : Int) :
  Ans Tryz.prog 41 [x, .int .i64 i] m fun r m' => Kept [] m m' ∧ ∃ v, r = .tup [v, .bool (lfind E i).isSome] ∧ GrB m.length m' v ((lfind E i).getD []) ∧ ∀ q ∈ blkOf v, m.length ≤ q := by
 refine ans_ret mixed ok41 ?_
 simp -implicitDefEqProofs (disch := (first | omega | (simp only [lenB] <;> omega) | fail)) only [admQ, lenB, aFill, AK.cls, implies_true, if_true, if_false, seval, -List.reduceReplicate, c41, r41]
 refine LoopW.on (fun j : Nat => [(0, x), (1, .int .i64 i), (6, .int .i64 j)]) (fun j => E.length - j) (fun j M => M = m ∧ j ≤ E.length ∧ ∀ e ∈ E.take j, e.1 ≠ i) ?_ 0 _ _ rfl ⟨rfl, by omega, by simp⟩
 rintro j M X ⟨rfl, hj, hne⟩ hX
 have hlen := hx.len
 by_cases hlt : j < E.length
 ·obtain ⟨p, cap, s, rfl, hr, e1, e2, -, hfl⟩ := hx.at hlt
  have hcut : E = E.take j ++ E[j] :: E.drop (j + 1) := by rw [List.getElem_cons_drop, List.take_append_drop]
  by_cases hk : E[j].1 = i
  ·have hf : lfind E i = some E[j].2.2 := by
    unfold lfind
    have : E.find? (fun e => e.1 == i) = some E[j] := by
     rw [List.find?_eq_some_iff_append]
     exact ⟨by simpa using hk, E.take j, E.drop (j + 1), hcut, fun a ha => by simpa using hne a ha⟩
    rw [this]; rfl
   have hm := hE _ (List.getElem_mem hlt)
   simp -implicitDefEqProofs (disch := (first | omega | (simp only [lenB] <;> omega) | fail)) only [admQ, lenB, aFill, AK.cls, implies_true, if_true, if_false, seval, -List.reduceReplicate, hr, e1, e2, beq_iff_eq.mpr hk]
   refine (ans_copybytes2 hm.1 (by omega)).mono ?_
   rintro v m1 ⟨k1, g1, b1⟩
   simp -implicitDefEqProofs (disch := (first | omega | (simp only [lenB] <;> omega) | fail)) only [admQ, lenB, aFill, AK.cls, implies_true, if_true, if_false, seval, -List.reduceReplicate]
   rw [hf]
   exact ⟨k1, v, rfl, g1, b1⟩
  ·simp -implicitDefEqProofs (disch := (first | omega | (simp only [lenB] <;> omega) | fail)) only [admQ, lenB, aFill, AK.cls, implies_true, if_true, if_false, seval, -List.reduceReplicate, hr, e1, beq_eq_false_iff_ne.mpr hk]
   refine hX (j + 1) _ _ rfl (by omega) ⟨rfl, by omega, fun e he => ?_⟩
   rw [List.take_add_one, List.mem_append, List.getElem?_eq_getElem hlt] at he
   rcases he with he | he
   ·exact hne e he
   ·simp at he; rw [he]; exact hk
 ·simp -implicitDefEqProofs (disch := (first | omega | (simp only [lenB] <;> omega) | fail)) only [admQ, lenB, aFill, AK.cls, implies_true, if_true, if_false, seval, -List.reduceReplicate, hlen, dec_f (show ¬ (j : Int) < E.length by omega)]
  have hf : lfind E i = none := by
   unfold lfind
   have : E.find? (fun e => e.1 == i) = none := List.find?_eq_none.mpr fun e he => by simpa using hne e (by rw [List.take_of_length_le (by omega)]; exact he)
   rw [this]; rfl
  rw [hf]
  exact ⟨.refl _ _, .nils, rfl, .nils .., by simp [blkOf]⟩
def wo (i : Int) (E : List It) : List It := E.filter (fun e => e.1 != i)
theorem wo_ne {i : Int} {E : List It} {e : It} (h : e ∈ wo i E) : e.1 ≠ i := by
 have := (List.mem_filter.mp h).2; simpa using this
theorem wo_sub {i : Int} {E : List It} {e : It} (h : e ∈ wo i E) : e ∈ E := (List.mem_filter.mp h).1
theorem wo_len (i : Int) (E : List It) : (wo i E).length ≤ E.length := List.length_filter_le _ _
theorem wo_take {i : Int} {E : List It} {j : Nat} (h : j < E.length) : wo i (E.take (j + 1)) = wo i (E.take j) ++ if E[j].1 = i then [] else [E[j]] := by
 rw [List.take_add_one, List.getElem?_eq_getElem h, wo, List.filter_append]
 congr 1
 by_cases hk : E[j].1 = i <;> simp [hk]
theorem lfind_nil (i : Int) : lfind [] i = none := rfl
theorem lfind_cons (e : It) (E : List It) (i : Int) : lfind (e :: E) i = if e.1 = i then some e.2.2 else lfind E i := by
 unfold lfind
 rw [List.find?_cons]
 by_cases h : e.1 = i
 ·rw [beq_iff_eq.mpr h, if_pos h]; rfl
 ·rw [beq_eq_false_iff_ne.mpr h, if_neg h]
theorem lfind_app (E F : List It) (i : Int) : lfind (E ++ F) i = (lfind E i).orElse fun _ => lfind F i := by
 induction E with
 | nil => rfl
 | cons e E ih => rw [List.cons_append, lfind_cons, lfind_cons]; split; rfl; exact ih
theorem lfind_wo (E : List It) (i j : Int) : lfind (wo i E) j = if j = i then none else lfind E j := by
 induction E with
 | nil => simp [wo, lfind_nil]
 | cons e E ih =>
  rw [lfind_cons]
  by_cases h : e.1 = i
  ·have : wo i (e :: E) = wo i E := by simp [wo, h]
   rw [this, ih]
   by_cases hj : j = i
   ·simp [hj]
   ·rw [if_neg hj, if_neg hj, if_neg (fun h2 => hj (by omega))]
  ·have : wo i (e :: E) = e :: wo i E := by simp [wo, h]
   rw [this, lfind_cons, ih]
   by_cases hj : j = i
   ·subst hj; simp [h]
   ·simp [hj]
theorem lfind_ins {F : List It} {i : Int} (hF : ∀ e ∈ F, e.1 ≠ i) (p : Nat) (v : AV) (b : List B8) (j : Int) : lfind (F.take p ++ (i, v, b) :: F.drop p) j = if j = i then some b else lfind F j := by
 rw [lfind_app, lfind_cons]
 have hno : ∀ G : List It, (∀ e ∈ G, e.1 ≠ i) → lfind G i = none := fun G hG => by
  induction G with
  | nil => rfl
  | cons e G ih => rw [lfind_cons, if_neg (hG e (by simp)), ih (fun e h => hG e (by simp [h]))]
 by_cases hj : j = i
 ·subst hj
  rw [hno _ (fun e h => hF e (List.mem_of_mem_take h)), if_pos rfl]; simp
 ·have : lfind F j = (lfind (F.take p) j).orElse fun _ => lfind (F.drop p) j := by rw [← lfind_app, List.take_append_drop]
  rw [if_neg hj, this, if_neg (fun h => hj h.symm)]
theorem flatOf_snoc {α : Type} (f : α → List AV) (l : List α) (x : α) : flatOf f (l ++ [x]) = flatOf f l ++ f x := by simp [flatOf]
theorem ans_r7without {m : Mem} {x : AV} {E : List It} (hx : RdIt m x E) (hl : E.length ≤ 1000000) (i : Int) :
  Ans Tryz.prog 46 [x, .int .i64 i] m fun r m' => Kept [] m m' ∧ GrA 2 m.length m' r (flatOf itC (wo i E)) ∧ ∀ q ∈ blkOf r, m.length ≤ q := by
 refine ans_ret mixed ok46 ?_
 simp -implicitDefEqProofs (disch := (first | omega | (simp only [lenB] <;> omega) | fail)) only [admQ, lenB, aFill, AK.cls, implies_true, if_true, if_false, seval, -List.reduceReplicate, c46, r46]
 refine LoopW.on (fun t : Nat × AV => [(0, x), (1, .int .i64 i), (5, t.2), (6, .int .i64 t.1)]) (fun t => E.length - t.1) (fun t M => t.1 ≤ E.length ∧ Kept [] m M ∧ GrA 2 m.length M t.2 (flatOf itC (wo i (E.take t.1))) ∧ ∀ q ∈ blkOf t.2, m.length ≤ q) ?_ (0, .nils) _ _ rfl ⟨by simp, .refl _ _, .nils .., by simp [blkOf]⟩
 rintro ⟨j, y⟩ M X ⟨hj, kk, g, hbl⟩ hX
 simp only at hj g
 have hlen := hx.len
 by_cases hlt : j < E.length
 ·have ht := wo_take (i := i) hlt
  have hwl := wo_len i (E.take j)
  rw [List.length_take] at hwl
  have hfl := flatOf_length itC_len (wo i (E.take j))
  obtain ⟨p, cap, s, rfl, hr0, e1, e2, e3, hfl0⟩ := hx.at hlt
  have hr := kk.row hr0 (by simp)
  by_cases hk : E[j].1 = i
  ·rw [if_pos hk, List.append_nil] at ht
   simp -implicitDefEqProofs (disch := (first | omega | (simp only [lenB] <;> omega) | fail)) only [admQ, lenB, aFill, AK.cls, implies_true, if_true, if_false, seval, -List.reduceReplicate, hr, e1, beq_iff_eq.mpr hk]
   exact hX (j + 1, y) _ _ rfl (by simp only; omega) ⟨by simp only; omega, kk, by simp only; rw [ht]; exact g, hbl⟩
  ·rw [if_neg hk] at ht
   obtain ⟨x3, m3, e4, g3, k3, a3, n3⟩ := GrA.push5 (sz := 2) (bytes := 32) (l := [.int .i64 E[j].1, E[j].2.1]) g (by omega) rfl (by omega) kk.len
   simp -implicitDefEqProofs (disch := (first | omega | (simp only [lenB] <;> omega) | fail)) only [admQ, lenB, aFill, AK.cls, implies_true, if_true, if_false, seval, -List.reduceReplicate, hr, e1, e3, hfl0, beq_eq_false_iff_ne.mpr hk]
   refine someW_eq e4 ?_
   simp -implicitDefEqProofs (disch := (first | omega | (simp only [lenB] <;> omega) | fail)) only [admQ, lenB, aFill, AK.cls, implies_true, if_true, if_false, seval, -List.reduceReplicate]
   refine hX (j + 1, x3) _ _ rfl (by simp only; omega) ⟨by simp only; omega, a3 _ _ kk (Nat.le_refl _), ?_, fun q hq => by have := n3 q hq; have := kk.len; omega⟩
   simp only
   rw [ht, flatOf_snoc]
   exact g3
 ·obtain rfl : j = E.length := by omega
  rw [List.take_length] at g
  simp -implicitDefEqProofs (disch := (first | omega | (simp only [lenB] <;> omega) | fail)) only [admQ, lenB, aFill, AK.cls, implies_true, if_true, if_false, seval, -List.reduceReplicate, hlen]
  exact ⟨kk, g, hbl⟩
theorem ans_r7put {m : Mem} {x v : AV} {E : List It} {b : List B8} (hx : RdIt m x E) (hl : E.length ≤ 1000000) (hv : RdB m v b) (i : Int) :
  Ans Tryz.prog 44 [x, .agg [.int .i64 i, v]] m fun r m' => Kept [] m m' ∧ ∃ E', GrA 2 m.length m' r (flatOf itC E') ∧ (∀ q ∈ blkOf r, m.length ≤ q) ∧ (∀ e ∈ E', e ∈ E ∨ e = (i, v, b)) ∧ (∀ j, lfind E' j = if j = i then some b else lfind E j) ∧ E'.length ≤ E.length + 1 := by
 refine ans_ret mixed ok44 ?_
 have k0 := Kept.app [] m [.row [.int .i64 i, v] false]
 have o0 : own (m ++ [.row [.int .i64 i, v] false]) m.length = some [.int .i64 i, v] := by rw [own_app_at0]; rfl
 simp -implicitDefEqProofs (disch := (first | omega | (simp only [lenB] <;> omega) | fail)) only [admQ, lenB, aFill, AK.cls, implies_true, if_true, if_false, seval, -List.reduceReplicate, c44, r44, (rd_one hv).1, (rd_one hv).2, rowOf_own o0]
 generalize m ++ [.row [.int .i64 i, v] false] = A at *
 have lA := k0.len
 refine (ans_r7without (hx.kept k0 (by simp)) hl i).mono ?_
 rintro y m1 ⟨k1, g1, -⟩
 have o1 := k1.own o0 (by simp)
 have hw := wo_len i E
 have hF := fun e (h : e ∈ wo i E) => wo_ne h
 have hFE := fun e (h : e ∈ wo i E) => wo_sub h
 have hfw := lfind_wo E i
 generalize wo i E = F at *
 have K1 := k0.trans k1
 have l1 := K1.len
 have rF : RdIt m1 y F := .gr g1
 simp -implicitDefEqProofs (disch := (first | omega | (simp only [lenB] <;> omega) | fail)) only [admQ, lenB, aFill, AK.cls, implies_true, if_true, if_false, seval, -List.reduceReplicate]
 refine LoopW.on (fun t : Nat × AV × Bool => [(0, y), (3, .ptr m.length 0), (5, t.2.1), (6, .bool t.2.2), (7, .int .i64 t.1)]) (fun t => F.length - t.1) (fun t M => t.1 ≤ F.length ∧ Kept [] m1 M ∧ ∃ O, GrA 2 m1.length M t.2.1 (flatOf itC O) ∧ O.length ≤ t.1 + 1 ∧ (t.2.2 = false → O = F.take t.1) ∧ (t.2.2 = true → ∃ p, p ≤ t.1 ∧ O = F.take p ++ (i, v, b) :: (F.take t.1).drop p)) ?_ (0, .nils, false) _ _ rfl ⟨by simp, .refl _ _, [], .nils .., by simp, by simp, by simp⟩
 rintro ⟨j, z, dn⟩ M X ⟨hj, kk, O, g, hO, hd0, hd1⟩ hX
 simp only at hj g hO hd0 hd1
 have hlen := rF.len
 have hfl := flatOf_length itC_len O
 have oM := kk.own o1 (by simp)
 by_cases hlt : j < F.length
 ·obtain ⟨p, cap, s, rfl, hr0, e1, e2, e3, hfl0⟩ := rF.at hlt
  have hr := kk.row hr0 (by simp)
  have htk : F.take (j + 1) = F.take j ++ [F[j]] := by rw [List.take_add_one, List.getElem?_eq_getElem hlt]; rfl
  cases dn with
  | true =>
   obtain ⟨p0, hp0, rfl⟩ := hd1 rfl
   obtain ⟨x3, m3, e4, g3, k3, a3, n3⟩ := GrA.push5 (sz := 2) (bytes := 32) (l := [.int .i64 F[j].1, F[j].2.1]) g (by omega) rfl (by omega) kk.len
   simp -implicitDefEqProofs (disch := (first | omega | (simp only [lenB] <;> omega) | fail)) only [admQ, lenB, aFill, AK.cls, implies_true, if_true, if_false, seval, -List.reduceReplicate, hr, e1, e3, hfl0, Bool.not_true]
   refine someW_eq e4 ?_
   simp -implicitDefEqProofs (disch := (first | omega | (simp only [lenB] <;> omega) | fail)) only [admQ, lenB, aFill, AK.cls, implies_true, if_true, if_false, seval, -List.reduceReplicate]
   refine hX (j + 1, x3, true) _ _ rfl (by simp only; omega) ⟨by simp only; omega, a3 _ _ kk (Nat.le_refl _), F.take p0 ++ (i, v, b) :: (F.take (j + 1)).drop p0, ?_, ?_, by simp, fun _ => ⟨p0, by simp only; omega, rfl⟩⟩
   ·simp only
    rw [htk, List.drop_append_of_le_length (by rw [List.length_take]; omega), ← List.cons_append, ← List.append_assoc, flatOf_snoc]
    exact g3
   ·simp only
    simp only [List.length_append, List.length_cons, List.length_take, List.length_drop] at hO ⊢
    omega
  | false =>
   obtain rfl := hd0 rfl
   by_cases hgt : F[j].1 > i
   ·obtain ⟨x3, m3, e4, g3, k3, a3, n3⟩ := GrA.push5 (sz := 2) (bytes := 32) (l := [.int .i64 i, v]) g (by omega) rfl (by omega) kk.len
    simp -implicitDefEqProofs (disch := (first | omega | (simp only [lenB] <;> omega) | fail)) only [admQ, lenB, aFill, AK.cls, implies_true, if_true, if_false, seval, -List.reduceReplicate, hr, e1, rowOf_own oM, dec_t hgt, Bool.not_false]
    refine someW_eq e4 ?_
    have kk3 := a3 _ _ kk (Nat.le_refl _)
    have hr3 := kk3.row hr0 (by simp)
    obtain ⟨x4, m4, e5, g4, k4, a4, n4⟩ := GrA.push5 (sz := 2) (bytes := 32) (l := [.int .i64 F[j].1, F[j].2.1]) g3 (by omega) rfl (by simp only [List.length_append, List.length_cons, List.length_nil]; omega) kk3.len
    simp -implicitDefEqProofs (disch := (first | omega | (simp only [lenB] <;> omega) | fail)) only [admQ, lenB, aFill, AK.cls, implies_true, if_true, if_false, seval, -List.reduceReplicate, hr3, e1, e3, hfl0]
    refine someW_eq e5 ?_
    simp -implicitDefEqProofs (disch := (first | omega | (simp only [lenB] <;> omega) | fail)) only [admQ, lenB, aFill, AK.cls, implies_true, if_true, if_false, seval, -List.reduceReplicate]
    refine hX (j + 1, x4, true) _ _ rfl (by simp only; omega) ⟨by simp only; omega, a4 _ _ kk3 (Nat.le_refl _), F.take j ++ (i, v, b) :: (F.take (j + 1)).drop j, ?_, ?_, by simp, fun _ => ⟨j, by simp only; omega, rfl⟩⟩
    ·have hdj : (F.take (j + 1)).drop j = [F[j]] := by rw [htk, List.drop_append_of_le_length (by rw [List.length_take]; omega), List.drop_of_length_le (by rw [List.length_take]; omega), List.nil_append]
     simp only
     rw [hdj, show F.take j ++ [(i, v, b), F[j]] = (F.take j ++ [(i, v, b)]) ++ [F[j]] by simp, flatOf_snoc, flatOf_snoc]
     exact g4
    ·simp only [List.length_append, List.length_cons, List.length_take, List.length_drop]
     omega
   ·obtain ⟨x3, m3, e4, g3, k3, a3, n3⟩ := GrA.push5 (sz := 2) (bytes := 32) (l := [.int .i64 F[j].1, F[j].2.1]) g (by omega) rfl (by omega) kk.len
    simp -implicitDefEqProofs (disch := (first | omega | (simp only [lenB] <;> omega) | fail)) only [admQ, lenB, aFill, AK.cls, implies_true, if_true, if_false, seval, -List.reduceReplicate, hr, e1, e3, hfl0, rowOf_own oM, dec_f hgt, Bool.not_false]
    refine someW_eq e4 ?_
    simp -implicitDefEqProofs (disch := (first | omega | (simp only [lenB] <;> omega) | fail)) only [admQ, lenB, aFill, AK.cls, implies_true, if_true, if_false, seval, -List.reduceReplicate]
    refine hX (j + 1, x3, false) _ _ rfl (by simp only; omega) ⟨by simp only; omega, a3 _ _ kk (Nat.le_refl _), F.take (j + 1), ?_, by simp only [List.length_take]; omega, fun _ => rfl, by simp⟩
    simp only
    rw [htk, flatOf_snoc]
    exact g3
 ·obtain rfl : j = F.length := by omega
  rw [List.take_length] at hd0 hd1
  have res : ∀ p j, lfind (F.take p ++ (i, v, b) :: F.drop p) j = if j = i then some b else lfind E j := fun p j => by
   rw [lfind_ins hF, hfw]; by_cases h : j = i <;> simp [h]
  have mem : ∀ p, ∀ e ∈ F.take p ++ (i, v, b) :: F.drop p, e ∈ E ∨ e = (i, v, b) := fun p e he => by
   rcases List.mem_append.mp he with h | h
   ·exact .inl (hFE e (List.mem_of_mem_take h))
   ·rcases List.mem_cons.mp h with h | h
    ·exact .inr h
    ·exact .inl (hFE e (List.mem_of_mem_drop h))
  cases dn with
  | true =>
   obtain ⟨p, hp, rfl⟩ := hd1 rfl
   simp -implicitDefEqProofs (disch := (first | omega | (simp only [lenB] <;> omega) | fail)) only [admQ, lenB, aFill, AK.cls, implies_true, if_true, if_false, seval, -List.reduceReplicate, hlen, Bool.not_true]
   exact ⟨K1.trans kk, _, g.low l1, (g.low l1).blk (by simp [flatOf, itC]), mem p, res p, by omega⟩
  | false =>
   obtain rfl := hd0 rfl
   obtain ⟨x3, m3, e4, g3, k3, a3, n3⟩ := GrA.push5 (sz := 2) (bytes := 32) (l := [.int .i64 i, v]) g (by omega) rfl (by omega) kk.len
   simp -implicitDefEqProofs (disch := (first | omega | (simp only [lenB] <;> omega) | fail)) only [admQ, lenB, aFill, AK.cls, implies_true, if_true, if_false, seval, -List.reduceReplicate, hlen, rowOf_own oM, Bool.not_false]
   refine someW_eq e4 ?_
   simp -implicitDefEqProofs (disch := (first | omega | (simp only [lenB] <;> omega) | fail)) only [admQ, lenB, aFill, AK.cls, implies_true, if_true, if_false, seval, -List.reduceReplicate]
   have hm := mem O.length
   have hr := res O.length
   rw [List.take_length, List.drop_length] at hm hr
   refine ⟨K1.trans (a3 _ _ kk (Nat.le_refl _)), O ++ [(i, v, b)], ?_, (g3.low l1).blk (by simp), hm, hr, by simp only [List.length_append, List.length_cons, List.length_nil]; omega⟩
   rw [flatOf_snoc]
   exact g3.low l1
end Go.Proofs.YtoegmnnecanhfaaGreatDoor
end
