/- Texts of this seat, joined (part 5 of 6): an abstract memory for Go programs, this seat's functions as abstract code, and what each of them does. -/
import Derived.Test.YtehnkcnjmfbjpaaGreatP4
set_option linter.unusedSimpArgs false
set_option linter.defProp false
section
namespace Go.Proofs.YtehnkcnjmfbjpaaGreat
open Go Go.Adm
set_option linter.unusedSimpArgs false
set_option linter.unusedVariables false
set_option maxRecDepth 100000
def lq9 := And.intro @lenB (And.intro @lowB_len (And.intro @numB_len (And.intro @nsumB_len (And.intro @numI_len (And.intro @Ent.cells_len (And.intro @Rf.cells_len (@Wr.len)))))))
theorem ans_wlast {m : Mem} {xd xc xu xw : Nat} {B V : List Nat} {v : Vl} (h : VlM m xd xc xu xw B V v) (hg : 1 ≤ v.w.g.n ∧ v.w.g.n ≤ 1000) (a : Int) (ha : 0 ≤ a ∧ a ≤ 1) : Ans Tryz.prog 52 [.ptr xw 0, .int .i64 a] m fun r m' => r = .bool (decide (v.last a)) ∧ m' = m := by
 refine ans_ret mixed ok52 ?_
 obtain ⟨Wd, Rd, Wc, Rc, bu, en, hx, rfl, rfl⟩ := h
 have hw := hx.wh
 have hb : (v.w.slot == v.w.g.n - 1 - a) = decide (v.last a) := by rw [Bool.eq_iff_iff, beq_iff_eq, decide_eq_true_iff]; rfl
 simp -implicitDefEqProofs (disch := (first | omega | (simp only [lq9] <;> omega) | fail)) only [admQ, lq9, aFill, AK.cls, implies_true, if_true, if_false, seval, -List.reduceReplicate, c52, r52, rowOf_own hw, Wr.c8, Wr.c3, Wr.len, hb]
theorem ans_wfull {m : Mem} {xd xc xu xw : Nat} {B V : List Nat} {v : Vl} (h : VlM m xd xc xu xw B V v) (hu : v.u.length ≤ 64) : Ans Tryz.prog 51 [.ptr xw 0] m fun r m' => r = .bool (decide v.full) ∧ Kept [] m m' := by
 refine ans_ret mixed ok51 ?_
 obtain ⟨Wd, Rd, Wc, Rc, bu, en, hx, rfl, rfl⟩ := h
 have hw := hx.wh
 have hb : (((v.u.countP (·.st == 0) : Nat) : Int) == 0) = decide v.full := by unfold Vl.full; rw [Bool.eq_iff_iff]; simp
 simp -implicitDefEqProofs (disch := (first | omega | (simp only [lq9] <;> omega) | fail)) only [admQ, lq9, aFill, AK.cls, implies_true, if_true, if_false, seval, -List.reduceReplicate, c51, r51, rowOf_own hw, Wr.c5, Wr.len]
 refine (ans_count hx.tb hu 0).mono ?_
 rintro _ m1 ⟨rfl, k1⟩
 simp -implicitDefEqProofs (disch := (first | omega | (simp only [lq9] <;> omega) | fail)) only [admQ, lq9, aFill, AK.cls, implies_true, if_true, if_false, seval, -List.reduceReplicate, hb]
 exact k1
theorem ans_wbehb {m : Mem} {x : AV} {f : FuncId} {cs : List AV} {e : Int} {K : AV → Mem → Prop} (hx : cellsV x = [x] ∧ x.solid = true) (h0 : e ≠ 0 → K (.int .i64 e) m) (h1 : e = 0 → Ans Tryz.prog f (x :: cs) m K) : Ans Tryz.prog 90 [x, .int .i64 e, .fn (.func f) [] cs] m K := by
 refine ans_ret mixed ok90 ?_
 by_cases he : e = 0
 ·simp -implicitDefEqProofs (disch := (first | omega | (simp only [lq9] <;> omega) | fail)) only [admQ, lq9, aFill, AK.cls, implies_true, if_true, if_false, seval, -List.reduceReplicate, c90, r90, beq_iff_eq.mpr he]
  refine (h1 he).mono ?_
  intro r m' hK
  simp -implicitDefEqProofs (disch := (first | omega | (simp only [lq9] <;> omega) | fail)) only [admQ, lq9, aFill, AK.cls, implies_true, if_true, if_false, seval, -List.reduceReplicate]
  exact hK
 ·simp -implicitDefEqProofs (disch := (first | omega | (simp only [lq9] <;> omega) | fail)) only [admQ, lq9, aFill, AK.cls, implies_true, if_true, if_false, seval, -List.reduceReplicate, c90, r90, beq_eq_false_iff_ne.mpr he]
  exact h0 he
theorem ans_wwrite1 {m : Mem} {xd xc xu xw q1 q2 : Nat} {Wd Rd Wc Rc : List Nat} {bu : Nat} {en : AV} {v : Vl} {y : AV} {b : List B8} {a : Int} (h : VlX m xd xc xu xw Wd Rd Wc Rc bu en v) (h1 : own m q1 = some [.ptr xw 0]) (h2 : own m q2 = some [.int .i64 a]) (hq : q1 ∉ Wd ∧ q2 ∉ Wd) (hy : RdB m y b) (hyW : ∀ q ∈ blkOf y, q ∉ Wd) (hl : b.length ≤ 100000) :
  Ans Tryz.prog 104 [y, .ptr q1 0, .ptr q2 0] m fun r m' => r = .int .i64 (writeE v.d a b) ∧ Kept Wd m m' ∧ ∃ R', Dsk m' xd Wd R' (writeD v.d a b) ∧ ∀ q ∈ R', q ∈ Rd ∨ m.length ≤ q := by
 refine ans_ret mixed ok104 ?_
 have hw := h.wh
 simp -implicitDefEqProofs (disch := (first | omega | (simp only [lq9] <;> omega) | fail)) only [admQ, lq9, aFill, AK.cls, implies_true, if_true, if_false, seval, -List.reduceReplicate, c104, r104, rowOf_own h1, rowOf_own hw, Wr.c0, Wr.len, rowOf_own h2]
 refine (ans_dkwrite h.dk hy hyW hl a).mono ?_
 rintro _ m1 ⟨rfl, k1, R', hd, hR⟩
 simp -implicitDefEqProofs (disch := (first | omega | (simp only [lq9] <;> omega) | fail)) only [admQ, lq9, aFill, AK.cls, implies_true, if_true, if_false, seval, -List.reduceReplicate, rowOf_own (k1.own h1 hq.1), rowOf_own (k1.own hw (fun h' => h.a3.1 (h.dk.sub _ h'))), Wr.c0, Wr.len, rowOf_own (k1.own h2 hq.2)]
 exact ⟨k1, R', hd, hR⟩
theorem ans_wwrite {m : Mem} {xd xc xu xw : Nat} {B V : List Nat} {v : Vl} (h : VlM m xd xc xu xw B V v) (k : Int) {p : List B8} {y : AV} (hy : RdB m y p) (hyB : ∀ q ∈ blkOf y, q ∉ B) (hc : cyOk v.c 990 ∧ cyTk v.c 990) (hpl : p.length ≤ 2000) :
  Ans Tryz.prog 70 [.ptr xw 0, .int .i64 k, y] m fun r m' => r = .tup [.agg (wrR v k p).cells, .int .i64 (wrE v k p)] ∧ Goes xd xc xu xw m B V (wrV v k p) m' := by
 refine ans_ret mixed ok70 ?_
 have hv := h
 obtain ⟨Wd, Rd, Wc, Rc, bu, en, hx, rfl, rfl⟩ := h
 have hw := hx.wh
 have hBl := hv.lt
 have k0 := Kept.app [] m [Blk.row [.ptr xw 0] false, .row (.int .i64 0 :: bys (List.replicate 32 0#8)) false]
 have b0 : own (m ++ [Blk.row [.ptr xw 0] false, .row (.int .i64 0 :: bys (List.replicate 32 0#8)) false]) m.length = some [.ptr xw 0] := by rw [own_app_at0]; rfl
 have z0 : own (m ++ [Blk.row [.ptr xw 0] false, .row (.int .i64 0 :: bys (List.replicate 32 0#8)) false]) (m.length + 1) = some (.int .i64 0 :: bys (List.replicate 32 0#8)) := by rw [own_app_at]; rfl
 have wA := k0.own hw (by simp)
 have hxA := hx.kept0 k0
 simp -implicitDefEqProofs (disch := (first | omega | (simp only [lq9] <;> omega) | fail)) only [admQ, lq9, aFill, AK.cls, implies_true, if_true, if_false, seval, -List.reduceReplicate, c70, r70, rowOf_own wA, rowOf_own b0, Wr.t2, Wr.t7, Wr.len]
 generalize m ++ [Blk.row [.ptr xw 0] false, .row (.int .i64 0 :: bys (List.replicate 32 0#8)) false] = A at *
 refine (ans_gat v.w.g v.w.seg v.w.slot A).mono ?_
 rintro _ m1 ⟨rfl, k1⟩
 have w1 := k1.own wA (by simp)
 have b1 := k1.own b0 (by simp)
 rw [show atG v.w.g v.w.seg v.w.slot = v.atS from rfl]
 simp -implicitDefEqProofs (disch := (first | omega | (simp only [lq9] <;> omega) | fail)) only [admQ, lq9, aFill, AK.cls, implies_true, if_true, if_false, seval, -List.reduceReplicate, rowOf_own wA, rowOf_own b0, rowOf_own w1, rowOf_own b1, Wr.t2, Wr.t7, Wr.len]
 have k2 := Kept.app [] m1 [Blk.row [.int .i64 v.atS] false]
 have a2 : own (m1 ++ [Blk.row [.int .i64 v.atS] false]) m1.length = some [.int .i64 v.atS] := by rw [own_app_at0]; rfl
 have b2 := k2.own b1 (by simp)
 have w2 := k2.own w1 (by simp)
 generalize m1 ++ [Blk.row [.int .i64 v.atS] false] = A2 at *
 have K2 := (k0.trans k1).trans k2
 have hx2 := hx.kept0 K2
 have hy2 := hy.kept0 K2
 simp -implicitDefEqProofs (disch := (first | omega | (simp only [lq9] <;> omega) | fail)) only [admQ, lq9, aFill, AK.cls, implies_true, if_true, if_false, seval, -List.reduceReplicate, rowOf_own b2, rowOf_own w2, Wr.c1, Wr.c6, Wr.c42, Wr.len, rowOf_own a2, (rd_one hy2).1, (rd_one hy2).2]
 have l1 := k1.len
 have l2 := k2.len
 have l0 := own_lt z0
 have hyc : ∀ q ∈ blkOf y, q ∉ Wc := fun q hq h1 => hyB q hq (by have := hx.cy.sub q h1; simp [vlR, this])
 refine (ans_scputS (s := v.sec k p) hx2.cy (v := y) hy2 hyc (cyOk_mono hc.1 (by omega)) (by simp only [Vl.sec]; omega)).mono ?_
 rintro _ m3 ⟨W', R', w, k3, hC3, hR3, rfl, sp, bw⟩
 have hcl : ∀ q ∈ Wc, q < m.length := fun q hq => hx.cy.lt q (hx.cy.sub q hq)
 have b3 := k3.own b2 (fun h => by have := hcl _ h; omega)
 have a3 := k3.own a2 (fun h => by have := hcl _ h; omega)
 have w3 := k3.own w2 (fun h => hx.a3.2.1 (hx.cy.sub _ h))
 simp -implicitDefEqProofs (disch := (first | omega | (simp only [lq9] <;> omega) | fail)) only [admQ, lq9, aFill, AK.cls, implies_true, if_true, if_false, seval, -List.reduceReplicate, rowOf_own b2, rowOf_own w2, Wr.c1, Wr.c6, Wr.c42, Wr.len, rowOf_own a2, rowOf_own b3, rowOf_own w3, rowOf_own a3]
 have hx3 := hx2.crypt k3 hC3 (cyT_put v.c (v.sec k p)) hR3
 have hw3 := cy_w hx2.cy hC3 (cyT_put v.c (v.sec k p)) hR3
 have z3 : own m3 (m.length + 1) = some (.int .i64 0 :: bys (List.replicate 32 0#8)) := k3.own ((k1.trans k2).own z0 (by simp)) (fun h => by have := hcl _ h; omega)
 have hdl : ∀ q ∈ Wd, q < m.length := fun q hq => hx.dk.lt q (hx.dk.sub q hq)
 have l3 := k3.len
 have K3 : Kept (vlW xw Wd Wc bu en) m m3 := K2.any.trans (k3.more (fun q hq _ => by simp [vlW, hq]))
 have fin : ∀ (M : Mem) (row : Blk) {Rd' Wc' Rc' : List Nat} {v' : Vl}, VlX M xd xc xu xw Wd Rd' Wc' Rc' bu en v' → Kept (vlW xw Wd Wc bu en) m M → (∀ q ∈ Rd', q ∈ Rd ∨ A.length ≤ q) → (∀ q ∈ Rc', q ∈ Rc ∨ A.length ≤ q) → (∀ q ∈ Wc', q ∈ Wc ∨ A.length ≤ q) → Goes xd xc xu xw m (vlR xu xw Rd Rc bu en) (vlW xw Wd Wc bu en) v' (M.set (m.length + 1) row) := by
  intro M row Rd' Wc' Rc' v' h1 h2 h3 h4 h5
  have kZ := Kept.set1 M (m.length + 1) row
  have hin : ∀ q ∈ vlR xu xw Rd' Rc' bu en, q ∈ vlR xu xw Rd Rc bu en ∨ A.length ≤ q := fun q hq => by
   simp only [vlR, List.mem_cons, List.mem_append] at hq ⊢
   rcases hq with hq | hq | hq | hq | hq | hq
   ·simp [hq]
   ·simp [hq]
   ·simp [hq]
   ·simp [hq]
   ·exact (h3 q hq).imp (fun h => by simp [h]) id
   ·exact (h4 q hq).imp (fun h => by simp [h]) id
  refine ⟨_, _, ⟨Wd, Rd', Wc', Rc', bu, en, h1.kept kZ (fun q hq h => ?_), rfl, rfl⟩, h2.write (.inr (by omega)) _, fun q hq => (hin q hq).imp id (fun h => by omega), fun q hq => ?_⟩
  ·simp only [List.mem_singleton] at h
   subst h
   rcases hin _ hq with h | h
   ·have := hBl _ h; omega
   ·omega
  ·simp only [vlW, List.mem_cons, List.mem_append] at hq ⊢
   rcases hq with hq | hq | hq | hq | hq
   ·simp [hq]
   ·simp [hq]
   ·simp [hq]
   ·simp [hq]
   ·exact (h5 q hq).imp (fun h => by simp [h]) (fun h => by omega)
 have hR3A : ∀ q ∈ R', q ∈ Rc ∨ A.length ≤ q := fun q hq => (hR3 q hq).imp id (fun h => by omega)
 have hW3A : ∀ q ∈ W', q ∈ Wc ∨ A.length ≤ q := fun q hq => (hw3 q hq).imp id (fun h => by omega)
 have hz : (.int .i64 0 :: bys (List.replicate 32 0#8) : List AV).length = 33 := by simp
 have htz : List.take 33 (.int .i64 0 :: bys (List.replicate 32 0#8) : List AV) = .int .i64 0 :: bys (List.replicate 32 0#8) := List.take_of_length_le (by simp)
 by_cases h1 : errP (v.sec k p) = 0
 ·have hok := (errP_ok _).mp h1
  have hpl2 := putL_len (c := v.c) hok
  have hp975 : (v.sec k p).p.length ≤ 975 := hok.2.2
  have hdn : m.length ∉ Wd ∧ m1.length ∉ Wd := ⟨fun h => by have := hdl _ h; omega, fun h => by have := hdl _ h; omega⟩
  have hww := ans_wwrite1 hx3 b3 a3 hdn sp.rd (fun q hq h => by have := sp.low q hq; have := hdl q h; omega) (by omega)
  refine (ans_wbehb (rd_one sp.rd) (fun h => absurd h1 h) (fun _ => hww)).mono ?_
  rintro _ m4 ⟨rfl, k4, Rd', hD4, hR4⟩
  have hx4 := hx3.disk k4 hD4 hR4
  have b4 := k4.own b3 hdn.1
  have a4 := k4.own a3 hdn.2
  have z4 := k4.own z3 (fun h => by have := hdl _ h; omega)
  have w4 := k4.own w3 (fun h => hx.a3.1 (hx.dk.sub _ h))
  have l4 := k4.len
  have K4 : Kept (vlW xw Wd Wc bu en) m m4 := K3.trans (k4.more (fun q hq _ => by simp [vlW, hq]))
  have hR4A : ∀ q ∈ Rd', q ∈ Rd ∨ A.length ≤ q := fun q hq => (hR4 q hq).imp id (fun h => by omega)
  have hby : v.by k p = putL v.c (v.sec k p) := rfl
  by_cases h2 : writeE v.d v.atS (v.by k p) = 0
  ·have hE : wrE v k p = 0 := by rw [wrE, if_neg (by simp [h1]), h2]
   rw [wrR, if_pos hE, wrV, if_neg (by simp [h1]), if_neg (by simp [h2]), hE, ← hby]
   obtain ⟨C1, hC1⟩ : ∃ c, c = ({ v.w with no := IntKind.i64.wrap (v.w.no + 1) } : Wr).cells xd xc xu (cyT v.c) en := ⟨_, rfl⟩
   obtain ⟨C2, hC2⟩ : ∃ c, c = ({ v.w with no := IntKind.i64.wrap (v.w.no + 1), slot := IntKind.i64.wrap (v.w.slot + 1) } : Wr).cells xd xc xu (cyT v.c) en := ⟨_, rfl⟩
   have s5 : splice (v.w.cells xd xc xu (cyT v.c) en) 42 [.int .i64 (IntKind.i64.wrap (v.w.no + 1))] = C1 := by rw [hC1, Wr.s42]
   have s6 : splice C1 8 [.int .i64 (IntKind.i64.wrap (v.w.slot + 1))] = C2 := by rw [hC1, hC2, Wr.s8]
   have L1 : C1.length = 43 := by rw [hC1, Wr.len]
   have L2 : C2.length = 43 := by rw [hC2, Wr.len]
   have e18 : C1[8]? = some (.int .i64 v.w.slot) := by rw [hC1]; exact Wr.c8 ..
   have e21 : C2[1]? = some (.iface (cyT v.c) (.ptr xc 0)) := by rw [hC2]; exact Wr.c1 ..
   have nb : xw ≠ m.length := by have := own_lt hw; omega
   have na : xw ≠ m1.length := by have := own_lt hw; omega
   have nz : xw ≠ m.length + 1 := by have := own_lt hw; omega
   have w5 := own_set (own_lt w4) C1
   have b5 := own_set_ne' b4 nb (.row C1 false)
   have a5 := own_set_ne' a4 na (.row C1 false)
   have z5 := own_set_ne' z4 nz (.row C1 false)
   have w6 := own_set (own_lt w5) C2
   have b6 := own_set_ne' b5 nb (.row C2 false)
   have a6 := own_set_ne' a5 na (.row C2 false)
   have z6 := own_set_ne' z5 nz (.row C2 false)
   have hm : methodD Tryz.prog (cyT v.c) "Sum" = some (cySmF (putC v.c (v.sec k p))) := by rw [← cyT_put v.c (v.sec k p)]; exact cym_sum _
   have hl975 : (v.by k p).length ≤ 100000 := by rw [hby]; omega
   simp -implicitDefEqProofs (disch := (first | omega | (simp only [lq9] <;> omega) | fail)) only [admQ, lq9, aFill, AK.cls, implies_true, if_true, if_false, seval, -List.reduceReplicate, h2, rowOf_own w4, w4, rowOf_own b4, Wr.c42, Wr.len, s5, rowOf_own w5, w5, rowOf_own b5, L1, e18, s6, rowOf_own w6, w6, rowOf_own b6, L2, e21, rowOf_own a6, opW_invoke _ hm, opDW_invoke _ hm]
   have kk6 : Kept [xw] m4 ((m4.set xw (.row C1 false)).set xw (.row C2 false)) := (Kept.set1 _ _ _).trans (.set1 _ _ _)
   generalize (m4.set xw (.row C1 false)).set xw (.row C2 false) = M6 at *
   have hx6 := hx4.writer (w' := { v.w with no := IntKind.i64.wrap (v.w.no + 1), slot := IntKind.i64.wrap (v.w.slot + 1) }) (en' := en) kk6 (fun q hq => by simp at hq; exact .inl hq) (by rw [w6, hC2]; simp only [cyT_put]) (hx4.wg.kept kk6 (fun q hq h => (hx4.a4 q hq).2.2.2.2 (by simpa using h))) (fun q hq => .inl hq)
   have l6 := kk6.len
   have K6 : Kept (vlW xw Wd Wc bu en) m M6 := K4.trans (kk6.more (fun q hq _ => by simp [vlW] at hq ⊢; simp [hq]))
   have hlow : ∀ q ∈ blkOf w, A2.length ≤ q := sp.low
   have hxl := own_lt hw
   have rw6 : RdB M6 w (v.by k p) := rdb_ap (rdb_ap sp.rd k4 (fun q hq h => by have := hlow q hq; have := hdl q h; omega)) kk6 (fun q hq h => by have := hlow q hq; simp only [List.mem_singleton] at h; omega)
   have hWl : ∀ q ∈ W', q < m.length ∨ A2.length ≤ q := fun q hq => (hR3 q (hC3.sub q hq)).imp (fun h => hx.cy.lt q h) id
   have htk : cyTk (putC v.c (v.sec k p)) 1000 := cyTk_put (cyTk_mono hc.2 (by omega)) _
   refine (ans_cysum hx6.cy rw6 (fun q hq h => (bw q hq).2 (hC3.sub q h)) htk hl975).mono ?_
   rintro _ m7 ⟨rfl, k7, hC7⟩
   have hx7 := hx6.crypt k7 hC7 (cyT_tx _ _) (fun q hq => .inl hq)
   have b7 := k7.own b6 (fun h => by have := hWl _ h; omega)
   have la2 := own_lt a2
   have a7 := k7.own a6 (fun h => by have := hWl _ h; omega)
   have z7 := k7.own z6 (fun h => by have := hWl _ h; omega)
   have w7 := k7.own w6 (fun h => hx6.a3.2.1 (hC3.sub _ h))
   have hsl := cySm_len (putC v.c (v.sec k p)) (v.by k p)
   simp -implicitDefEqProofs (disch := (first | omega | (simp only [lq9] <;> omega) | fail)) only [admQ, lq9, aFill, AK.cls, implies_true, if_true, if_false, seval, -List.reduceReplicate, rowOf_own a6, rowOf_own b6, rowOf_own w6, rowOf_own a7, rowOf_own b7, rowOf_own w7, L2, e21]
   obtain ⟨C3, hC3'⟩ : ∃ c, c = AV.int .i64 v.atS :: bys (cySm (putC v.c (v.sec k p)) (v.by k p)) := ⟨_, rfl⟩
   have hsp : splice (.int .i64 0 :: bys (List.replicate 32 0#8)) 0 (.int .i64 v.atS :: bys (cySm (putC v.c (v.sec k p)) (v.by k p))) = C3 := by rw [hC3']; simp [splice, hsl]
   have hL3 : C3.length = 33 := by rw [hC3']; simp [hsl]
   have htk3 : List.take 33 C3 = C3 := List.take_of_length_le (by omega)
   have t8 := own_set (own_lt z7) C3
   have b8 := own_set_ne' b7 (show m.length + 1 ≠ m.length by omega) (.row C3 false)
   have a8 := own_set_ne' a7 (show m.length + 1 ≠ m1.length by omega) (.row C3 false)
   have w8 := own_set_ne' w7 (show m.length + 1 ≠ xw by omega) (.row C3 false)
   simp -implicitDefEqProofs (disch := (first | omega | (simp only [lq9] <;> omega) | fail)) only [admQ, lq9, aFill, AK.cls, implies_true, if_true, if_false, seval, -List.reduceReplicate, z7, hsl, hz, hsp, rowOf_own a6, rowOf_own b6, rowOf_own w6, rowOf_own a7, rowOf_own b7, rowOf_own w7, rowOf_own a8, rowOf_own b8, rowOf_own w8, L2, e21, rowOf_own t8, hL3, htk3]
   have K7 : Kept (vlW xw Wd Wc bu en) m m7 := ⟨Nat.le_trans K6.len k7.len, fun q h3 h4 => by rw [k7.eq q (K6.lt h3) (fun h5 => ?_), K6.eq q h3 h4]; rcases hW3A q h5 with h | h; exact h4 (by simp [vlW, h]); omega⟩
   exact ⟨by rw [hC3']; rfl, fin m7 _ hx7 K7 hR4A hR3A hW3A⟩
  ·have hE : wrE v k p = writeE v.d v.atS (v.by k p) := by rw [wrE, if_neg (by simp [h1])]
   have hE2 : wrE v k p ≠ 0 := by rw [hE]; exact h2
   have t4 := own_set (own_lt z4) (.int .i64 0 :: bys (List.replicate 32 0#8))
   rw [wrR, if_neg hE2, wrV, if_neg (by simp [h1]), if_pos h2, hE, ← hby]
   simp -implicitDefEqProofs (disch := (first | omega | (simp only [lq9] <;> omega) | fail)) only [admQ, lq9, aFill, AK.cls, implies_true, if_true, if_false, seval, -List.reduceReplicate, beq_eq_false_iff_ne.mpr h2, z4, hz, rowOf_own t4, htz]
   exact ⟨rfl, fin m4 _ hx4 K4 hR4A hR3A hW3A⟩
 ·have hno : ¬ okP (v.sec k p) := fun h => h1 ((errP_ok _).mpr h)
  have hcc : putC v.c (v.sec k p) = v.c := by rw [putC, if_neg hno]
  have hE : wrE v k p = errP (v.sec k p) := by rw [wrE, if_pos h1]
  have hE2 : wrE v k p ≠ 0 := by rw [hE]; exact h1
  refine (ans_wbehb (K := fun r m' => r = .int .i64 (errP (v.sec k p)) ∧ m' = m3) (rd_one sp.rd) (fun _ => ⟨rfl, rfl⟩) (fun h => absurd h h1)).mono ?_
  rintro _ M ⟨rfl, hM⟩
  subst hM
  have t3 := own_set (own_lt z3) (.int .i64 0 :: bys (List.replicate 32 0#8))
  rw [wrR, if_neg hE2, wrV, if_pos h1, hE]
  simp -implicitDefEqProofs (disch := (first | omega | (simp only [lq9] <;> omega) | fail)) only [admQ, lq9, aFill, AK.cls, implies_true, if_true, if_false, seval, -List.reduceReplicate, beq_eq_false_iff_ne.mpr h1, z3, hz, rowOf_own t3, htz]
  rw [hcc] at hx3
  exact ⟨rfl, fin M _ hx3 K3 (fun q hq => .inl hq) hR3A hW3A⟩
end Go.Proofs.YtehnkcnjmfbjpaaGreat
end
section
namespace Go.Proofs.YtehnkcnjmfbjpaaGreat
open Go Go.Adm
set_option linter.unusedSimpArgs false
set_option linter.unusedVariables false
set_option maxRecDepth 100000
theorem Rf.all (r : Rf) : List.take 33 r.cells = r.cells := List.take_of_length_le (by rw [r.cells_len]; omega)
theorem Rf.t1 (r : Rf) : List.take 32 (List.drop 1 r.cells) = bys r.sum.1 := List.take_of_length_le (by show (bys r.sum.1).length ≤ 32; simp [r.sum.2])
theorem Rf.c0 (r : Rf) : r.cells[0]? = some (.int .i64 r.at_) := rfl
theorem Rf.sp (r : Rf) : splice (.int .i64 0 :: bys (List.replicate 32 0#8)) 0 r.cells = r.cells := by
 have := r.cells_len
 simp [splice, this]
theorem ans_wbehr {m : Mem} {r : Rf} {f : FuncId} {fs cs : List AV} {e : Int} {K : AV → Mem → Prop} (h0 : e ≠ 0 → ∀ m1, Kept [] m m1 → K (.int .i64 e) m1) (h1 : e = 0 → ∀ m1, Kept [] m m1 → Ans Tryz.prog f (fs ++ .agg r.cells :: cs) m1 K) : Ans Tryz.prog 71 [.agg r.cells, .int .i64 e, .fn (.func f) fs cs] m K := by
 refine ans_ret mixed ok71 ?_
 have k0 := Kept.app [] m [Blk.row r.cells false]
 have o0 : own (m ++ [Blk.row r.cells false]) m.length = some r.cells := by rw [own_app_at0]; rfl
 have hl := r.cells_len
 by_cases he : e = 0
 ·simp -implicitDefEqProofs (disch := (first | omega | (simp only [lq9] <;> omega) | fail)) only [admQ, lq9, aFill, AK.cls, implies_true, if_true, if_false, seval, -List.reduceReplicate, c71, r71, beq_iff_eq.mpr he, rowOf_own o0, hl, Rf.all]
  refine (h1 he _ k0).mono ?_
  intro r m' hK
  simp -implicitDefEqProofs (disch := (first | omega | (simp only [lq9] <;> omega) | fail)) only [admQ, lq9, aFill, AK.cls, implies_true, if_true, if_false, seval, -List.reduceReplicate]
  exact hK
 ·simp -implicitDefEqProofs (disch := (first | omega | (simp only [lq9] <;> omega) | fail)) only [admQ, lq9, aFill, AK.cls, implies_true, if_true, if_false, seval, -List.reduceReplicate, c71, r71, beq_eq_false_iff_ne.mpr he]
  exact h0 he _ k0
def enW (w : Wr) (s : Sm) (next : Int) : Wr := { w with prev := s, ents := [], seg := if 0 ≤ next then next else w.seg, slot := if 0 ≤ next then 0 else w.slot }
theorem ans_wend11 {m : Mem} {xd xc xu xw q1 q2 : Nat} {B V : List Nat} {v : Vl} (h : VlM m xd xc xu xw B V v) (r : Rf) {next : Int} (h1 : own m q1 = some [.ptr xw 0]) (h2 : own m q2 = some [.int .i64 next]) (hq : q1 ∉ B ∧ q2 ∉ B) :
  Ans Tryz.prog 92 [.agg r.cells, .ptr q1 0, .ptr q2 0] m fun y m' => y = .int .i64 0 ∧ Goes xd xc xu xw m B V { v with w := enW v.w r.sum next } m' := by
 refine ans_ret mixed ok92 ?_
 have hv := h
 obtain ⟨Wd, Rd, Wc, Rc, bu, en, hx, rfl, rfl⟩ := h
 have hw := hx.wh
 have k0 := Kept.app [] m [Blk.row r.cells false]
 have o0 : own (m ++ [Blk.row r.cells false]) m.length = some r.cells := by rw [own_app_at0]; rfl
 have hl := r.cells_len
 have w0 := k0.own hw (by simp)
 have b0 := k0.own h1 (by simp)
 have a0 := k0.own h2 (by simp)
 have hxB : ∀ {q : Nat}, q ∉ vlR xu xw Rd Rc bu en → xw ≠ q := fun h e => h (by simp [vlR, e])
 have hxl := own_lt hw
 have n0 : xw ≠ m.length := by omega
 have n1 := hxB hq.1
 have n2 := hxB hq.2
 obtain ⟨C1, hC1⟩ : ∃ c, c = ({ v.w with prev := r.sum } : Wr).cells xd xc xu (cyT v.c) en := ⟨_, rfl⟩
 obtain ⟨C2, hC2⟩ : ∃ c, c = ({ v.w with prev := r.sum, ents := [] } : Wr).cells xd xc xu (cyT v.c) .nils := ⟨_, rfl⟩
 have s1 : splice (v.w.cells xd xc xu (cyT v.c) en) 9 (bys r.sum.1) = C1 := by rw [hC1, Wr.s9]
 have s2 : splice C1 41 [.nils] = C2 := by rw [hC1, hC2, Wr.s41 (l := [])]
 have L1 : C1.length = 43 := by rw [hC1, Wr.len]
 have L2 : C2.length = 43 := by rw [hC2, Wr.len]
 have hs := r.sum.2
 have w1 := own_set (own_lt w0) C1
 have b1 := own_set_ne' b0 n1 (.row C1 false)
 have a1 := own_set_ne' a0 n2 (.row C1 false)
 have o1 := own_set_ne' o0 n0 (.row C1 false)
 have w2 := own_set (own_lt w1) C2
 have b2 := own_set_ne' b1 n1 (.row C2 false)
 have a2 := own_set_ne' a1 n2 (.row C2 false)
 have o2 := own_set_ne' o1 n0 (.row C2 false)
 have kk : ∀ (C : List AV), Kept [xw] m (((m ++ [Blk.row r.cells false]).set xw (.row C1 false)).set xw (.row C false)) := fun C => (k0.any.trans (.set1 _ _ _)).trans (.set1 _ _ _)
 have kk3 : ∀ (C C' : List AV), Kept [xw] m ((((m ++ [Blk.row r.cells false]).set xw (.row C1 false)).set xw (.row C false)).set xw (.row C' false)) := fun C C' => (kk C).trans (.set1 _ _ _)
 have fin : ∀ (M : Mem) (w' : Wr), Kept [xw] m M → own M xw = some (w'.cells xd xc xu (cyT v.c) .nils) → w'.ents = [] → Goes xd xc xu xw m (vlR xu xw Rd Rc bu en) (vlW xw Wd Wc bu en) { v with w := w' } M := by
  intro M w' h1 h2 h3
  have hx' := hx.writer (en' := .nils) (w' := w') h1 (fun q hq => by simp at hq; exact .inl hq) h2 (by rw [h3]; exact .nils ..) (by simp [blkOf])
  refine ⟨_, _, ⟨Wd, Rd, Wc, Rc, bu, .nils, hx', rfl, rfl⟩, h1.more (fun q hq _ => by simp only [List.mem_singleton] at hq; simp [vlW, hq]), fun q hq => ?_, fun q hq => ?_⟩
  ·left; simp only [vlR, blkOf, List.nil_append, List.mem_cons, List.mem_append] at hq ⊢
   rcases hq with hq | hq | hq | hq | hq <;> simp [hq]
  ·left; simp only [vlW, blkOf, List.nil_append, List.mem_cons, List.mem_append] at hq ⊢
   rcases hq with hq | hq | hq | hq <;> simp [hq]
 by_cases hn : next ≥ 0
 ·obtain ⟨C3, hC3⟩ : ∃ c, c = ({ v.w with prev := r.sum, ents := [], seg := next, slot := 0 } : Wr).cells xd xc xu (cyT v.c) .nils := ⟨_, rfl⟩
  have s3 : splice C2 7 [.int .i64 next, .int .i64 0] = C3 := by rw [hC2, hC3, Wr.s7]
  have w3 := own_set (own_lt w2) C3
  simp -implicitDefEqProofs (disch := (first | omega | (simp only [lq9] <;> omega) | fail)) only [admQ, lq9, aFill, AK.cls, implies_true, if_true, if_false, seval, -List.reduceReplicate, c92, r92, rowOf_own o0, rowOf_own w0, rowOf_own b0, rowOf_own a0, Rf.t1, hl, hs, w0, Wr.len, s1, rowOf_own w1, w1, rowOf_own b1, rowOf_own o1, L1, s2, rowOf_own w2, rowOf_own b2, rowOf_own a2, rowOf_own o2, dec_t hn, w2, L2, s3]
  have := fin _ (enW v.w r.sum next) (kk3 C2 C3) (by rw [w3, hC3, enW, if_pos hn, if_pos hn]) rfl
  exact this
 ·simp -implicitDefEqProofs (disch := (first | omega | (simp only [lq9] <;> omega) | fail)) only [admQ, lq9, aFill, AK.cls, implies_true, if_true, if_false, seval, -List.reduceReplicate, c92, r92, rowOf_own o0, rowOf_own w0, rowOf_own b0, rowOf_own a0, Rf.t1, hl, hs, w0, Wr.len, s1, rowOf_own w1, w1, rowOf_own b1, rowOf_own o1, L1, s2, rowOf_own w2, rowOf_own b2, rowOf_own a2, rowOf_own o2, dec_f hn]
  have := fin _ (enW v.w r.sum next) (kk C2) (by rw [w2, hC2, enW, if_neg hn, if_neg hn]) rfl
  exact this
theorem glOne {α : Type} {f : α → List AV} {sz m0 : Nat} {m : Mem} {x : AV} {l : List α} (h : GrL f sz m0 m x l) : cellsV x = [x] ∧ x.solid = true := by
 rcases h with ⟨_, rfl⟩ | ⟨b, s, _, rfl, _⟩ <;> exact ⟨rfl, rfl⟩
theorem smb1 (s : Sm) : splice (bys (List.replicate 32 0#8) ++ [.int .i64 0, .nils]) 0 (bys s.1) = bys s.1 ++ [.int .i64 0, .nils] := by
 have := s.2
 simp [splice, this]
theorem smb2 (s : Sm) (a : AV) : splice (bys s.1 ++ [.int .i64 0, .nils]) 32 [a] = bys s.1 ++ [a, .nils] := by
 have h := s.2
 rw [splice, List.take_left' (by simp [h]), List.drop_append, List.drop_of_length_le (by simp [h])]; simp [h]
theorem smb3 (s : Sm) (a b : AV) : splice (bys s.1 ++ [a, .nils]) 33 [b] = bys s.1 ++ [a, b] := by
 have h := s.2
 rw [splice, List.take_append, List.take_of_length_le (by simp [h]), List.drop_of_length_le (by simp [h])]; simp [h]
def enP (v : Vl) (p : List B8) (next : Int) : Vl := if wrE v 3 p ≠ 0 then wrV v 3 p else { wrV v 3 p with w := enW (wrV v 3 p).w (wrR v 3 p).sum next }
theorem ans_wend1 {m : Mem} {xd xc xu xw q1 q2 : Nat} {B V : List Nat} {v : Vl} (h : VlM m xd xc xu xw B V v) {next : Int} (h1 : own m q1 = some [.ptr xw 0]) (h2 : own m q2 = some [.int .i64 next]) (hq : q1 ∉ B ∧ q2 ∉ B)
  {p : List B8} {y : AV} (hy : RdB m y p) (hyB : ∀ q ∈ blkOf y, q ∉ B) (hc : cyOk v.c 990 ∧ cyTk v.c 990) (hpl : p.length ≤ 2000) :
  Ans Tryz.prog 91 [y, .ptr q1 0, .ptr q2 0] m fun r m' => r = .int .i64 (wrE v 3 p) ∧ Goes xd xc xu xw m B V (enP v p next) m' := by
 refine ans_ret mixed ok91 ?_
 simp -implicitDefEqProofs (disch := (first | omega | (simp only [lq9] <;> omega) | fail)) only [admQ, lq9, aFill, AK.cls, implies_true, if_true, if_false, seval, -List.reduceReplicate, c91, r91, rowOf_own h1]
 refine (ans_wwrite h 3 hy hyB hc hpl).mono ?_
 rintro _ m1 ⟨rfl, g1⟩
 have o1 := g1.own h.sub h1 hq.1
 have o2 := g1.own h.sub h2 hq.2
 have hl := (wrR v 3 p).cells_len
 have k2 := Kept.app [] m1 [Blk.row (wrR v 3 p).cells false]
 have r2 : own (m1 ++ [Blk.row (wrR v 3 p).cells false]) m1.length = some (wrR v 3 p).cells := by rw [own_app_at0]; rfl
 simp -implicitDefEqProofs (disch := (first | omega | (simp only [lq9] <;> omega) | fail)) only [admQ, lq9, aFill, AK.cls, implies_true, if_true, if_false, seval, -List.reduceReplicate, Rf.sp, hl, rowOf_own r2, Rf.all]
 generalize m1 ++ [Blk.row (wrR v 3 p).cells false] = A at *
 have gA := g1.more k2
 have l1 := g1.kept.len
 have l2 := k2.len
 have lq1 := own_lt h1
 have lq2 := own_lt h2
 refine (ans_wbehr (K := fun r M => r = .int .i64 (wrE v 3 p) ∧ Goes xd xc xu xw m B V (enP v p next) M) (fun he M hM => ?_) (fun he M hM => ?_)).mono ?_
 ·exact ⟨rfl, by rw [enP, if_pos he]; exact gA.more hM⟩
 ·have gM := gA.more hM
  obtain ⟨B1, V1, hv1, hk1, hb1, hw1⟩ := gM
  have nq : ∀ q, q ∉ B → q < m.length → q ∉ B1 := fun q h3 h4 h5 => (hb1 q h5).elim h3 (fun h6 => by omega)
  have q1' := (k2.trans hM).own o1 (by simp)
  have q2' := (k2.trans hM).own o2 (by simp)
  refine (ans_wend11 hv1 (wrR v 3 p) q1' q2' ⟨nq _ hq.1 lq1, nq _ hq.2 lq2⟩).mono ?_
  rintro _ M2 ⟨rfl, g2⟩
  refine ⟨by rw [he], ?_⟩
  rw [enP, if_neg (by simp [he])]
  obtain ⟨B2, V2, hv2, hk2, hb2, hw2⟩ := g2
  have lM := hk1.len
  exact ⟨B2, V2, hv2, ⟨Nat.le_trans hk1.len hk2.len, fun q h3 h4 => by rw [hk2.eq q (hk1.lt h3) (fun h5 => (hw1 q h5).elim h4 (fun h6 => by omega)), hk1.eq q h3 h4]⟩, fun q hq => (hb2 q hq).elim (hb1 q) (fun h => .inr (by omega)), fun q hq => (hw2 q hq).elim (hw1 q) (fun h => .inr (by omega))⟩
 rintro _ M ⟨rfl, gM⟩
 simp -implicitDefEqProofs (disch := (first | omega | (simp only [lq9] <;> omega) | fail)) only [admQ, lq9, aFill, AK.cls, implies_true, if_true, if_false, seval, -List.reduceReplicate]
 exact gM
theorem ans_wend {m : Mem} {xd xc xu xw : Nat} {B V : List Nat} {v : Vl} (h : VlM m xd xc xu xw B V v) (stamp : Int) (hg : 1 ≤ v.w.g.n ∧ v.w.g.n ≤ 1000) (hu : v.u.length ≤ 64) (hc : cyOk v.c 990 ∧ cyTk v.c 990) (hl : v.w.ents.length ≤ 16) :
  Ans Tryz.prog 53 [.ptr xw 0, .int .i64 stamp] m fun r m' => r = .int .i64 (enE v stamp) ∧ Goes xd xc xu xw m B V (enV v stamp) m' := by
 refine ans_ret mixed ok53 ?_
 have hpl := v.w.prev.2
 have k0 := Kept.app [] m [Blk.row [.ptr xw 0] false, .row [.int .i64 (-1)] false]
 have b0 : own (m ++ [Blk.row [.ptr xw 0] false, .row [.int .i64 (-1)] false]) m.length = some [.ptr xw 0] := by rw [own_app_at0]; rfl
 have a0 : own (m ++ [Blk.row [.ptr xw 0] false, .row [.int .i64 (-1)] false]) (m.length + 1) = some [.int .i64 (-1)] := by rw [own_app_at]; rfl
 simp -implicitDefEqProofs (disch := (first | omega | (simp only [lq9] <;> omega) | fail)) only [admQ, lq9, aFill, AK.cls, implies_true, if_true, if_false, seval, -List.reduceReplicate, c53, r53, rowOf_own b0]
 generalize m ++ [Blk.row [.ptr xw 0] false, .row [.int .i64 (-1)] false] = A at *
 have hA := h.kept0 k0
 refine (ans_wlast hA hg 0 (by omega)).mono ?_
 rintro _ M ⟨rfl, hM⟩
 subst hM
 by_cases hlast : v.last 0
 ·obtain ⟨Wd, Rd, Wc, Rc, bu, en, hx, rfl, rfl⟩ := hA
  have hw := hx.wh
  simp -implicitDefEqProofs (disch := (first | omega | (simp only [lq9] <;> omega) | fail)) only [admQ, lq9, aFill, AK.cls, implies_true, if_true, if_false, seval, -List.reduceReplicate, dec_t hlast, rowOf_own b0, rowOf_own hw, Wr.c5, Wr.c42, Wr.len]
  refine (ans_take hx.tb hu v.w.no).mono ?_
  rintro _ m1 ⟨rfl, hp⟩
  have hnb : ∀ q, m.length ≤ q → q ∉ [bu] := fun q h1 h2 => by
   simp only [List.mem_singleton] at h2
   have := h.lt bu (by simp [vlR]); omega
  have w01 := hp.kept.own hw (by simpa using hx.a3.2.2.2)
  have b01 := hp.kept.own b0 (hnb _ (by omega))
  have a01 := hp.kept.own a0 (hnb _ (by omega))
  have nx : m.length + 1 ≠ xw := by have := h.lt xw (by simp [vlR]); omega
  have w02 := own_set_ne' w01 nx (.row [.int .i64 (takeM v.w.no v.u).1] false)
  have b02 := own_set_ne' b01 (show m.length + 1 ≠ m.length by omega) (.row [.int .i64 (takeM v.w.no v.u).1] false)
  have a02 := own_set (own_lt a01) [.int .i64 (takeM v.w.no v.u).1]
  have kS := Kept.set1 m1 (m.length + 1) (.row [.int .i64 (takeM v.w.no v.u).1] false)
  have hx2 := (hx.table hp).kept kS (fun q hq h1 => by simp only [List.mem_singleton] at h1; subst h1; have := h.lt _ hq; omega)
  have KV : Kept (vlW xw Wd Wc bu en) m (m1.set (m.length + 1) (.row [.int .i64 (takeM v.w.no v.u).1] false)) := (k0.any.trans (hp.kept.more (fun q hq _ => by simp only [List.mem_singleton] at hq; simp [vlW, hq]))).fresh kS (fun q hq => by simp only [List.mem_singleton] at hq; omega)
  simp -implicitDefEqProofs (disch := (first | omega | (simp only [lq9] <;> omega) | fail)) only [admQ, lq9, aFill, AK.cls, implies_true, if_true, if_false, seval, -List.reduceReplicate, rowOf_own b0, rowOf_own hw, Wr.c5, Wr.c42, Wr.len, rowOf_own b01, rowOf_own w01, a01, rowOf_own b02, rowOf_own w02, rowOf_own a02, Wr.t9, Wr.c41, smb1, smb2, smb3, hpl, (glOne hx.wg).1, (glOne hx.wg).2]
  generalize m1.set (m.length + 1) (.row [.int .i64 (takeM v.w.no v.u).1] false) = M2 at *
  refine (ans_btput (s := ⟨stamp, v.w.prev, (takeM v.w.no v.u).1, v.w.ents⟩) hx2.wg (by simp only; omega)).mono ?_
  rintro _ n1 ⟨j1, y, rfl, ry, by1⟩
  have hS : enS v stamp = ⟨stamp, v.w.prev, (takeM v.w.no v.u).1, v.w.ents⟩ := by rw [enS, enN, if_pos hlast]
  have hU : enU v = { v with u := (takeM v.w.no v.u).2.2 } := by rw [enU, if_pos hlast]
  rw [← hS] at ry ⊢
  have w1 := j1.own w02 (by simp)
  have b1 := j1.own b02 (by simp)
  have a1 := j1.own a02 (by simp)
  simp -implicitDefEqProofs (disch := (first | omega | (simp only [lq9] <;> omega) | fail)) only [admQ, lq9, aFill, AK.cls, implies_true, if_true, if_false, seval, -List.reduceReplicate, rowOf_own b02, rowOf_own w02, rowOf_own a02, rowOf_own b1, rowOf_own w1, rowOf_own a1, Wr.t9, Wr.c41, Wr.len]
  have hv1 : VlM n1 xd xc xu xw (vlR xu xw Rd Rc bu en) (vlW xw Wd Wc bu en) (enU v) := ⟨Wd, Rd, Wc, Rc, bu, en, by rw [hU]; exact hx2.kept0 j1, rfl, rfl⟩
  have hnB : ∀ q, m.length ≤ q → q ∉ vlR xu xw Rd Rc bu en := fun q h1 h2 => by have := h.lt q h2; omega
  have hse : (enU v).c = v.c := by rw [hU]
  have hle : (smyB (enS v stamp)).length ≤ 2000 := by
   rw [smyB]; split
   ·rw [smyR_len, enS]; simp only; omega
   ·simp
  have lj := j1.len
  have lKV := KV.len
  have KN : Kept (vlW xw Wd Wc bu en) m n1 := KV.trans j1.any
  refine (ans_wbehb (K := fun r M' => r = .int .i64 (enE v stamp) ∧ Goes xd xc xu xw m (vlR xu xw Rd Rc bu en) (vlW xw Wd Wc bu en) (enV v stamp) M') (rd_one ry) (fun he => ?_) (fun he => ?_)).mono ?_
  ·refine ⟨by rw [enE, if_pos he], ?_⟩
   rw [enV, if_pos he]
   exact ⟨_, _, hv1, KN, fun q hq => .inl hq, fun q hq => .inl hq⟩
  ·refine (ans_wend1 hv1 b1 a1 ⟨hnB _ (by omega), hnB _ (by omega)⟩ ry (fun q hq => hnB q (by have := by1 q hq; omega)) (by rw [hse]; exact hc) hle).mono ?_
   rintro _ M2 ⟨rfl, g2⟩
   have hne : ¬ (smyE (enS v stamp) ≠ 0) := by simp [he]
   refine ⟨by rw [enE, if_neg hne], ?_⟩
   have hP : enP (enU v) (smyB (enS v stamp)) (takeM v.w.no v.u).1 = enV v stamp := by
    rw [enV, if_neg hne, enP]
    split
    ·rfl
    ·simp only [enW]; rw [enN, if_pos hlast]
   rw [hP] at g2
   obtain ⟨B2, V2, hv2, hk2, hb2, hw2⟩ := g2
   exact ⟨B2, V2, hv2, KN.trans hk2, fun q hq => (hb2 q hq).imp id (fun h => by omega), fun q hq => (hw2 q hq).imp id (fun h => by omega)⟩
  rintro _ M3 ⟨rfl, g3⟩
  simp -implicitDefEqProofs (disch := (first | omega | (simp only [lq9] <;> omega) | fail)) only [admQ, lq9, aFill, AK.cls, implies_true, if_true, if_false, seval, -List.reduceReplicate]
  exact g3
 ·obtain ⟨Wd, Rd, Wc, Rc, bu, en, hx, rfl, rfl⟩ := hA
  have hw := hx.wh
  simp -implicitDefEqProofs (disch := (first | omega | (simp only [lq9] <;> omega) | fail)) only [admQ, lq9, aFill, AK.cls, implies_true, if_true, if_false, seval, -List.reduceReplicate, dec_f hlast, rowOf_own b0, rowOf_own hw, rowOf_own a0, Wr.t9, Wr.c41, Wr.len, smb1, smb2, smb3, hpl, (glOne hx.wg).1, (glOne hx.wg).2]
  have KV : Kept (vlW xw Wd Wc bu en) m M := k0.any
  refine (ans_btput (s := ⟨stamp, v.w.prev, (-1), v.w.ents⟩) hx.wg (by simp only; omega)).mono ?_
  rintro _ n1 ⟨j1, y, rfl, ry, by1⟩
  have hS : enS v stamp = ⟨stamp, v.w.prev, (-1), v.w.ents⟩ := by rw [enS, enN, if_neg hlast]
  have hU : enU v = v := by rw [enU, if_neg hlast]
  rw [← hS] at ry ⊢
  have w1 := j1.own hw (by simp)
  have b1 := j1.own b0 (by simp)
  have a1 := j1.own a0 (by simp)
  simp -implicitDefEqProofs (disch := (first | omega | (simp only [lq9] <;> omega) | fail)) only [admQ, lq9, aFill, AK.cls, implies_true, if_true, if_false, seval, -List.reduceReplicate, rowOf_own b0, rowOf_own hw, rowOf_own a0, rowOf_own b1, rowOf_own w1, rowOf_own a1, Wr.t9, Wr.c41, Wr.len]
  have hv1 : VlM n1 xd xc xu xw (vlR xu xw Rd Rc bu en) (vlW xw Wd Wc bu en) (enU v) := ⟨Wd, Rd, Wc, Rc, bu, en, by rw [hU]; exact hx.kept0 j1, rfl, rfl⟩
  have hnB : ∀ q, m.length ≤ q → q ∉ vlR xu xw Rd Rc bu en := fun q h1 h2 => by have := h.lt q h2; omega
  have hse : (enU v).c = v.c := by rw [hU]
  have hle : (smyB (enS v stamp)).length ≤ 2000 := by
   rw [smyB]; split
   ·rw [smyR_len, enS]; simp only; omega
   ·simp
  have lj := j1.len
  have lKV := KV.len
  have KN : Kept (vlW xw Wd Wc bu en) m n1 := KV.trans j1.any
  refine (ans_wbehb (K := fun r M' => r = .int .i64 (enE v stamp) ∧ Goes xd xc xu xw m (vlR xu xw Rd Rc bu en) (vlW xw Wd Wc bu en) (enV v stamp) M') (rd_one ry) (fun he => ?_) (fun he => ?_)).mono ?_
  ·refine ⟨by rw [enE, if_pos he], ?_⟩
   rw [enV, if_pos he]
   exact ⟨_, _, hv1, KN, fun q hq => .inl hq, fun q hq => .inl hq⟩
  ·refine (ans_wend1 hv1 b1 a1 ⟨hnB _ (by omega), hnB _ (by omega)⟩ ry (fun q hq => hnB q (by have := by1 q hq; omega)) (by rw [hse]; exact hc) hle).mono ?_
   rintro _ M2 ⟨rfl, g2⟩
   have hne : ¬ (smyE (enS v stamp) ≠ 0) := by simp [he]
   refine ⟨by rw [enE, if_neg hne], ?_⟩
   have hP : enP (enU v) (smyB (enS v stamp)) (-1) = enV v stamp := by
    rw [enV, if_neg hne, enP]
    split
    ·rfl
    ·simp only [enW]; rw [enN, if_neg hlast]
   rw [hP] at g2
   obtain ⟨B2, V2, hv2, hk2, hb2, hw2⟩ := g2
   exact ⟨B2, V2, hv2, KN.trans hk2, fun q hq => (hb2 q hq).imp id (fun h => by omega), fun q hq => (hw2 q hq).imp id (fun h => by omega)⟩
  rintro _ M3 ⟨rfl, g3⟩
  simp -implicitDefEqProofs (disch := (first | omega | (simp only [lq9] <;> omega) | fail)) only [admQ, lq9, aFill, AK.cls, implies_true, if_true, if_false, seval, -List.reduceReplicate]
  exact g3
end Go.Proofs.YtehnkcnjmfbjpaaGreat
end
section
namespace Go.Proofs.YtehnkcnjmfbjpaaGreat
open Go Go.Adm
set_option linter.unusedSimpArgs false
set_option linter.unusedVariables false
set_option maxRecDepth 100000
structure VlOk (v : Vl) (k : Nat) : Prop where
 hg : 1 ≤ v.w.g.n ∧ v.w.g.n ≤ 1000
 hu : v.u.length ≤ 64
 hc : cyOk v.c k ∧ cyTk v.c k
 hl : v.w.ents.length ≤ 15
theorem ans_wroom {m : Mem} {xd xc xu xw : Nat} {B V : List Nat} {v : Vl} (h : VlM m xd xc xu xw B V v) (ok : VlOk v 990) : Ans Tryz.prog 69 [.ptr xw 0] m fun r m' => r = .int .i64 (rmE v) ∧ Goes xd xc xu xw m B V (rmV v) m' := by
 refine ans_ret mixed ok69 ?_
 simp -implicitDefEqProofs (disch := (first | omega | (simp only [lq9] <;> omega) | fail)) only [admQ, lq9, aFill, AK.cls, implies_true, if_true, if_false, seval, -List.reduceReplicate, c69, r69]
 refine (ans_wlast h ok.hg 0 (by omega)).mono ?_
 rintro _ M ⟨rfl, hM⟩
 subst hM
 by_cases hl : v.last 0
 ·rw [rmE, rmV, if_pos hl, if_pos hl]
  simp -implicitDefEqProofs (disch := (first | omega | (simp only [lq9] <;> omega) | fail)) only [admQ, lq9, aFill, AK.cls, implies_true, if_true, if_false, seval, -List.reduceReplicate, dec_t hl]
  have hl15 := ok.hl
  refine (ans_wend h 0 ok.hg ok.hu ok.hc (by omega)).mono ?_
  rintro _ m1 ⟨rfl, g1⟩
  simp -implicitDefEqProofs (disch := (first | omega | (simp only [lq9] <;> omega) | fail)) only [admQ, lq9, aFill, AK.cls, implies_true, if_true, if_false, seval, -List.reduceReplicate]
  exact g1
 ·rw [rmE, rmV, if_neg hl, if_neg hl]
  simp -implicitDefEqProofs (disch := (first | omega | (simp only [lq9] <;> omega) | fail)) only [admQ, lq9, aFill, AK.cls, implies_true, if_true, if_false, seval, -List.reduceReplicate, dec_f hl]
  exact h.stay (.refl _ _)
theorem ans_wlay {m : Mem} {xd xc xu xw : Nat} {B V : List Nat} {v : Vl} (h : VlM m xd xc xu xw B V v) (ok : VlOk v 990) (e : Ent) : Ans Tryz.prog 73 [.ptr xw 0, .agg e.cells] m fun r m' => r = .int .i64 (lyE v e) ∧ Goes xd xc xu xw m B V (lyV v e) m' := by
 refine ans_ret mixed ok73 ?_
 have hl15 := ok.hl
 have hv := h
 obtain ⟨Wd, Rd, Wc, Rc, bu, en, hx, rfl, rfl⟩ := h
 have hw := hx.wh
 have el := e.cells_len
 have k0 := Kept.app [] m [Blk.row e.cells false]
 have o0 : own (m ++ [Blk.row e.cells false]) m.length = some e.cells := by rw [own_app_at0]; rfl
 have w0 := k0.own hw (by simp)
 have kA := Kept.app [] m [Blk.row e.cells false, .row e.cells false]
 have oA : own (m ++ [Blk.row e.cells false, .row e.cells false]) m.length = some e.cells := by rw [own_app_at0]; rfl
 have pA : own (m ++ [Blk.row e.cells false, .row e.cells false]) (m.length + 1) = some e.cells := by rw [own_app_at]; rfl
 have wA := kA.own hw (by simp)
 have hxA := hx.kept0 kA
 have hy : GrL Ent.cells 35 0 (m ++ [Blk.row e.cells false, .row e.cells false]) (.sl (m.length + 1) 0 1 1 0) [e] := GrL.mk (l := [e]) (by simp) (.inl rfl) (by rw [pA, flatOf_one]) (by omega)
 obtain ⟨x', m', e1, g1, kk, -, lo, -⟩ := hxA.wg.pushs (bytes := 56) Ent.cells_len (by omega) hy (by simp only [List.length_cons, List.length_nil]; omega) (Nat.zero_le _)
 have lA : m.length + 2 = (m ++ [Blk.row e.cells false, .row e.cells false]).length := by simp
 simp -implicitDefEqProofs (disch := (first | omega | (simp only [lq9] <;> omega) | fail)) only [admQ, lq9, aFill, AK.cls, implies_true, if_true, if_false, seval, -List.reduceReplicate, c73, r73, rowOf_own w0, rowOf_own o0, Wr.c41, Wr.len, el, Ent.all, Ent.sp]
 generalize m ++ [Blk.row e.cells false, .row e.cells false] = A at *
 refine someW_eq e1 ?_
 have nen : ∀ q, m.length ≤ q → q ∉ blkOf en := fun q h1 h2 => by have := hx.wg.lt q h2; omega
 have o1 := kk.own oA (nen _ (by omega))
 have p1 := kk.own pA (nen _ (by omega))
 have w1 := kk.own wA (fun h => (hx.a4 _ h).2.2.2.2 rfl)
 have hxl := own_lt hw
 obtain ⟨C1, hC1⟩ : ∃ c, c = ({ v.w with ents := v.w.ents ++ [e] } : Wr).cells xd xc xu (cyT v.c) x' := ⟨_, rfl⟩
 have s1 : splice (v.w.cells xd xc xu (cyT v.c) en) 41 [x'] = C1 := by rw [hC1, Wr.s41]
 have L1 : C1.length = 43 := by rw [hC1, Wr.len]
 have e41 : C1[41]? = some x' := by rw [hC1]; exact Wr.c41 ..
 have w2 := own_set (own_lt w1) C1
 have o2 := own_set_ne' o1 (show xw ≠ m.length by omega) (.row C1 false)
 have p2 := own_set_ne' p1 (show xw ≠ m.length + 1 by omega) (.row C1 false)
 have glen := g1.len
 simp -implicitDefEqProofs (disch := (first | omega | (simp only [lq9] <;> omega) | fail)) only [admQ, lq9, aFill, AK.cls, implies_true, if_true, if_false, seval, -List.reduceReplicate, (glOne g1).1, (glOne g1).2, w1, rowOf_own w1, rowOf_own o1, own_some p1, Wr.c41, Wr.len, el, Ent.all, s1, rowOf_own w2, rowOf_own o2, own_some p2, L1, e41, glen, List.length_append]
 have kM : Kept (xw :: blkOf en) A (m'.set xw (.row C1 false)) := (kk.more (fun q hq _ => by simp [hq])).trans (.set _ _ _ (by simp))
 have lk := kk.len
 have g2 := g1.kept (Kept.set1 m' xw (.row C1 false)) (fun b hb h => by have := lo (by simp) b hb; simp only [List.mem_singleton] at h; omega)
 generalize m'.set xw (.row C1 false) = M2 at *
 have lM := kM.len
 have hx2 := hxA.writer (w' := { v.w with ents := v.w.ents ++ [e] }) (en' := x') kM (fun q hq => by simpa using hq) (by rw [w2, hC1]) g2 (fun q hq => .inr (by have := lo (by simp) q hq; omega))
 have gM : Goes xd xc xu xw m (vlR xu xw Rd Rc bu en) (vlW xw Wd Wc bu en) (lyW v e) M2 := by
  refine ⟨_, _, ⟨Wd, Rd, Wc, Rc, bu, x', hx2, rfl, rfl⟩, kA.any.trans (kM.more (fun q hq _ => ?_)), fun q hq => ?_, fun q hq => ?_⟩
  ·simp only [List.mem_cons] at hq; simp only [vlW, List.mem_cons, List.mem_append]
   rcases hq with hq | hq <;> simp [hq]
  ·simp only [vlR, List.mem_cons, List.mem_append] at hq ⊢
   rcases hq with hq | hq | hq | hq | hq | hq
   ·simp [hq]
   ·simp [hq]
   ·simp [hq]
   ·right; have := lo (by simp) q hq; omega
   ·simp [hq]
   ·simp [hq]
  ·simp only [vlW, List.mem_cons, List.mem_append] at hq ⊢
   rcases hq with hq | hq | hq | hq | hq
   ·simp [hq]
   ·simp [hq]
   ·right; have := lo (by simp) q hq; omega
   ·simp [hq]
   ·simp [hq]
 by_cases h16 : v.w.ents.length + 1 < 16
 ·rw [lyE, lyV, if_pos h16, if_pos h16]
  simp -implicitDefEqProofs (disch := (first | omega | (simp only [lq9] <;> omega) | fail)) only [admQ, lq9, aFill, AK.cls, implies_true, if_true, if_false, seval, -List.reduceReplicate, dec_t (show ((v.w.ents.length + 1 : Nat) : Int) < 16 by omega)]
  exact gM
 ·rw [lyE, lyV, if_neg h16, if_neg h16]
  simp -implicitDefEqProofs (disch := (first | omega | (simp only [lq9] <;> omega) | fail)) only [admQ, lq9, aFill, AK.cls, implies_true, if_true, if_false, seval, -List.reduceReplicate, dec_f (show ¬ ((v.w.ents.length + 1 : Nat) : Int) < 16 by omega)]
  obtain ⟨B1, V1, hv1, hk1, hb1, hw1⟩ := gM
  refine (ans_wend hv1 0 ok.hg ok.hu ok.hc (by simp only [lyW, List.length_append, List.length_cons, List.length_nil]; omega)).mono ?_
  rintro _ m4 ⟨rfl, g4⟩
  simp -implicitDefEqProofs (disch := (first | omega | (simp only [lq9] <;> omega) | fail)) only [admQ, lq9, aFill, AK.cls, implies_true, if_true, if_false, seval, -List.reduceReplicate]
  exact g4.cat hk1 hb1 hw1
theorem ans_wentry (k no : Int) (m : Mem) : Ans Tryz.prog 68 [.int .i64 k, .int .i64 no] m fun r m' => r = .int .i64 (entK k no) ∧ m' = m := by
 refine ans_ret mixed ok68 ?_
 unfold entK
 by_cases h4 : k = 4
 ·subst h4
  by_cases h1 : no ≥ 0
  ·by_cases h2 : no < 64
   ·simp -implicitDefEqProofs (disch := (first | omega | (simp only [lq9] <;> omega) | fail)) only [admQ, lq9, aFill, AK.cls, implies_true, if_true, if_false, seval, -List.reduceReplicate, c68, r68, dec_t h1, dec_t h2, show (0 : Int) ≤ no from h1, h2]
   ·simp -implicitDefEqProofs (disch := (first | omega | (simp only [lq9] <;> omega) | fail)) only [admQ, lq9, aFill, AK.cls, implies_true, if_true, if_false, seval, -List.reduceReplicate, c68, r68, dec_t h1, dec_f h2, h2]
  ·simp -implicitDefEqProofs (disch := (first | omega | (simp only [lq9] <;> omega) | fail)) only [admQ, lq9, aFill, AK.cls, implies_true, if_true, if_false, seval, -List.reduceReplicate, c68, r68, dec_f h1, show ¬ (0 : Int) ≤ no from h1]
 ·by_cases h5 : k = 5
  ·subst h5
   by_cases h1 : no ≥ 0
   ·by_cases h2 : no < 9
    ·simp -implicitDefEqProofs (disch := (first | omega | (simp only [lq9] <;> omega) | fail)) only [admQ, lq9, aFill, AK.cls, implies_true, if_true, if_false, seval, -List.reduceReplicate, c68, r68, dec_t h1, dec_t h2, show (0 : Int) ≤ no from h1, h2]
    ·simp -implicitDefEqProofs (disch := (first | omega | (simp only [lq9] <;> omega) | fail)) only [admQ, lq9, aFill, AK.cls, implies_true, if_true, if_false, seval, -List.reduceReplicate, c68, r68, dec_t h1, dec_f h2, h2]
   ·simp -implicitDefEqProofs (disch := (first | omega | (simp only [lq9] <;> omega) | fail)) only [admQ, lq9, aFill, AK.cls, implies_true, if_true, if_false, seval, -List.reduceReplicate, c68, r68, dec_f h1, show ¬ (0 : Int) ≤ no from h1]
  ·simp -implicitDefEqProofs (disch := (first | omega | (simp only [lq9] <;> omega) | fail)) only [admQ, lq9, aFill, AK.cls, implies_true, if_true, if_false, seval, -List.reduceReplicate, c68, r68, beq_eq_false_iff_ne.mpr h4, beq_eq_false_iff_ne.mpr h5, h4, h5]
theorem ans_wclose {m : Mem} {xd xc xu xw : Nat} {B V : List Nat} {v : Vl} (h : VlM m xd xc xu xw B V v) (ok : VlOk v 990) (s : Int) : Ans Tryz.prog 20 [.ptr xw 0, .int .i64 s] m fun r m' => r = .int .i64 (clE v s) ∧ Goes xd xc xu xw m B V (clV v s) m' := by
 refine ans_ret mixed ok20 ?_
 unfold clE clV
 have hl15 := ok.hl
 by_cases h1 : s < 0
 ·simp -implicitDefEqProofs (disch := (first | omega | (simp only [lq9] <;> omega) | fail)) only [admQ, lq9, aFill, AK.cls, implies_true, if_true, if_false, seval, -List.reduceReplicate, c20, r20, dec_t h1, h1, true_or]
  exact h.stay (.refl _ _)
 by_cases h2 : s > 1099511627776
 ·simp -implicitDefEqProofs (disch := (first | omega | (simp only [lq9] <;> omega) | fail)) only [admQ, lq9, aFill, AK.cls, implies_true, if_true, if_false, seval, -List.reduceReplicate, c20, r20, dec_f h1, dec_t h2, h1, show (1099511627776 : Int) < s from h2]
  exact h.stay (.refl _ _)
 have hno : ¬ (s < 0 ∨ 1099511627776 < s) := by omega
 rw [if_neg hno, if_neg hno]
 simp -implicitDefEqProofs (disch := (first | omega | (simp only [lq9] <;> omega) | fail)) only [admQ, lq9, aFill, AK.cls, implies_true, if_true, if_false, seval, -List.reduceReplicate, c20, r20, dec_f h1, dec_f h2]
 refine (ans_wfull h ok.hu).mono ?_
 rintro _ m1 ⟨rfl, k1⟩
 have hv1 := h.kept0 k1
 have fin : ∀ (M : Mem), Kept [] m M → ¬ (v.full ∧ v.last 0) → Ans Tryz.prog 53 [.ptr xw 0, .int .i64 s] M fun r m' => r = .int .i64 (enE v s) ∧ Goes xd xc xu xw m B V (enV v s) m' := fun M hM _ =>
  (ans_wend (h.kept0 hM) s ok.hg ok.hu ok.hc (by omega)).mono fun r m' ⟨h1, h2⟩ => ⟨h1, h2.up hM⟩
 by_cases hf : v.full
 ·simp -implicitDefEqProofs (disch := (first | omega | (simp only [lq9] <;> omega) | fail)) only [admQ, lq9, aFill, AK.cls, implies_true, if_true, if_false, seval, -List.reduceReplicate, dec_t hf]
  refine (ans_wlast hv1 ok.hg 0 (by omega)).mono ?_
  rintro _ M ⟨rfl, hM⟩
  subst hM
  by_cases hl : v.last 0
  ·rw [if_pos ⟨hf, hl⟩, if_pos ⟨hf, hl⟩]
   simp -implicitDefEqProofs (disch := (first | omega | (simp only [lq9] <;> omega) | fail)) only [admQ, lq9, aFill, AK.cls, implies_true, if_true, if_false, seval, -List.reduceReplicate, dec_t hl]
   exact h.stay k1
  ·rw [if_neg (fun h => hl h.2), if_neg (fun h => hl h.2)]
   simp -implicitDefEqProofs (disch := (first | omega | (simp only [lq9] <;> omega) | fail)) only [admQ, lq9, aFill, AK.cls, implies_true, if_true, if_false, seval, -List.reduceReplicate, dec_f hl]
   refine (fin _ k1 (fun h => hl h.2)).mono ?_
   rintro _ m2 ⟨rfl, g2⟩
   simp -implicitDefEqProofs (disch := (first | omega | (simp only [lq9] <;> omega) | fail)) only [admQ, lq9, aFill, AK.cls, implies_true, if_true, if_false, seval, -List.reduceReplicate]
   exact g2
 ·rw [if_neg (fun h => hf h.1), if_neg (fun h => hf h.1)]
  simp -implicitDefEqProofs (disch := (first | omega | (simp only [lq9] <;> omega) | fail)) only [admQ, lq9, aFill, AK.cls, implies_true, if_true, if_false, seval, -List.reduceReplicate, dec_f hf]
  refine (fin _ k1 (fun h => hf h.1)).mono ?_
  rintro _ m2 ⟨rfl, g2⟩
  simp -implicitDefEqProofs (disch := (first | omega | (simp only [lq9] <;> omega) | fail)) only [admQ, lq9, aFill, AK.cls, implies_true, if_true, if_false, seval, -List.reduceReplicate]
  exact g2
theorem cyOk_tx {c : CyS} {k : Nat} (h : cyOk c k) (b : List B8) : cyOk (cyTx c b) k := by cases c <;> exact h
theorem cyTk_tx {c : CyS} {k : Nat} (h : cyTk c k) (b : List B8) : cyTk (cyTx c b) (k + 1) := by
 cases c with
 | nm S T => simp only [cyTk, cyTx] at h ⊢; have := addN_len b T; omega
theorem VlOk.wr {v : Vl} {n : Nat} (h : VlOk v n) (k : Int) (p : List B8) : VlOk (wrV v k p) (n + 1) := by
 unfold wrV
 split
 ·exact ⟨h.hg, h.hu, ⟨cyOk_mono h.hc.1 (by omega), cyTk_mono h.hc.2 (by omega)⟩, h.hl⟩
 ·split
  ·exact ⟨h.hg, h.hu, ⟨cyOk_put _ h.hc.1, cyTk_mono (cyTk_put h.hc.2 _) (by omega)⟩, h.hl⟩
  ·exact ⟨h.hg, h.hu, ⟨cyOk_tx (cyOk_put _ h.hc.1) _, cyTk_tx (cyTk_put h.hc.2 _) _⟩, h.hl⟩
theorem takeM_len (n : Int) (l : List Sg) : (takeM n l).2.2.length = l.length := by
 unfold takeM
 split
 ·simp only
  rw [List.length_set]
  split
  ·split
   ·rw [List.length_set]
   ·rfl
  ·rfl
 ·rfl
theorem VlOk.enu {v : Vl} {n : Nat} (h : VlOk v n) : VlOk (enU v) n := by
 unfold enU
 split
 ·exact ⟨h.hg, by rw [takeM_len]; exact h.hu, h.hc, h.hl⟩
 ·exact h
theorem VlOk.mono {v : Vl} {n n' : Nat} (h : VlOk v n) (hn : n ≤ n') : VlOk v n' := ⟨h.hg, h.hu, ⟨cyOk_mono h.hc.1 hn, cyTk_mono h.hc.2 hn⟩, h.hl⟩
theorem VlOk.en {v : Vl} {n : Nat} (h : VlOk v n) (s : Int) : VlOk (enV v s) (n + 1) := by
 unfold enV
 split
 ·exact h.enu.mono (by omega)
 ·split
  ·exact h.enu.wr _ _
  ·have := h.enu.wr 3 (smyB (enS v s))
   exact ⟨this.hg, this.hu, this.hc, by simp⟩
theorem VlOk.rm {v : Vl} {n : Nat} (h : VlOk v n) : VlOk (rmV v) (n + 1) := by
 unfold rmV; split
 ·exact h.en 0
 ·exact h.mono (by omega)
end Go.Proofs.YtehnkcnjmfbjpaaGreat
end
section
namespace Go.Proofs.YtehnkcnjmfbjpaaGreat
open Go Go.Adm
set_option linter.unusedSimpArgs false
set_option linter.unusedVariables false
set_option maxRecDepth 100000
theorem ans_wappend1 {m : Mem} {xd xc xu xw q1 q2 q3 q4 : Nat} {B V : List Nat} {v : Vl} (h : VlM m xd xc xu xw B V v) (ok : VlOk v 990) (r : Rf) {k no s : Int} (h1 : own m q1 = some [.ptr xw 0]) (h2 : own m q2 = some [.int .i64 k]) (h3 : own m q3 = some [.int .i64 no]) (h4 : own m q4 = some [.int .i64 s]) :
  Ans Tryz.prog 72 [.agg r.cells, .ptr q1 0, .ptr q2 0, .ptr q3 0, .ptr q4 0] m fun y m' => y = .int .i64 (lyE v ⟨k, no, s, r.sum⟩) ∧ Goes xd xc xu xw m B V (lyV v ⟨k, no, s, r.sum⟩) m' := by
 refine ans_ret mixed ok72 ?_
 have k0 := Kept.app [] m [Blk.row r.cells false]
 have o0 : own (m ++ [Blk.row r.cells false]) m.length = some r.cells := by rw [own_app_at0]; rfl
 have hl := r.cells_len
 have hs := r.sum.2
 have a1 := k0.own h1 (by simp)
 have a2 := k0.own h2 (by simp)
 have a3 := k0.own h3 (by simp)
 have a4 := k0.own h4 (by simp)
 simp -implicitDefEqProofs (disch := (first | omega | (simp only [lq9] <;> omega) | fail)) only [admQ, lq9, aFill, AK.cls, implies_true, if_true, if_false, seval, -List.reduceReplicate, c72, r72, rowOf_own o0, rowOf_own a1, rowOf_own a2, rowOf_own a3, rowOf_own a4, Rf.t1, hl, hs]
 refine (ans_wlay (h.kept0 k0) ok ⟨k, no, s, r.sum⟩).mono ?_
 rintro _ m1 ⟨rfl, g1⟩
 simp -implicitDefEqProofs (disch := (first | omega | (simp only [lq9] <;> omega) | fail)) only [admQ, lq9, aFill, AK.cls, implies_true, if_true, if_false, seval, -List.reduceReplicate]
 exact g1.up k0
theorem ans_wappend {m : Mem} {xd xc xu xw : Nat} {B V : List Nat} {v : Vl} (h : VlM m xd xc xu xw B V v) (ok : VlOk v 980) (k no : Int) {p : List B8} {y : AV} (hy : RdB m y p) (hyB : ∀ q ∈ blkOf y, q ∉ B) :
  Ans Tryz.prog 36 [.ptr xw 0, .int .i64 k, .int .i64 no, y] m fun r m' => r = .tup [.agg (apR v k no p).cells, .int .i64 (apE v k no p)] ∧ Goes xd xc xu xw m B V (apV v k no p) m' := by
 refine ans_ret mixed ok36 ?_
 obtain ⟨E0, hE0⟩ : ∃ E, E = m ++ [Blk.row [.ptr xw 0] false, .row [.int .i64 no] false, .row (.int .i64 0 :: bys (List.replicate 32 0#8)) false] := ⟨_, rfl⟩
 have kE : Kept [] m E0 := by rw [hE0]; exact .app _ _ _
 have lE : E0.length = m.length + 3 := by rw [hE0]; simp
 have bE : own E0 m.length = some [.ptr xw 0] := by rw [hE0, own_app_at0]; rfl
 have nE : own E0 (m.length + 1) = some [.int .i64 no] := by rw [hE0, own_app_at]; rfl
 have zE : own E0 (m.length + 2) = some (.int .i64 0 :: bys (List.replicate 32 0#8)) := by rw [hE0, own_app_at]; rfl
 simp -implicitDefEqProofs (disch := (first | omega | (simp only [lq9] <;> omega) | fail)) only [admQ, lq9, aFill, AK.cls, implies_true, if_true, if_false, seval, -List.reduceReplicate, s36, r36, ← hE0, rowOf_own nE]
 clear hE0
 refine (ans_wentry k no E0).mono ?_
 rintro _ M ⟨rfl, hM⟩
 subst hM
 have kA := kE.more_app [Blk.row [.int .i64 (entK k no)] false]
 have lA : (M ++ [Blk.row [.int .i64 (entK k no)] false]).length = m.length + 4 := by simp [lE]
 have bA := own_app bE [Blk.row [.int .i64 (entK k no)] false]
 have nA := own_app nE [Blk.row [.int .i64 (entK k no)] false]
 have zA := own_app zE [Blk.row [.int .i64 (entK k no)] false]
 have eA : own (M ++ [Blk.row [.int .i64 (entK k no)] false]) M.length = some [.int .i64 (entK k no)] := by rw [own_app_at0]; rfl
 simp -implicitDefEqProofs (disch := (first | omega | (simp only [lq9] <;> omega) | fail)) only [admQ, lq9, aFill, AK.cls, implies_true, if_true, if_false, seval, -List.reduceReplicate]
 generalize hq3 : M.length = q3 at *
 generalize M ++ [Blk.row [.int .i64 (entK k no)] false] = A at *
 have hA := h.kept0 kA
 have hBl := h.lt
 have nB : ∀ q, m.length ≤ q → q ∉ B := fun q h1 h2 => by have := hBl q h2; omega
 have hz : (.int .i64 0 :: bys (List.replicate 32 0#8) : List AV).length = 33 := by simp
 have htz : List.take 33 (.int .i64 0 :: bys (List.replicate 32 0#8) : List AV) = .int .i64 0 :: bys (List.replicate 32 0#8) := List.take_of_length_le (by simp)
 have fin : ∀ {v' : Vl} (N : Mem) (C : List AV), Goes xd xc xu xw A B V v' N → Goes xd xc xu xw m B V v' (N.set (m.length + 2) (.row C false)) := fun N C g => g.locals kA hBl (Kept.set1 _ _ _) (fun q hq => by simp only [List.mem_singleton] at hq; omega)
 refine wp_join2 [1, 3, 4, 6, 8, 10] (fun _ : Unit => [(1, .int .i64 k), (3, y), (4, .ptr m.length 0), (6, .ptr (m.length + 1) 0), (8, .ptr (m.length + 2) 0), (10, .ptr q3 0)])
  (fun _ N => Kept [] A N ∧ ¬ (entK k no = 0 ∨ p.length > 975) ∧ ¬ (v.full ∧ (v.last 0 ∨ v.last 1 ∧ v.w.ents.length = 15))) rfl ?_ ?_
 ·have bad : ∀ (N : Mem) (er : Int), Kept [] A N → apE v k no p = er → er ≠ 0 → apV v k no p = v → own N (m.length + 2) = some (.int .i64 0 :: bys (List.replicate 32 0#8)) ∧ (AV.tup [.agg (.int .i64 0 :: bys (List.replicate 32 0#8)), .int .i64 er] = .tup [.agg (apR v k no p).cells, .int .i64 (apE v k no p)] ∧ Goes xd xc xu xw m B V (apV v k no p) (N.set (m.length + 2) (.row (.int .i64 0 :: bys (List.replicate 32 0#8)) false))) := fun N er hN he h0 hv => by
   refine ⟨hN.own zA (by simp), ?_, ?_⟩
   ·rw [he, apR, if_neg (by rw [he]; exact h0)]; rfl
   ·rw [hv]; exact fin N _ (hA.stay hN)
  by_cases hk0 : entK k no = 0
  ·obtain ⟨z1, f1, f2⟩ := bad A 1 (.refl _ _) (by rw [apE, if_pos (.inl hk0)]) (by omega) (by rw [apV, if_pos (.inl hk0)])
   have z2 := own_set (own_lt z1) (.int .i64 0 :: bys (List.replicate 32 0#8))
   simp -implicitDefEqProofs (disch := (first | omega | (simp only [lq9] <;> omega) | fail)) only [admQ, lq9, aFill, AK.cls, implies_true, if_true, if_false, seval, -List.reduceReplicate, e36_1, rowOf_own eA, beq_iff_eq.mpr hk0, zA, hz, rowOf_own z2, htz]
   refine ⟨.inr rfl, ?_⟩
   simp -implicitDefEqProofs (disch := (first | omega | (simp only [lq9] <;> omega) | fail)) only [admQ, lq9, aFill, AK.cls, implies_true, if_true, if_false, seval, -List.reduceReplicate, rowOf_own z2, htz, hz]
   exact ⟨f1, f2⟩
  by_cases hp : p.length > 975
  ·obtain ⟨z1, f1, f2⟩ := bad A 1 (.refl _ _) (by rw [apE, if_pos (.inr hp)]) (by omega) (by rw [apV, if_pos (.inr hp)])
   have z2 := own_set (own_lt z1) (.int .i64 0 :: bys (List.replicate 32 0#8))
   simp -implicitDefEqProofs (disch := (first | omega | (simp only [lq9] <;> omega) | fail)) only [admQ, lq9, aFill, AK.cls, implies_true, if_true, if_false, seval, -List.reduceReplicate, e36_1, rowOf_own eA, beq_eq_false_iff_ne.mpr hk0, hy.len, dec_t (show (p.length : Int) > 975 by omega), zA, hz, rowOf_own z2, htz]
   refine ⟨.inr rfl, ?_⟩
   simp -implicitDefEqProofs (disch := (first | omega | (simp only [lq9] <;> omega) | fail)) only [admQ, lq9, aFill, AK.cls, implies_true, if_true, if_false, seval, -List.reduceReplicate, rowOf_own z2, htz, hz]
   exact ⟨f1, f2⟩
  have hn1 : ¬ (entK k no = 0 ∨ p.length > 975) := fun h => h.elim hk0 hp
  simp -implicitDefEqProofs (disch := (first | omega | (simp only [lq9] <;> omega) | fail)) only [admQ, lq9, aFill, AK.cls, implies_true, if_true, if_false, seval, -List.reduceReplicate, e36_1, rowOf_own eA, beq_eq_false_iff_ne.mpr hk0, hy.len, dec_f (show ¬ (p.length : Int) > 975 by omega), rowOf_own bA]
  refine (ans_wfull hA ok.hu).mono ?_
  rintro _ N ⟨rfl, kN⟩
  have hN := hA.kept0 kN
  have bN := kN.own bA (by simp)
  by_cases hf : v.full
  ·simp -implicitDefEqProofs (disch := (first | omega | (simp only [lq9] <;> omega) | fail)) only [admQ, lq9, aFill, AK.cls, implies_true, if_true, if_false, seval, -List.reduceReplicate, dec_t hf, rowOf_own bN]
   refine (ans_wlast hN ok.hg 0 (by omega)).mono ?_
   rintro _ M ⟨rfl, hM⟩
   subst hM
   by_cases hl : v.last 0
   ·have hc2 : v.full ∧ (v.last 0 ∨ v.last 1 ∧ v.w.ents.length = 15) := ⟨hf, .inl hl⟩
    obtain ⟨z1, f1, f2⟩ := bad M 11 kN (by rw [apE, if_neg hn1, if_pos hc2]) (by omega) (by rw [apV, if_neg hn1, if_pos hc2])
    have z2 := own_set (own_lt z1) (.int .i64 0 :: bys (List.replicate 32 0#8))
    simp -implicitDefEqProofs (disch := (first | omega | (simp only [lq9] <;> omega) | fail)) only [admQ, lq9, aFill, AK.cls, implies_true, if_true, if_false, seval, -List.reduceReplicate, dec_t hl, z1, hz, rowOf_own z2, htz]
    refine ⟨.inr rfl, ?_⟩
    simp -implicitDefEqProofs (disch := (first | omega | (simp only [lq9] <;> omega) | fail)) only [admQ, lq9, aFill, AK.cls, implies_true, if_true, if_false, seval, -List.reduceReplicate, rowOf_own z2, htz, hz]
    exact ⟨f1, f2⟩
   ·simp -implicitDefEqProofs (disch := (first | omega | (simp only [lq9] <;> omega) | fail)) only [admQ, lq9, aFill, AK.cls, implies_true, if_true, if_false, seval, -List.reduceReplicate, dec_f hl, rowOf_own bN]
    refine (ans_wlast hN ok.hg 1 (by omega)).mono ?_
    rintro _ M2 ⟨rfl, hM⟩
    subst hM
    by_cases hl1 : v.last 1
    ·obtain ⟨Wd, Rd, Wc, Rc, bu, en, hx, hB1, hV1⟩ := hN
     have hw := hx.wh
     by_cases h15 : v.w.ents.length = 15
     ·have hc2 : v.full ∧ (v.last 0 ∨ v.last 1 ∧ v.w.ents.length = 15) := ⟨hf, .inr ⟨hl1, h15⟩⟩
      obtain ⟨z1, f1, f2⟩ := bad M2 11 kN (by rw [apE, if_neg hn1, if_pos hc2]) (by omega) (by rw [apV, if_neg hn1, if_pos hc2])
      have z2 := own_set (own_lt z1) (.int .i64 0 :: bys (List.replicate 32 0#8))
      simp -implicitDefEqProofs (disch := (first | omega | (simp only [lq9] <;> omega) | fail)) only [admQ, lq9, aFill, AK.cls, implies_true, if_true, if_false, seval, -List.reduceReplicate, dec_t hl1, rowOf_own bN, rowOf_own hw, Wr.c41, Wr.len, hx.wg.len, beq_iff_eq.mpr (show (v.w.ents.length : Int) = 15 by omega), z1, hz, rowOf_own z2, htz]
      refine ⟨.inr rfl, ?_⟩
      simp -implicitDefEqProofs (disch := (first | omega | (simp only [lq9] <;> omega) | fail)) only [admQ, lq9, aFill, AK.cls, implies_true, if_true, if_false, seval, -List.reduceReplicate, rowOf_own z2, htz, hz]
      exact ⟨f1, f2⟩
     ·simp -implicitDefEqProofs (disch := (first | omega | (simp only [lq9] <;> omega) | fail)) only [admQ, lq9, aFill, AK.cls, implies_true, if_true, if_false, seval, -List.reduceReplicate, dec_t hl1, rowOf_own bN, rowOf_own hw, Wr.c41, Wr.len, hx.wg.len, beq_eq_false_iff_ne.mpr (show ¬ (v.w.ents.length : Int) = 15 by omega)]
      exact ⟨(), rfl, kN, hn1, fun h => h.2.elim hl (fun h => h15 h.2)⟩
    ·simp -implicitDefEqProofs (disch := (first | omega | (simp only [lq9] <;> omega) | fail)) only [admQ, lq9, aFill, AK.cls, implies_true, if_true, if_false, seval, -List.reduceReplicate, dec_f hl1]
     exact ⟨(), rfl, kN, hn1, fun h => h.2.elim hl (fun h => hl1 h.1)⟩
  ·simp -implicitDefEqProofs (disch := (first | omega | (simp only [lq9] <;> omega) | fail)) only [admQ, lq9, aFill, AK.cls, implies_true, if_true, if_false, seval, -List.reduceReplicate, dec_f hf]
   exact ⟨(), rfl, kN, hn1, fun h => hf h.1⟩
 ·rintro _ N ⟨kN, hn1, hn2⟩
  have hN := hA.kept0 kN
  have bN := kN.own bA (by simp)
  have zN := kN.own zA (by simp)
  have eN := kN.own eA (by simp)
  have nN := kN.own nA (by simp)
  have lN := kN.len
  simp -implicitDefEqProofs (disch := (first | omega | (simp only [lq9] <;> omega) | fail)) only [admQ, lq9, aFill, AK.cls, implies_true, if_true, if_false, seval, -List.reduceReplicate, e36_2, rowOf_own bN]
  refine (ans_wroom hN (ok.mono (by omega))).mono ?_
  rintro _ m1 ⟨rfl, g1⟩
  have l1 := g1.kept.len
  have b1 := g1.own hN.sub bN (nB _ (by omega))
  have z1 := g1.own hN.sub zN (nB _ (by omega))
  have e1 := g1.own hN.sub eN (nB _ (by omega))
  have n1 := g1.own hN.sub nN (nB _ (by omega))
  have G1 := g1.up kN
  have bad : ∀ (M : Mem) (er : Int) (v' : Vl), Goes xd xc xu xw A B V v' M → apE v k no p = er → er ≠ 0 → apV v k no p = v' → (AV.tup [.agg (.int .i64 0 :: bys (List.replicate 32 0#8)), .int .i64 er] = .tup [.agg (apR v k no p).cells, .int .i64 (apE v k no p)] ∧ Goes xd xc xu xw m B V (apV v k no p) (M.set (m.length + 2) (.row (.int .i64 0 :: bys (List.replicate 32 0#8)) false))) := fun M er v' hg he h0 hv => by
   refine ⟨?_, ?_⟩
   ·rw [he, apR, if_neg (by rw [he]; exact h0)]; rfl
   ·rw [hv]; exact fin M _ hg
  by_cases hr : rmE v = 0
  ·have hr2 : ¬ (rmE v ≠ 0) := by simp [hr]
   obtain ⟨B1, V1, hv1, hk1, hb1, hw1⟩ := G1
   have hv1' := hv1
   obtain ⟨Wd, Rd, Wc, Rc, bu, en, hx, hB1, hV1⟩ := hv1'
   have hw := hx.wh
   have k2 := Kept.app [] m1 [Blk.row [.int .i64 (rmV v).w.slot] false]
   have s2 : own (m1 ++ [Blk.row [.int .i64 (rmV v).w.slot] false]) m1.length = some [.int .i64 (rmV v).w.slot] := by rw [own_app_at0]; rfl
   have b2 := k2.own b1 (by simp)
   have z2 := k2.own z1 (by simp)
   have e2 := k2.own e1 (by simp)
   have n2 := k2.own n1 (by simp)
   simp -implicitDefEqProofs (disch := (first | omega | (simp only [lq9] <;> omega) | fail)) only [admQ, lq9, aFill, AK.cls, implies_true, if_true, if_false, seval, -List.reduceReplicate, beq_iff_eq.mpr hr, rowOf_own b1, rowOf_own hw, Wr.c8, Wr.len, rowOf_own b2]
   have hv2 := hv1.kept0 k2
   have K2 : Kept V A (m1 ++ [Blk.row [.int .i64 (rmV v).w.slot] false]) := hk1.trans k2.any
   generalize hm2 : m1 ++ [Blk.row [.int .i64 (rmV v).w.slot] false] = m2 at *
   have l2 := k2.len
   have hyA : RdB A y p := hy.kept0 kA
   have hyl := hy.blk_lt
   have ry2 : RdB m2 y p := rdb_ap hyA K2 (fun q hq h1 => hyB q hq (h.sub q h1))
   have hyB1 : ∀ q ∈ blkOf y, q ∉ B1 := fun q hq h1 => (hb1 q h1).elim (hyB q hq) (fun h2 => by have := hyl q hq; omega)
   have ok1 := ok.rm
   refine (ans_wwrite hv2 k ry2 hyB1 ⟨cyOk_mono ok1.hc.1 (by omega), cyTk_mono ok1.hc.2 (by omega)⟩ (by have : ¬ p.length > 975 := fun h => hn1 (.inr h); omega)).mono ?_
   rintro _ m3 ⟨rfl, g3⟩
   have l3 := g3.kept.len
   have nB1 : ∀ q, m.length ≤ q → q < A.length → q ∉ B1 := fun q h1 h2 h3 => (hb1 q h3).elim (nB q h1) (fun h4 => by omega)
   have la1 := own_lt e1
   have la3 := own_lt s2
   have lm1 := k2.len
   have nS : m1.length ∉ B1 := fun h3 => by have := hv1.lt _ h3; omega
   have b3 := g3.own hv2.sub b2 (nB1 _ (by omega) (by omega))
   have z3 := g3.own hv2.sub z2 (nB1 _ (by omega) (by omega))
   have e3 := g3.own hv2.sub e2 (nB1 _ (by omega) (by omega))
   have n3 := g3.own hv2.sub n2 (nB1 _ (by omega) (by omega))
   have s3 := g3.own hv2.sub s2 nS
   have hrl := (wrR (rmV v) k p).cells_len
   have k4 := Kept.app [] m3 [Blk.row (wrR (rmV v) k p).cells false]
   have r4 : own (m3 ++ [Blk.row (wrR (rmV v) k p).cells false]) m3.length = some (wrR (rmV v) k p).cells := by rw [own_app_at0]; rfl
   simp -implicitDefEqProofs (disch := (first | omega | (simp only [lq9] <;> omega) | fail)) only [admQ, lq9, aFill, AK.cls, implies_true, if_true, if_false, seval, -List.reduceReplicate, Rf.sp, hrl, rowOf_own r4, Rf.all]
   have b4 := k4.own b3 (by simp)
   have z4 := k4.own z3 (by simp)
   have e4 := k4.own e3 (by simp)
   have n4 := k4.own n3 (by simp)
   have s4 := k4.own s3 (by simp)
   generalize m3 ++ [Blk.row (wrR (rmV v) k p).cells false] = m4 at *
   have K3 : Kept V A m3 := (Goes.cat K2 hb1 hw1 g3).kept
   obtain ⟨B3, V3, hv3, hk3, hb3, hw3⟩ := g3
   have lA2 := K2.len
   have hb3A : ∀ q ∈ B3, q ∈ B ∨ A.length ≤ q := fun q hq => (hb3 q hq).elim (hb1 q) (fun h => .inr (by omega))
   have hw3A : ∀ q ∈ V3, q ∈ V ∨ A.length ≤ q := fun q hq => (hw3 q hq).elim (hw1 q) (fun h => .inr (by omega))
   have hlt3 := hv3.lt
   refine (ans_wbehr (K := fun r M => r = .int .i64 (if wrE (rmV v) k p ≠ 0 then wrE (rmV v) k p else lyE (wrV (rmV v) k p) (apX (rmV v) k no p)) ∧ Goes xd xc xu xw A B V (if wrE (rmV v) k p ≠ 0 then wrV (rmV v) k p else lyV (wrV (rmV v) k p) (apX (rmV v) k no p)) M ∧ own M (m.length + 2) = some (.int .i64 0 :: bys (List.replicate 32 0#8)) ∧ own M m3.length = some (wrR (rmV v) k p).cells) (fun he M hM => ?_) (fun he M hM => ?_)).mono ?_
   ·rw [if_pos he, if_pos he]
    exact ⟨rfl, ⟨B3, V3, hv3.kept0 (k4.trans hM), (K3.trans k4.any).trans hM.any, hb3A, hw3A⟩, hM.own z4 (by simp), hM.own r4 (by simp)⟩
   ·rw [if_neg (by simp [he]), if_neg (by simp [he])]
    have hvM := hv3.kept0 (k4.trans hM)
    have nq : ∀ q, m.length ≤ q → q < A.length → q ∉ B3 := fun q h1 h2 h3 => (hb3A q h3).elim (nB q h1) (fun h4 => by omega)
    refine (ans_wappend1 hvM ((ok.rm.wr k p).mono (by omega)) (wrR (rmV v) k p) (hM.own b4 (by simp)) (hM.own e4 (by simp)) (hM.own n4 (by simp)) (hM.own s4 (by simp))).mono ?_
    rintro _ M2 ⟨rfl, g5⟩
    exact ⟨rfl, g5.cat ((K3.trans k4.any).trans hM.any) hb3A hw3A, g5.own hvM.sub (hM.own z4 (by simp)) (nq _ (by omega) (by omega)), g5.own hvM.sub (hM.own r4 (by simp)) (fun h => by have := hlt3 _ h; omega)⟩
   rintro _ M ⟨rfl, gM, zM, rM⟩
   have hE : apE v k no p = if wrE (rmV v) k p ≠ 0 then wrE (rmV v) k p else lyE (wrV (rmV v) k p) (apX (rmV v) k no p) := by rw [apE, if_neg hn1, if_neg hn2, if_neg hr2]
   have hV : apV v k no p = if wrE (rmV v) k p ≠ 0 then wrV (rmV v) k p else lyV (wrV (rmV v) k p) (apX (rmV v) k no p) := by rw [apV, if_neg hn1, if_neg hn2, if_neg hr2]
   rw [← hV] at gM
   rw [← hE]
   by_cases hz0 : apE v k no p = 0
   ·have t1 := own_set (own_lt zM) (wrR (rmV v) k p).cells
    have hR : apR v k no p = wrR (rmV v) k p := by rw [apR, if_pos hz0]
    rw [hR, hz0]
    simp -implicitDefEqProofs (disch := (first | omega | (simp only [lq9] <;> omega) | fail)) only [admQ, lq9, aFill, AK.cls, implies_true, if_true, if_false, seval, -List.reduceReplicate, rowOf_own rM, hrl, Rf.all, zM, Rf.sp, rowOf_own t1]
    exact fin M _ gM
   ·have t1 := own_set (own_lt zM) (.int .i64 0 :: bys (List.replicate 32 0#8))
    simp -implicitDefEqProofs (disch := (first | omega | (simp only [lq9] <;> omega) | fail)) only [admQ, lq9, aFill, AK.cls, implies_true, if_true, if_false, seval, -List.reduceReplicate, beq_eq_false_iff_ne.mpr hz0, zM, hz, rowOf_own t1, htz]
    exact bad M _ _ gM rfl hz0 rfl
  ·simp -implicitDefEqProofs (disch := (first | omega | (simp only [lq9] <;> omega) | fail)) only [admQ, lq9, aFill, AK.cls, implies_true, if_true, if_false, seval, -List.reduceReplicate, beq_eq_false_iff_ne.mpr hr, z1, hz]
   have z2 := own_set (own_lt z1) (.int .i64 0 :: bys (List.replicate 32 0#8))
   simp -implicitDefEqProofs (disch := (first | omega | (simp only [lq9] <;> omega) | fail)) only [admQ, lq9, aFill, AK.cls, implies_true, if_true, if_false, seval, -List.reduceReplicate, rowOf_own z2, hz, htz]
   exact bad m1 (rmE v) (rmV v) G1 (by rw [apE, if_neg hn1, if_neg hn2, if_pos hr]) hr (by rw [apV, if_neg hn1, if_neg hn2, if_pos hr])
end Go.Proofs.YtehnkcnjmfbjpaaGreat
end
section
namespace Go.Proofs.YtehnkcnjmfbjpaaGreat
open Go Go.Adm
set_option linter.unusedSimpArgs false
set_option linter.unusedVariables false
set_option maxRecDepth 100000
def lq10 := And.intro @lenB (And.intro @lowB_len (And.intro @numB_len (And.intro @nsumB_len (And.intro @numI_len (And.intro @Rf.cells_len (@refB_len))))))
theorem ans_wnew (xd xc xu : Nat) (t : TypeId) (g : Geo) (ep seg slot : Int) (s : Sm) (m : Mem) : Ans Tryz.prog 33 [.ptr xd 0, .iface t (.ptr xc 0), geoV g, .ptr xu 0, .int .i64 ep, .agg [.int .i64 seg, .int .i64 slot], .agg (bys s.1)] m fun r m' => Kept [] m m' ∧ ∃ x, r = .ptr x 0 ∧ m.length ≤ x ∧ own m' x = some ((⟨g, ep, seg, slot, s, [], 2⟩ : Wr).cells xd xc xu t .nils) := by
 refine ans_ret mixed ok33 ?_
 unfold geoV geoC
 have hs := s.2
 have e1 : splice (bys (List.replicate 32 0#8) ++ [.nils, .int .i64 0]) 0 (bys s.1) = bys s.1 ++ [.nils, .int .i64 0] := by simp [splice, hs]
 have e2 : splice (bys s.1 ++ [.nils, .int .i64 0]) 33 [.int .i64 2] = bys s.1 ++ [.nils, .int .i64 2] := by
  rw [splice, List.take_append, List.take_of_length_le (by simp [hs]), List.drop_of_length_le (by simp [hs])]; simp [hs]
 simp -implicitDefEqProofs (disch := (first | omega | (simp only [lq10] <;> omega) | fail)) only [admQ, lq10, aFill, AK.cls, implies_true, if_true, if_false, seval, -List.reduceReplicate, c33, r33, hs, e1, e2]
 refine ⟨.app _ _ _, m.length + 3, rfl, by omega, ?_⟩
 rw [own_app_at]; rfl
theorem ans_wnumber {m : Mem} {xd xc xu xw : Nat} {B V : List Nat} {v : Vl} (h : VlM m xd xc xu xw B V v) : Ans Tryz.prog 79 [.ptr xw 0] m fun r m' => r = .int .i64 v.w.no ∧ m' = m := by
 refine ans_ret mixed ok79 ?_
 obtain ⟨Wd, Rd, Wc, Rc, bu, en, hx, rfl, rfl⟩ := h
 simp -implicitDefEqProofs (disch := (first | omega | (simp only [lq10] <;> omega) | fail)) only [admQ, lq10, aFill, AK.cls, implies_true, if_true, if_false, seval, -List.reduceReplicate, c79, r79, rowOf_own hx.wh, Wr.c42, Wr.len]
theorem pg_at {p : Pg} {i : Nat} (hi : i < p.length) : List.take 33 (List.drop (i * 33) (flatOf Rf.cells p)) = p[i].cells ∧ i * 33 + 33 ≤ (flatOf Rf.cells p).length := ⟨flatOf_get Rf.cells_len p i hi, by rw [flatOf_length Rf.cells_len]; omega⟩
theorem refs_len8 (l : List Rf) : (l.flatMap refB).length = 40 * l.length := by
 induction l with
 | nil => rfl
 | cons e l ih => rw [List.flatMap_cons, List.length_append, ih, refB_len, List.length_cons]; omega
theorem ans_pgright (i : Int) (p : Pg) (hp : p.length = 8) (m : Mem) : Ans Tryz.prog 87 [.int .i64 i, .agg (flatOf Rf.cells p)] m fun r m' => r = .bool (decide (pgOk i p)) ∧ Kept [] m m' := by
 refine ans_ret mixed ok87 ?_
 have hl : (flatOf Rf.cells p).length = 264 := by rw [flatOf_length Rf.cells_len, hp]
 have k0 := Kept.app [] m [Blk.row (flatOf Rf.cells p) false]
 have o0 : own (m ++ [Blk.row (flatOf Rf.cells p) false]) m.length = some (flatOf Rf.cells p) := by rw [own_app_at0]; rfl
 have hta : List.take 264 (flatOf Rf.cells p) = flatOf Rf.cells p := List.take_of_length_le (by omega)
 simp -implicitDefEqProofs (disch := (first | omega | (simp only [lq10] <;> omega) | fail)) only [admQ, lq10, aFill, AK.cls, implies_true, if_true, if_false, seval, -List.reduceReplicate, c87, r87, rowOf_own o0, hl, hta]
 refine LoopW.on (fun j : Nat => [(0, .int .i64 i), (8, .agg (flatOf Rf.cells p)), (9, .int .i64 j)]) (fun j => 8 - j) (fun j M => j ≤ 8 ∧ Kept [] m M ∧ ∀ r ∈ p.take j, r ≠ Rf.zero → 3 ≤ r.at_ ∧ r.at_ < 4096) ?_ 0 _ _ rfl ⟨by omega, k0, by simp⟩
 rintro j M X ⟨hj, kk, hall⟩ hX
 by_cases hlt : j < 8
 ·obtain ⟨ht, hle⟩ := pg_at (p := p) (i := j) (by omega)
  have hmem : p[j] ∈ p := List.getElem_mem _
  have htk : p.take (j + 1) = p.take j ++ [p[j]] := by rw [List.take_add_one, List.getElem?_eq_getElem (by omega)]; rfl
  generalize p[j]'(by omega) = r at *
  have hrl := r.cells_len
  have k1 := Kept.app [] M [Blk.row r.cells false]
  have o1 : own (M ++ [Blk.row r.cells false]) M.length = some r.cells := by rw [own_app_at0]; rfl
  have hq : aEqCells (List.replicate 33 .i) r.cells Rf.zero.cells = some (r == Rf.zero) := aEq_rf r Rf.zero
  have hsp : splice Rf.zero.cells 0 r.cells = r.cells := Rf.sp r
  have K1 := kk.trans k1
  by_cases hz : r = Rf.zero
  ·simp -implicitDefEqProofs (disch := (first | omega | (simp only [lq10] <;> omega) | fail)) only [admQ, lq10, aFill, AK.cls, implies_true, if_true, if_false, seval, -List.reduceReplicate, ht, hle, hrl, hsp, rowOf_own o1, Rf.all, rf_zero, hq, beq_iff_eq.mpr hz, Rf.c0]
   exact hX (j + 1) _ _ rfl (by omega) ⟨by omega, K1, fun x hx hne => by
    rw [htk, List.mem_append, List.mem_singleton] at hx
    rcases hx with hx | rfl
    ·exact hall x hx hne
    ·exact absurd hz hne⟩
  ·have bad : (r.at_ < 3 ∨ 4096 ≤ r.at_) → decide (pgOk i p) = false := fun h => dec_f fun hok => by have := hok.1 r hmem hz; omega
   by_cases h1 : r.at_ < 3
   ·rw [bad (.inl h1)]
    simp -implicitDefEqProofs (disch := (first | omega | (simp only [lq10] <;> omega) | fail)) only [admQ, lq10, aFill, AK.cls, implies_true, if_true, if_false, seval, -List.reduceReplicate, ht, hle, hrl, hsp, rowOf_own o1, Rf.all, rf_zero, hq, beq_eq_false_iff_ne.mpr hz, Bool.not_false, Rf.c0, dec_t h1]
    exact K1
   ·by_cases h2 : r.at_ ≥ 4096
    ·rw [bad (.inr h2)]
     simp -implicitDefEqProofs (disch := (first | omega | (simp only [lq10] <;> omega) | fail)) only [admQ, lq10, aFill, AK.cls, implies_true, if_true, if_false, seval, -List.reduceReplicate, ht, hle, hrl, hsp, rowOf_own o1, Rf.all, rf_zero, hq, beq_eq_false_iff_ne.mpr hz, Bool.not_false, Rf.c0, dec_f h1, dec_t h2]
     exact K1
    ·simp -implicitDefEqProofs (disch := (first | omega | (simp only [lq10] <;> omega) | fail)) only [admQ, lq10, aFill, AK.cls, implies_true, if_true, if_false, seval, -List.reduceReplicate, ht, hle, hrl, hsp, rowOf_own o1, Rf.all, rf_zero, hq, beq_eq_false_iff_ne.mpr hz, Bool.not_false, Rf.c0, dec_f h1, dec_f h2]
     exact hX (j + 1) _ _ rfl (by omega) ⟨by omega, K1, fun x hx hne => by
      rw [htk, List.mem_append, List.mem_singleton] at hx
      rcases hx with hx | rfl
      ·exact hall x hx hne
      ·omega⟩
 ·obtain rfl : j = 8 := by omega
  rw [List.take_of_length_le (by omega)] at hall
  by_cases h1 : i ≥ 0
  ·by_cases h2 : i < 9
   ·rw [dec_t (show pgOk i p from ⟨hall, h1, h2⟩)]
    simp -implicitDefEqProofs (disch := (first | omega | (simp only [lq10] <;> omega) | fail)) only [admQ, lq10, aFill, AK.cls, implies_true, if_true, if_false, seval, -List.reduceReplicate, dec_t h1, dec_t h2]
    exact kk
   ·rw [dec_f (show ¬ pgOk i p from fun h => h2 h.2.2)]
    simp -implicitDefEqProofs (disch := (first | omega | (simp only [lq10] <;> omega) | fail)) only [admQ, lq10, aFill, AK.cls, implies_true, if_true, if_false, seval, -List.reduceReplicate, dec_t h1, dec_f h2]
    exact kk
  ·rw [dec_f (show ¬ pgOk i p from fun h => h1 h.2.1)]
   simp -implicitDefEqProofs (disch := (first | omega | (simp only [lq10] <;> omega) | fail)) only [admQ, lq10, aFill, AK.cls, implies_true, if_true, if_false, seval, -List.reduceReplicate, dec_f h1]
   exact kk
theorem ans_pgput (i : Int) (p : Pg) (hp : p.length = 8) (m : Mem) : Ans Tryz.prog 66 [.int .i64 i, .agg (flatOf Rf.cells p)] m fun r m' => Kept [] m m' ∧ ∃ w, r = .tup [w, .int .i64 (pgE i p)] ∧ RdB m' w (pgB i p) ∧ ∀ q ∈ blkOf w, m.length ≤ q := by
 refine ans_ret mixed ok66 ?_
 have hl : (flatOf Rf.cells p).length = 264 := by rw [flatOf_length Rf.cells_len, hp]
 have k0 := Kept.app [] m [Blk.row (flatOf Rf.cells p) false]
 have o0 : own (m ++ [Blk.row (flatOf Rf.cells p) false]) m.length = some (flatOf Rf.cells p) := by rw [own_app_at0]; rfl
 have hta : List.take 264 (flatOf Rf.cells p) = flatOf Rf.cells p := List.take_of_length_le (by omega)
 simp -implicitDefEqProofs (disch := (first | omega | (simp only [lq10] <;> omega) | fail)) only [admQ, lq10, aFill, AK.cls, implies_true, if_true, if_false, seval, -List.reduceReplicate, c66, r66, rowOf_own o0, hl, hta]
 generalize m ++ [Blk.row (flatOf Rf.cells p) false] = A at *
 refine (ans_pgright i p hp A).mono ?_
 rintro _ m1 ⟨rfl, k1⟩
 have K1 := k0.trans k1
 have o1 := k1.own o0 (by simp)
 by_cases hok : pgOk i p
 ·rw [pgE, pgB, if_pos hok, if_pos hok]
  simp -implicitDefEqProofs (disch := (first | omega | (simp only [lq10] <;> omega) | fail)) only [admQ, lq10, aFill, AK.cls, implies_true, if_true, if_false, seval, -List.reduceReplicate, dec_t hok, Bool.not_true]
  refine (ans_pintZ i (.nils m1) (by simp)).mono ?_
  rintro x1 m2 ⟨k2, g2⟩
  have o2 := k2.own o1 (by simp)
  simp -implicitDefEqProofs (disch := (first | omega | (simp only [lq10] <;> omega) | fail)) only [admQ, lq10, aFill, AK.cls, implies_true, if_true, if_false, seval, -List.reduceReplicate, rowOf_own o2, hl, hta]
  have K2 := K1.trans k2
  have l1 := K1.len
  have hx1 : ∀ q ∈ blkOf x1, m.length ≤ q := fun q hq => by
   obtain ⟨q5, rfl, ho5, hp5⟩ := g2
   simp only [blkOf, List.mem_singleton] at hq; omega
  refine LoopW.on (fun t : Nat × AV => [(6, t.2), (16, .agg (flatOf Rf.cells p)), (17, .int .i64 t.1)]) (fun t => 8 - t.1)
   (fun t M => t.1 ≤ 8 ∧ Kept [] m M ∧ RdB M t.2 (numI i ++ (p.take t.1).flatMap refB) ∧ ∀ q ∈ blkOf t.2, m.length ≤ q) ?_ (0, x1) _ _ rfl ⟨by omega, K2, by simpa using g2.rd, hx1⟩
  rintro ⟨j, x⟩ M X ⟨hj, kk, g, hlo⟩ hX
  simp only at hj g hlo
  by_cases hlt : j < 8
  ·obtain ⟨ht, hle⟩ := pg_at (p := p) (i := j) (by omega)
   have hsn : (p.take (j + 1)).flatMap refB = (p.take j).flatMap refB ++ refB (p[j]'(by omega)) := by
    rw [List.take_add_one, List.getElem?_eq_getElem (by omega), List.flatMap_append]; simp
   have hfl : ((p.take j).flatMap refB).length = 40 * j := by rw [refs_len8, List.length_take, Nat.min_eq_left (by omega)]
   generalize p[j]'(by omega) = r at *
   generalize (p.take j).flatMap refB = acc at *
   have hrl := r.cells_len
   have k3 := Kept.app [] M [Blk.row r.cells false]
   have o3 : own (M ++ [Blk.row r.cells false]) M.length = some r.cells := by rw [own_app_at0]; rfl
   simp -implicitDefEqProofs (disch := (first | omega | (simp only [lq10] <;> omega) | fail)) only [admQ, lq10, aFill, AK.cls, implies_true, if_true, if_false, seval, -List.reduceReplicate, ht, hle, hrl, Rf.sp, rowOf_own o3, Rf.all]
   generalize M ++ [Blk.row r.cells false] = A2 at *
   refine (ans_pref r (g.kept0 k3) (by simp only [List.length_append, numI_len]; omega)).mono ?_
   rintro y n1 ⟨j1, h1⟩
   simp -implicitDefEqProofs (disch := (first | omega | (simp only [lq10] <;> omega) | fail)) only [admQ, lq10, aFill, AK.cls, implies_true, if_true, if_false, seval, -List.reduceReplicate]
   have KK := kk.trans k3
   have lK := KK.len
   refine hX (j + 1, y) _ _ rfl (by simp only; omega) ⟨by simp only; omega, KK.trans j1, ?_, fun q hq => ?_⟩
   ·have hrd := h1.rd
    simp only
    rw [hsn, ← List.append_assoc]
    exact hrd
   ·obtain ⟨p5, rfl, ho5, hp5⟩ := h1
    simp only [blkOf, List.mem_singleton] at hq; omega
  ·obtain rfl : j = 8 := by omega
   rw [List.take_of_length_le (by omega)] at g
   simp -implicitDefEqProofs (disch := (first | omega | (simp only [lq10] <;> omega) | fail)) only [admQ, lq10, aFill, AK.cls, implies_true, if_true, if_false, seval, -List.reduceReplicate]
   exact ⟨kk, x, rfl, g, hlo⟩
 ·rw [pgE, pgB, if_neg hok, if_neg hok]
  simp -implicitDefEqProofs (disch := (first | omega | (simp only [lq10] <;> omega) | fail)) only [admQ, lq10, aFill, AK.cls, implies_true, if_true, if_false, seval, -List.reduceReplicate, dec_f hok, Bool.not_false]
  exact ⟨K1, .nils, rfl, .nils _, by simp [blkOf]⟩
end Go.Proofs.YtehnkcnjmfbjpaaGreat
end
section
namespace Go.Proofs.YtehnkcnjmfbjpaaGreat
open Go Go.Adm
set_option linter.unusedSimpArgs false
set_option linter.unusedVariables false
structure Itm where
 k : Int
 no : Int
 ref : Rf
 data : List B8
def Itm.zero : Itm := ⟨0, 0, Rf.zero, []⟩
def smT (l : List B8) : Sm := if h : l.length = 32 then ⟨l, h⟩ else Sm.zero
def rfN (t : List B8 × Bool) : Rf := if t.2 = false ∧ 40 ≤ t.1.length then ⟨intB (t.1.take 8), smT ((t.1.drop 8).take 32)⟩ else Rf.zero
def rfT (t : List B8 × Bool) : List B8 × Bool := if t.2 = false ∧ 40 ≤ t.1.length then (t.1.drop 40, false) else (t.1, true)
def blkO (p : List B8) : Option (Int × List B8) := if p.length = 40 ∧ 0 ≤ intB (p.take 8) ∧ intB (p.take 8) < 64 then some (intB (p.take 8), p.drop 8) else none
def pgR (p : List B8) : Pg := tab 8 fun j => ⟨intB ((p.drop (8 + 40 * j)).take 8), smT ((p.drop (16 + 40 * j)).take 32)⟩
def pgGE (p : List B8) : Int := if p.length < 328 then 4 else if 328 < p.length then 3 else if pgOk (intB (p.take 8)) (pgR p) then 0 else 7
def pgGI (p : List B8) : Int := if pgGE p = 0 then intB (p.take 8) else 0
open Classical in
noncomputable def whO (x : Pt) (seg slot : Int) : Option Itm :=
 if atG x.v.w.g seg slot = 0 then none
 else if getE x.v.c (kindB (peekD x.v.d (atG x.v.w.g seg slot))) (atG x.v.w.g seg slot) (peekD x.v.d (atG x.v.w.g seg slot)) ≠ 0 then none
 else if kindB (peekD x.v.d (atG x.v.w.g seg slot)) = 4 then
  (blkO (getS x.v.c 4 (atG x.v.w.g seg slot) (peekD x.v.d (atG x.v.w.g seg slot))).p).map fun q => ⟨4, q.1, ⟨atG x.v.w.g seg slot, smOf x.v.c (peekD x.v.d (atG x.v.w.g seg slot))⟩, q.2⟩
 else if kindB (peekD x.v.d (atG x.v.w.g seg slot)) = 5 ∧ pgGE (getS x.v.c 5 (atG x.v.w.g seg slot) (peekD x.v.d (atG x.v.w.g seg slot))).p = 0 then
  some ⟨5, pgGI (getS x.v.c 5 (atG x.v.w.g seg slot) (peekD x.v.d (atG x.v.w.g seg slot))).p, ⟨atG x.v.w.g seg slot, smOf x.v.c (peekD x.v.d (atG x.v.w.g seg slot))⟩, []⟩
 else none
def whT (x : Pt) (seg slot : Int) : Pt :=
 if atG x.v.w.g seg slot = 0 then x else ⟨{ x.v with d := readD x.v.d (atG x.v.w.g seg slot), c := cyTx x.v.c (peekD x.v.d (atG x.v.w.g seg slot)) }, x.t⟩
def isB (t : Tr) (i : Itm) : Bool :=
 if i.k = 4 then !(t.at i.no == Rf.zero) && (t.at i.no == i.ref)
 else if i.k = 5 then t.nodeB i.no && (t.nodeR i.no == i.ref) && !(t.nodeR i.no == Rf.zero)
 else false
def cntL (g : Geo) (l : List Rf) : List Int := (List.range g.s.toNat).map fun s : Nat => ((l.filter fun r => decide (plB g r.at_ ∧ (plG g r.at_).1 = (s : Int))).length : Int)
end Go.Proofs.YtehnkcnjmfbjpaaGreat
end
section
namespace Go.Proofs.YtehnkcnjmfbjpaaGreat
open Go Go.Adm
set_option linter.unusedSimpArgs false
set_option linter.unusedVariables false
set_option maxRecDepth 100000
def RdrP (m : Mem) (r p : Nat) (l : List B8) (bad : Bool) : Prop := ∃ o cap sl B, own m r = some [.sl p o l.length cap sl, .bool bad] ∧ own m p = some B ∧ RdB m (.sl p o l.length cap sl) l ∧ p ≠ r
theorem RdrP.two {m : Mem} {r p : Nat} {l : List B8} {bad : Bool} (h : RdrP m r p l bad) : Rdr2 m r l bad := ⟨p, h⟩
theorem RdrP.kept {m m' : Mem} {X : List Nat} {r p : Nat} {l : List B8} {bad : Bool} (h : RdrP m r p l bad) (hk : Kept X m m') (hr : r ∉ X) (hp : p ∉ X) : RdrP m' r p l bad := by
 obtain ⟨o, cap, sl, B, h1, h2, h3, h4⟩ := h
 exact ⟨o, cap, sl, B, hk.own h1 hr, hk.own h2 hp, h3.kept hk (fun b o n cap s e => by cases e; exact hp), h4⟩
theorem ans_pdigest {m : Mem} {x : AV} {l : List B8} (hx : RdB m x l) (hl : l.length = 32) : Ans Tryz.prog 118 [x] m fun r m' => r = .agg (bys l) ∧ Kept [] m m' := by
 refine ans_ret mixed ok118 ?_
 obtain ⟨b, o, cap, sl, cc, rfl, hrow, hat, hlen, hcap, hsl, htk⟩ := hx.cons (i := 0) (by omega)
 have k0 := Kept.app [] m [Blk.row (bys (List.replicate 32 0#8)) false]
 have o0 : own (m ++ [Blk.row (bys (List.replicate 32 0#8)) false]) m.length = some (bys (List.replicate 32 0#8)) := by rw [own_app_at0]; rfl
 have hA := k0.row hrow (by simp)
 rw [hl] at htk hlen hcap
 have hsp : splice (bys (List.replicate 32 0#8)) 0 (bys l) = bys l := splice_whole (by rw [hl]; rfl)
 have hz : (bys (List.replicate 32 0#8)).length = 32 := by simp
 have hbl : (bys l).length = 32 := by rw [bys_len, hl]
 have htk2 : List.take 32 (bys l) = bys l := List.take_of_length_le (by omega)
 have t0 := own_set (own_lt o0) (bys l)
 simp -implicitDefEqProofs (disch := (first | omega | (simp only [lq10] <;> omega) | fail)) only [admQ, lq10, aFill, AK.cls, implies_true, if_true, if_false, seval, -List.reduceReplicate, c118, r118, hl, hA, htk, hlen, o0, hz, hsp, hbl, rowOf_own t0, htk2]
 exact .app _ _ _
theorem ans_prefof {m : Mem} {x : AV} {l : List B8} (hx : RdB m x l) (hl : l.length = 40) : Ans Tryz.prog 110 [x] m fun r m' => r = .agg (rfN (l, false)).cells ∧ Kept [] m m' := by
 refine ans_ret mixed ok110 ?_
 obtain ⟨b, o, cap, sl, cc, rfl, hrow, hat, hlen, hcap, hsl, htk⟩ := hx.cons (i := 0) (by omega)
 have k0 := Kept.app [] m [Blk.row (.int .i64 0 :: bys (List.replicate 32 0#8)) false]
 have o0 : own (m ++ [Blk.row (.int .i64 0 :: bys (List.replicate 32 0#8)) false]) m.length = some (.int .i64 0 :: bys (List.replicate 32 0#8)) := by rw [own_app_at0]; rfl
 have hxA := hx.kept0 k0
 simp -implicitDefEqProofs (disch := (first | omega | (simp only [lq10] <;> omega) | fail)) only [admQ, lq10, aFill, AK.cls, implies_true, if_true, if_false, seval, -List.reduceReplicate, c110, r110]
 generalize m ++ [Blk.row (.int .i64 0 :: bys (List.replicate 32 0#8)) false] = A at *
 refine (ans_pnumber (hxA.take (k := 8) (by omega)) (by simp; omega)).mono ?_
 rintro _ M ⟨rfl, hM⟩
 subst hM
 have hd8 := hxA.drop (k := 8) (by omega)
 simp -implicitDefEqProofs (disch := (first | omega | (simp only [lq10] <;> omega) | fail)) only [admQ, lq10, aFill, AK.cls, implies_true, if_true, if_false, seval, -List.reduceReplicate, hl]
 rw [hl] at hd8
 refine (ans_pdigest hd8 (by simp; omega)).mono ?_
 rintro _ m2 ⟨rfl, k2⟩
 have o2 := k2.own o0 (by simp)
 have hl32 : (l.drop 8).length = 32 := by simp; omega
 have hS : smT (List.take 32 (l.drop 8)) = ⟨l.drop 8, hl32⟩ := by
  rw [List.take_of_length_le (by omega), smT, dif_pos hl32]
 have hR : rfN (l, false) = ⟨intB (l.take 8), ⟨l.drop 8, hl32⟩⟩ := by
  rw [rfN, if_pos ⟨rfl, by simp only; omega⟩]
  simp only [hS]
 rw [hR]
 have hsp : splice (.int .i64 0 :: bys (List.replicate 32 0#8)) 0 (.int .i64 (intB (l.take 8)) :: bys (l.drop 8)) = .int .i64 (intB (l.take 8)) :: bys (l.drop 8) := by
  have : l.length - 8 = 32 := by omega
  simp [splice, this]
 have hcl : (AV.int .i64 (intB (l.take 8)) :: bys (l.drop 8)).length = 33 := by rw [List.length_cons, bys_len, hl32]
 have htk3 : List.take 33 (AV.int .i64 (intB (l.take 8)) :: bys (l.drop 8)) = AV.int .i64 (intB (l.take 8)) :: bys (l.drop 8) := List.take_of_length_le (by omega)
 have t2 := own_set (own_lt o2) (AV.int .i64 (intB (l.take 8)) :: bys (l.drop 8))
 simp -implicitDefEqProofs (disch := (first | omega | (simp only [lq10] <;> omega) | fail)) only [admQ, lq10, aFill, AK.cls, implies_true, if_true, if_false, seval, -List.reduceReplicate, hl32, o2, hsp, hcl, rowOf_own t2, htk3]
 exact ⟨rfl, (k0.trans k2).write (.inr (Nat.le_refl _)) _⟩
theorem ans_ptaker {m : Mem} {r p : Nat} {l : List B8} {bad : Bool} (h : RdrP m r p l bad) (hb : l.length ≤ 1000000000) : Ans Tryz.prog 109 [.ptr r 0, .int .i64 40, .fn (.func 110) [] []] m fun v m' => v = .agg (rfN (l, bad)).cells ∧ Kept [r] m m' ∧ RdrP m' r p (rfT (l, bad)).1 (rfT (l, bad)).2 := by
 refine ans_ret mixed ok109 ?_
 obtain ⟨o, cap, sl, B, h1, h2, h3, h4⟩ := h
 have k0 := Kept.app [] m [Blk.row (.int .i64 0 :: bys (List.replicate 32 0#8)) false]
 have o0 : own (m ++ [Blk.row (.int .i64 0 :: bys (List.replicate 32 0#8)) false]) m.length = some (.int .i64 0 :: bys (List.replicate 32 0#8)) := by rw [own_app_at0]; rfl
 have g1 := k0.own h1 (by simp)
 have g2 := k0.own h2 (by simp)
 have g3 := h3.kept0 k0
 have hrl := own_lt h1
 by_cases hok : bad = false ∧ 40 ≤ l.length
 ·obtain ⟨rfl, hl⟩ := hok
  obtain ⟨_, _, _, _, cc, e, hrow, hat, hlen, hcap, hsl, htk⟩ := h3.cons (i := 0) (by omega)
  cases e
  have g1' := own_set (own_lt g1) [AV.sl p (o + 40) (l.length - 40) (cap - 40) sl, .bool false]
  have o1 := own_set_ne' o0 (show r ≠ m.length by omega) (.row [AV.sl p (o + 40) (l.length - 40) (cap - 40) sl, .bool false] false)
  have kX := Kept.set1 (m ++ [Blk.row (.int .i64 0 :: bys (List.replicate 32 0#8)) false]) r (.row [AV.sl p (o + 40) (l.length - 40) (cap - 40) sl, .bool false] false)
  simp -implicitDefEqProofs (disch := (first | omega | (simp only [lq10] <;> omega) | fail)) only [admQ, lq10, aFill, AK.cls, implies_true, if_true, if_false, seval, -List.reduceReplicate, c109, r109, rowOf_own g1, g1, rowOf_own g1']
  generalize m ++ [Blk.row (.int .i64 0 :: bys (List.replicate 32 0#8)) false] = A at *
  have h38 := g3.kept kX (fun b o n cap s e => by cases e; simpa using h4)
  have i2 := kX.own g2 (by simpa using h4)
  generalize A.set r (.row [AV.sl p (o + 40) (l.length - 40) (cap - 40) sl, .bool false] false) = A1 at *
  refine (ans_prefof (h38.take (k := 40) hl) (by simp; omega)).mono ?_
  rintro _ m2 ⟨rfl, k2⟩
  have hN : rfN (List.take 40 l, false) = rfN (l, false) := by
   rw [rfN, rfN, if_pos ⟨rfl, by simp; omega⟩, if_pos ⟨rfl, hl⟩]
   simp only [List.take_take, List.drop_take, Nat.min_def]
   simp
  rw [hN]
  have o2 := k2.own o1 (by simp)
  have hcl := (rfN (l, false)).cells_len
  have hsp := (rfN (l, false)).sp
  have t2 := own_set (own_lt o2) (rfN (l, false)).cells
  simp -implicitDefEqProofs (disch := (first | omega | (simp only [lq10] <;> omega) | fail)) only [admQ, lq10, aFill, AK.cls, implies_true, if_true, if_false, seval, -List.reduceReplicate, o2, hcl, hsp, rowOf_own t2, Rf.all]
  have kF : Kept [r] m (m2.set m.length (.row (rfN (l, false)).cells false)) := ((k0.any.trans kX).trans k2.any).write (.inr (Nat.le_refl _)) _
  have kZ := Kept.set1 m2 m.length (.row (rfN (l, false)).cells false)
  have hpl := own_lt h2
  have hdr := ((h38.drop (k := 40) hl).kept0 k2).kept kZ (fun b o n cap s e => by cases e; simp; omega)
  rw [rfT, if_pos ⟨rfl, hl⟩]
  have hld : (l.drop 40).length = l.length - 40 := by simp
  refine ⟨kF, o + 40, cap - 40, sl, B, ?_, kZ.own (k2.own i2 (by simp)) (by simp; omega), ?_, h4⟩
  ·rw [hld]; exact kZ.own (k2.own g1' (by simp)) (by simp; omega)
  ·rw [hld]; exact hdr
 ·rw [rfN, rfT, if_neg hok, if_neg hok]
  have g1' := own_set (own_lt g1) [AV.sl p o l.length cap sl, .bool true]
  have o1 := own_set_ne' o0 (show r ≠ m.length by omega) (.row [AV.sl p o l.length cap sl, .bool true] false)
  have kX := Kept.set1 (m ++ [Blk.row (.int .i64 0 :: bys (List.replicate 32 0#8)) false]) r (.row [AV.sl p o l.length cap sl, .bool true] false)
  have lA1 : ((m ++ [Blk.row (.int .i64 0 :: bys (List.replicate 32 0#8)) false]).set r (.row [AV.sl p o l.length cap sl, .bool true] false)).length = m.length + 1 := by simp
  have q1 : own ((m ++ [Blk.row (.int .i64 0 :: bys (List.replicate 32 0#8)) false]).set r (.row [AV.sl p o l.length cap sl, .bool true] false) ++ [Blk.row (.int .i64 0 :: bys (List.replicate 32 0#8)) false]) (m.length + 1) = some (.int .i64 0 :: bys (List.replicate 32 0#8)) := by rw [← lA1, own_app_at0]; rfl
  have kB := Kept.app [] ((m ++ [Blk.row (.int .i64 0 :: bys (List.replicate 32 0#8)) false]).set r (.row [AV.sl p o l.length cap sl, .bool true] false)) [Blk.row (.int .i64 0 :: bys (List.replicate 32 0#8)) false]
  have o1' := kB.own o1 (by simp)
  have g1'' := kB.own g1' (by simp)
  have i2 := kB.own (kX.own g2 (by simpa using h4)) (by simp)
  have h38 := (g3.kept kX (fun b o n cap s e => by cases e; simpa using h4)).kept0 kB
  have hz : (.int .i64 0 :: bys (List.replicate 32 0#8) : List AV).length = 33 := by simp
  have htz : List.take 33 (.int .i64 0 :: bys (List.replicate 32 0#8) : List AV) = .int .i64 0 :: bys (List.replicate 32 0#8) := List.take_of_length_le (by simp)
  have hsp := Rf.zero.sp
  rw [show Rf.zero.cells = .int .i64 0 :: bys (List.replicate 32 0#8) from rfl] at hsp
  have kAll : Kept [r] m ((m ++ [Blk.row (.int .i64 0 :: bys (List.replicate 32 0#8)) false]).set r (.row [AV.sl p o l.length cap sl, .bool true] false) ++ [Blk.row (.int .i64 0 :: bys (List.replicate 32 0#8)) false]) := (k0.any.trans kX).trans kB.any
  have t1 := own_set (own_lt o1') (.int .i64 0 :: bys (List.replicate 32 0#8))
  have hpl := own_lt h2
  have fin : ∀ M, M = (m ++ [Blk.row (.int .i64 0 :: bys (List.replicate 32 0#8)) false]).set r (.row [AV.sl p o l.length cap sl, .bool true] false) ++ [Blk.row (.int .i64 0 :: bys (List.replicate 32 0#8)) false] → Kept [r] m (M.set m.length (.row (.int .i64 0 :: bys (List.replicate 32 0#8)) false)) ∧ RdrP (M.set m.length (.row (.int .i64 0 :: bys (List.replicate 32 0#8)) false)) r p l true := by
   rintro _ rfl
   have kZ := Kept.set1 ((m ++ [Blk.row (.int .i64 0 :: bys (List.replicate 32 0#8)) false]).set r (.row [AV.sl p o l.length cap sl, .bool true] false) ++ [Blk.row (.int .i64 0 :: bys (List.replicate 32 0#8)) false]) m.length (.row (.int .i64 0 :: bys (List.replicate 32 0#8)) false)
   exact ⟨kAll.write (.inr (Nat.le_refl _)) _, o, cap, sl, B, kZ.own g1'' (by simp; omega), kZ.own i2 (by simp; omega), h38.kept kZ (fun b o n cap s e => by cases e; simp; omega), h4⟩
  have fin2 := fin _ rfl
  clear fin
  have hcut : bad = true ∨ (bad = false ∧ (l.length : Int) < 40) := by
   cases bad
   ·right; refine ⟨rfl, ?_⟩; have : ¬ 40 ≤ l.length := fun h => hok ⟨rfl, h⟩; omega
   ·exact .inl rfl
  rcases hcut with rfl | ⟨rfl, hlt⟩
  ·simp -implicitDefEqProofs (disch := (first | omega | (simp only [lq10] <;> omega) | fail)) only [admQ, lq10, aFill, AK.cls, implies_true, if_true, if_false, seval, -List.reduceReplicate, c109, r109, rowOf_own g1, g1, rowOf_own q1, hz, htz, o1', hsp, rowOf_own t1]
   exact ⟨rfl, fin2⟩
  ·simp -implicitDefEqProofs (disch := (first | omega | (simp only [lq10] <;> omega) | fail)) only [admQ, lq10, aFill, AK.cls, implies_true, if_true, if_false, seval, -List.reduceReplicate, c109, r109, rowOf_own g1, g1, dec_t hlt, rowOf_own q1, hz, htz, o1', hsp, rowOf_own t1]
   exact ⟨rfl, fin2⟩
theorem ans_prref {m : Mem} {r p : Nat} {l : List B8} {bad : Bool} (h : RdrP m r p l bad) (hb : l.length ≤ 1000000000) : Ans Tryz.prog 85 [.ptr r 0] m fun v m' => v = .agg (rfN (l, bad)).cells ∧ Kept [r] m m' ∧ RdrP m' r p (rfT (l, bad)).1 (rfT (l, bad)).2 := by
 refine ans_ret mixed ok85 ?_
 have k0 := Kept.app [] m [Blk.row (.int .i64 0 :: bys (List.replicate 32 0#8)) false]
 have o0 : own (m ++ [Blk.row (.int .i64 0 :: bys (List.replicate 32 0#8)) false]) m.length = some (.int .i64 0 :: bys (List.replicate 32 0#8)) := by rw [own_app_at0]; rfl
 have hA : RdrP (m ++ [Blk.row (.int .i64 0 :: bys (List.replicate 32 0#8)) false]) r p l bad := by
  obtain ⟨o, cap, sl, B, h1, h2, h3, h4⟩ := h
  exact ⟨o, cap, sl, B, k0.own h1 (by simp), k0.own h2 (by simp), h3.kept0 k0, h4⟩
 have hrl : r < m.length := by obtain ⟨o, cap, sl, B, h1, -⟩ := h; exact own_lt h1
 have hpl : p < m.length := by obtain ⟨o, cap, sl, B, -, h2, -⟩ := h; exact own_lt h2
 simp -implicitDefEqProofs (disch := (first | omega | (simp only [lq10] <;> omega) | fail)) only [admQ, lq10, aFill, AK.cls, implies_true, if_true, if_false, seval, -List.reduceReplicate, c85, r85]
 generalize m ++ [Blk.row (.int .i64 0 :: bys (List.replicate 32 0#8)) false] = A at *
 refine (ans_ptaker hA hb).mono ?_
 rintro _ m1 ⟨rfl, k1, hr1⟩
 have o1 := k1.own o0 (by simp; omega)
 have hcl := (rfN (l, bad)).cells_len
 have hsp := (rfN (l, bad)).sp
 have t2 := own_set (own_lt o1) (rfN (l, bad)).cells
 simp -implicitDefEqProofs (disch := (first | omega | (simp only [lq10] <;> omega) | fail)) only [admQ, lq10, aFill, AK.cls, implies_true, if_true, if_false, seval, -List.reduceReplicate, o1, hcl, hsp, rowOf_own t2, Rf.all]
 have kZ := Kept.set1 m1 m.length (.row (rfN (l, bad)).cells false)
 refine ⟨(k0.any.trans k1).write (.inr (Nat.le_refl _)) _, ?_⟩
 obtain ⟨o, cap, sl, B, h1, h2, h3, h4⟩ := hr1
 exact ⟨o, cap, sl, B, kZ.own h1 (by simp; omega), kZ.own h2 (by simp; omega), h3.kept kZ (fun b o n cap s e => by cases e; simp; omega), h4⟩
def pgS (b : List B8) : Nat → List B8 × Bool
 | 0 => rdT (b, false)
 | j + 1 => rfT (pgS b j)
theorem pgS_is (b : List B8) : ∀ j, (8 + 40 * j ≤ b.length → pgS b j = (b.drop (8 + 40 * j), false)) ∧ (b.length < 8 + 40 * j → (pgS b j).2 = true) := by
 intro j
 induction j with
 | zero =>
  refine ⟨fun h => ?_, fun h => ?_⟩
  ·rw [pgS, rdT, if_pos ⟨rfl, by simpa using h⟩]
  ·rw [pgS, rdT, if_neg (fun h2 => by have := h2.2; simp only at this; omega)]
 | succ j ih =>
  refine ⟨fun h => ?_, fun h => ?_⟩
  ·have e := ih.1 (by omega)
   rw [pgS, e, rfT, if_pos ⟨rfl, by simp; omega⟩]
   simp only [List.drop_drop]
   rw [show 8 + 40 * j + 40 = 8 + 40 * (j + 1) by omega]
  ·rw [pgS, rfT]
   by_cases h2 : 8 + 40 * j ≤ b.length
   ·rw [ih.1 h2, if_neg (fun h3 => by have := h3.2; simp at this; omega)]
   ·have e := ih.2 (by omega)
    rw [if_neg (fun h3 => by rw [e] at h3; cases h3.1)]
theorem pgS_len (b : List B8) : ∀ j, (pgS b j).1.length ≤ b.length := by
 intro j
 induction j with
 | zero => exact rdT_len _
 | succ j ih =>
  rw [pgS, rfT]
  split
  ·simp only [List.length_drop]; omega
  ·exact ih
theorem pgN_is {b : List B8} (hb : b.length = 328) {j : Nat} (hj : j < 8) : rfN (pgS b j) = ⟨intB ((b.drop (8 + 40 * j)).take 8), smT ((b.drop (16 + 40 * j)).take 32)⟩ := by
 rw [(pgS_is b j).1 (by omega), rfN, if_pos ⟨rfl, by simp; omega⟩]
 simp only [List.drop_drop]
 rw [show 8 + 40 * j + 8 = 16 + 40 * j by omega]
theorem pg_zero : rep 8 (.int .i64 0 :: bys (List.replicate 32 0#8)) = flatOf Rf.cells (List.replicate 8 Rf.zero) := by
 rw [rep, flatOf, List.flatMap_def, List.map_replicate]; rfl
theorem splice_full {a b : List AV} (h : a.length = b.length) : splice a 0 b = b := by
 rw [splice, List.take_zero, List.nil_append, Nat.zero_add, List.drop_of_length_le (by omega), List.append_nil]
theorem splice_self (c : List AV) : splice c 0 c = c := by simp [splice]
theorem tab_nought (b : List B8) : (tab 8 fun i => if i < 0 then rfN (pgS b i) else Rf.zero) = List.replicate 8 Rf.zero := by
 rw [← tab_const]; exact tab_ext fun i _ => if_neg (by omega)
theorem ans_pgget {m : Mem} {x : AV} {b : List B8} (hx : RdB m x b) (hl : b.length ≤ 100000) : Ans Tryz.prog 47 [x] m fun r m' => Kept [] m m' ∧ ∃ C, r = .tup [.int .i64 (pgGI b), .agg C, .int .i64 (pgGE b)] ∧ C.length = 264 := by
 refine ans_ret mixed ok47 ?_
 have k0 := Kept.app [] m [Blk.row (flatOf Rf.cells (List.replicate 8 Rf.zero)) false]
 have o0 : own (m ++ [Blk.row (flatOf Rf.cells (List.replicate 8 Rf.zero)) false]) m.length = some (flatOf Rf.cells (List.replicate 8 Rf.zero)) := by rw [own_app_at0]; rfl
 have hZ : rep 8 (.int .i64 0 :: bys (List.replicate 32 0#8)) = flatOf Rf.cells (List.replicate 8 Rf.zero) := pg_zero
 simp -implicitDefEqProofs (disch := (first | omega | (simp only [lq10] <;> omega) | fail)) only [admQ, lq10, aFill, AK.cls, implies_true, if_true, if_false, seval, -List.reduceReplicate, c47, r47, hZ]
 generalize m ++ [Blk.row (flatOf Rf.cells (List.replicate 8 Rf.zero)) false] = A at *
 refine (ans_pread (hx.kept0 k0) (by omega)).mono ?_
 rintro _ m1 ⟨k1, rd, rfl, hrd, hr1⟩
 have o1 := k1.own o0 (by simp)
 have la := own_lt o0
 simp -implicitDefEqProofs (disch := (first | omega | (simp only [lq10] <;> omega) | fail)) only [admQ, lq10, aFill, AK.cls, implies_true, if_true, if_false, seval, -List.reduceReplicate]
 refine (ans_print2 hr1.two (by omega)).mono ?_
 rintro _ m2 ⟨rfl, k2, hr2⟩
 have o2 := k2.own o1 (by simp; omega)
 have K2 : Kept [] m m2 := (k0.trans k1).upon k2 (fun q hq => by simp only [List.mem_singleton] at hq; omega)
 have hpg : pgS b 0 = rdT (b, false) := rfl
 rw [← hpg] at hr2
 obtain ⟨pd, hr2⟩ := hr2
 have k3 := Kept.app [] m2 [Blk.row (flatOf Rf.cells (List.replicate 8 Rf.zero)) false]
 have o3 := k3.own o2 (by simp)
 have p3 : own (m2 ++ [Blk.row (flatOf Rf.cells (List.replicate 8 Rf.zero)) false]) m2.length = some (flatOf Rf.cells (List.replicate 8 Rf.zero)) := by rw [own_app_at0]; rfl
 have lpd : pd < m2.length := by obtain ⟨o, cap, sl, B, -, h2, -⟩ := hr2; exact own_lt h2
 have lrd : rd < m2.length := by obtain ⟨o, cap, sl, B, h2, -⟩ := hr2; exact own_lt h2
 have hr3 : RdrP (m2 ++ [Blk.row (flatOf Rf.cells (List.replicate 8 Rf.zero)) false]) rd pd (pgS b 0).1 (pgS b 0).2 := RdrP.kept hr2 k3 (by simp) (by simp)
 simp -implicitDefEqProofs (disch := (first | omega | (simp only [lq10] <;> omega) | fail)) only [admQ, lq10, aFill, AK.cls, implies_true, if_true, if_false, seval, -List.reduceReplicate, hZ]
 generalize hq7 : m2.length = q7 at *
 have K3 := K2.trans k3
 generalize m2 ++ [Blk.row (flatOf Rf.cells (List.replicate 8 Rf.zero)) false] = M3 at *
 refine LoopW.on (fun j : Nat => [(3, .ptr m.length 0), (5, .ptr rd 0), (6, .int .i64 (rdN (b, false))), (7, .ptr q7 0), (14, .int .i64 j)]) (fun j => 8 - j)
  (fun j M => j ≤ 8 ∧ Kept [] m M ∧ RdrP M rd pd (pgS b j).1 (pgS b j).2 ∧ own M m.length = some (flatOf Rf.cells (List.replicate 8 Rf.zero)) ∧ own M q7 = some (flatOf Rf.cells (tab 8 fun i => if i < j then rfN (pgS b i) else Rf.zero))) ?_ 0 _ _ rfl ⟨by omega, K3, hr3, o3, by rw [tab_nought]; exact p3⟩
 have lm : m.length ≤ q7 := by have := K2.len; omega
 have hmq : m.length < q7 := by have := own_lt o2; omega
 rintro j M X ⟨hj, kk, hr, oM, pM⟩ hX
 by_cases hlt : j < 8
 ·simp -implicitDefEqProofs (disch := (first | omega | (simp only [lq10] <;> omega) | fail)) only [admQ, lq10, aFill, AK.cls, implies_true, if_true, if_false, seval, -List.reduceReplicate]
  have hsl := pgS_len b j
  refine (ans_prref hr (by omega)).mono ?_
  rintro _ M2 ⟨rfl, k4, hr4⟩
  have o4 := k4.own oM (by simp; omega)
  have p4 := k4.own pM (by simp; omega)
  have hcl := (rfN ((pgS b j).1, (pgS b j).2)).cells_len
  have hl264 : (flatOf Rf.cells (tab 8 fun i => if i < j then rfN (pgS b i) else Rf.zero)).length = 264 := by rw [flatOf_length Rf.cells_len, tab_len]
  have hst : splice (flatOf Rf.cells (tab 8 fun i => if i < j then rfN (pgS b i) else Rf.zero)) (j * 33) (rfN ((pgS b j).1, (pgS b j).2)).cells = flatOf Rf.cells (tab 8 fun i => if i < j + 1 then rfN (pgS b i) else Rf.zero) := by
   rw [flatOf_set Rf.cells_len _ _ _ (by rw [tab_len]; exact hlt)]
   congr 1
   apply List.ext_getElem (by simp [tab_len])
   intro i h1 h2
   rw [List.getElem_set]
   simp only [tab, List.getElem_map, List.getElem_range]
   by_cases hij : j = i
   ·subst hij; rw [if_pos rfl, if_pos (by omega)]
   ·rw [if_neg hij]
    by_cases hi2 : i < j
    ·rw [if_pos hi2, if_pos (by omega)]
    ·rw [if_neg hi2, if_neg (by omega)]
  have kZ := Kept.set1 M2 q7 (.row (flatOf Rf.cells (tab 8 fun i => if i < j + 1 then rfN (pgS b i) else Rf.zero)) false)
  have p5 := own_set (own_lt p4) (flatOf Rf.cells (tab 8 fun i => if i < j + 1 then rfN (pgS b i) else Rf.zero))
  simp -implicitDefEqProofs (disch := (first | omega | (simp only [lq10] <;> omega) | fail)) only [admQ, lq10, aFill, AK.cls, implies_true, if_true, if_false, seval, -List.reduceReplicate, p4, hcl, hl264, hst]
  exact hX (j + 1) _ _ rfl (by omega) ⟨by omega, ((kk.upon k4 (fun q hq => by simp only [List.mem_singleton] at hq; omega)).write (.inr (by omega)) _), hr4.kept kZ (by simp; omega) (by simp; omega), kZ.own o4 (by simp; omega), p5⟩
 ·obtain rfl : j = 8 := by omega
  simp -implicitDefEqProofs (disch := (first | omega | (simp only [lq10] <;> omega) | fail)) only [admQ, lq10, aFill, AK.cls, implies_true, if_true, if_false, seval, -List.reduceReplicate]
  have hpend := ans_pend hr.two
  refine hpend.mono ?_
  rintro _ M2 ⟨rfl, hM⟩
  subst hM
  have hcl : (flatOf Rf.cells (List.replicate 8 Rf.zero)).length = 264 := by rw [flatOf_length Rf.cells_len]; rfl
  have hta : List.take 264 (flatOf Rf.cells (List.replicate 8 Rf.zero)) = flatOf Rf.cells (List.replicate 8 Rf.zero) := List.take_of_length_le (by omega)
  have hspz : splice (flatOf Rf.cells (List.replicate 8 Rf.zero)) 0 (flatOf Rf.cells (List.replicate 8 Rf.zero)) = flatOf Rf.cells (List.replicate 8 Rf.zero) := splice_self _
  have t0 := own_set (own_lt oM) (flatOf Rf.cells (List.replicate 8 Rf.zero))
  have bad : ∀ er : Int, pgGE b = er → er ≠ 0 → Kept [] m (M2.set m.length (.row (flatOf Rf.cells (List.replicate 8 Rf.zero)) false)) ∧ ∃ C, AV.tup [.int .i64 0, .agg (flatOf Rf.cells (List.replicate 8 Rf.zero)), .int .i64 er] = .tup [.int .i64 (pgGI b), .agg C, .int .i64 (pgGE b)] ∧ C.length = 264 := fun er he h0 => ⟨kk.write (.inr (Nat.le_refl _)) _, _, by rw [pgGI, if_neg (by rw [he]; exact h0), he], hcl⟩
  by_cases h1 : b.length < 328
  ·have e1 := (pgS_is b 8).2 (by omega)
   rw [if_pos e1]
   simp -implicitDefEqProofs (disch := (first | omega | (simp only [lq10] <;> omega) | fail)) only [admQ, lq10, aFill, AK.cls, implies_true, if_true, if_false, seval, -List.reduceReplicate, oM, hcl, hZ, hspz, rowOf_own t0, hta]
   exact bad 4 (by rw [pgGE, if_pos h1]) (by omega)
  have e2 := (pgS_is b 8).1 (by omega)
  rw [e2]
  by_cases h2 : 328 < b.length
  ·rw [if_neg (by simp), if_pos (by simp; omega)]
   simp -implicitDefEqProofs (disch := (first | omega | (simp only [lq10] <;> omega) | fail)) only [admQ, lq10, aFill, AK.cls, implies_true, if_true, if_false, seval, -List.reduceReplicate, oM, hcl, hZ, hspz, rowOf_own t0, hta]
   exact bad 3 (by rw [pgGE, if_neg h1, if_pos h2]) (by omega)
  ·have hb : b.length = 328 := by omega
   rw [if_neg (by simp), if_neg (by simp; omega)]
   have hP : (tab 8 fun i => if i < 8 then rfN (pgS b i) else Rf.zero) = pgR b := by
    apply List.ext_getElem (by simp [pgR, tab_len])
    intro i h1 h2
    have hi : i < 8 := by simpa [tab_len] using h1
    simp only [pgR, tab, List.getElem_map, List.getElem_range]
    rw [if_pos hi, pgN_is hb hi]
   have hI : rdN (b, false) = intB (b.take 8) := by rw [rdN, if_pos ⟨rfl, by simp only; omega⟩]
   rw [hP] at pM
   have hpl : (pgR b).length = 8 := by rw [pgR, tab_len]
   have hcl2 : (flatOf Rf.cells (pgR b)).length = 264 := by rw [flatOf_length Rf.cells_len, hpl]
   have hta2 : List.take 264 (flatOf Rf.cells (pgR b)) = flatOf Rf.cells (pgR b) := List.take_of_length_le (by omega)
   rw [hI]
   simp -implicitDefEqProofs (disch := (first | omega | (simp only [lq10] <;> omega) | fail)) only [admQ, lq10, aFill, AK.cls, implies_true, if_true, if_false, seval, -List.reduceReplicate, rowOf_own pM, hcl2, hta2]
   refine (ans_pgright (intB (b.take 8)) (pgR b) hpl M2).mono ?_
   rintro _ M5 ⟨rfl, k5⟩
   have o5 := k5.own oM (by simp)
   have p5 := k5.own pM (by simp)
   have kk5 := kk.trans k5
   by_cases hok : pgOk (intB (b.take 8)) (pgR b)
   ·have hE : pgGE b = 0 := by rw [pgGE, if_neg h1, if_neg h2, if_pos hok]
    have hsp2 : splice (flatOf Rf.cells (List.replicate 8 Rf.zero)) 0 (flatOf Rf.cells (pgR b)) = flatOf Rf.cells (pgR b) := splice_full (hcl.trans hcl2.symm)
    have t5 := own_set (own_lt o5) (flatOf Rf.cells (pgR b))
    simp -implicitDefEqProofs (disch := (first | omega | (simp only [lq10] <;> omega) | fail)) only [admQ, lq10, aFill, AK.cls, implies_true, if_true, if_false, seval, -List.reduceReplicate, dec_t hok, Bool.not_true, rowOf_own p5, o5, hcl, hcl2, hta2, hsp2, rowOf_own t5]
    exact ⟨kk5.write (.inr (Nat.le_refl _)) _, _, by rw [pgGI, if_pos hE, hE], hcl2⟩
   ·have t5 := own_set (own_lt o5) (flatOf Rf.cells (List.replicate 8 Rf.zero))
    simp -implicitDefEqProofs (disch := (first | omega | (simp only [lq10] <;> omega) | fail)) only [admQ, lq10, aFill, AK.cls, implies_true, if_true, if_false, seval, -List.reduceReplicate, dec_f hok, Bool.not_false, o5, hcl, hZ, hspz, rowOf_own t5, hta]
    have hE : pgGE b = 7 := by rw [pgGE, if_neg h1, if_neg h2, if_neg hok]
    exact ⟨kk5.write (.inr (Nat.le_refl _)) _, _, by rw [pgGI, if_neg (by rw [hE]; omega), hE], hcl⟩
end Go.Proofs.YtehnkcnjmfbjpaaGreat
end
section
namespace Go.Proofs.YtehnkcnjmfbjpaaGreat
open Go Go.Adm
set_option linter.unusedSimpArgs false
set_option linter.unusedVariables false
set_option maxRecDepth 100000
def ptC (xd xc xu xw xt : Nat) (x : Pt) : List AV := [.ptr xd 0, .iface (cyT x.v.c) (.ptr xc 0), .int .i64 x.v.w.g.s, .int .i64 x.v.w.g.n, .int .i64 x.v.w.g.b, .ptr xt 0, .ptr xu 0, .ptr xw 0]
structure PtM (m : Mem) (xp xd xc xu xw xt : Nat) (B V : List Nat) (x : Pt) : Prop where
 vl : VlM m xd xc xu xw B V x.v
 tr : own m xt = some x.t.row
 hd : own m xp = some (ptC xd xc xu xw xt x)
 a1 : xt ∉ B
 a2 : xp ∉ B ∧ xp ≠ xt
def lvOk (u : List Sg) : Prop := ∀ x ∈ u, 0 ≤ x.lv ∧ x.lv ≤ 64
theorem addM_len (s n now : Int) (u : List Sg) : (addM s n now u).2.length = u.length := by
 unfold addM
 split
 ·split
  ·split
   ·rfl
   ·split
    ·rfl
    ·rw [List.length_set]
  ·rfl
 ·rfl
theorem lvOk.add {u : List Sg} (h : lvOk u) (s n now : Int) : lvOk (addM s n now u).2 := by
 unfold addM
 split
 ·split
  ·rename_i x hx
   have hxv := h x (List.mem_of_getElem? hx)
   split
   ·exact h
   ·split
    ·exact h
    ·intro y hy
     rcases List.mem_or_eq_of_mem_set hy with hy | rfl
     ·exact h y hy
     ·split <;> (simp only; omega)
  ·exact h
 ·exact h
theorem acU_len (g : Geo) (no n : Int) : ∀ (l : List Rf) (u : List Sg), (acU g no n u l).length = u.length := by
 intro l
 induction l with
 | nil => intro u; rfl
 | cons r l ih =>
  intro u
  rw [acU, ih]; split
  ·exact addM_len ..
  ·rfl
theorem lvOk.acc {g : Geo} {no n : Int} : ∀ (l : List Rf) {u : List Sg}, lvOk u → lvOk (acU g no n u l) := by
 intro l
 induction l with
 | nil => intro u h; exact h
 | cons r l ih =>
  intro u h
  rw [acU]; apply ih; split
  ·exact lvOk.add h _ _ _
  ·exact h
theorem acU_app (g : Geo) (no n : Int) : ∀ (l k : List Rf) (u : List Sg), acU g no n u (l ++ k) = acU g no n (acU g no n u l) k := by
 intro l
 induction l with
 | nil => intro k u; rfl
 | cons r l ih => intro k u; rw [List.cons_append, acU, acU, ih]
theorem pt_rf {m : Mem} {y : AV} {l : List Rf} {m0 : Nat} (h : RfL m0 m y l) {i : Nat} (hi : i < l.length) : ∃ b s, y = .sl b 0 l.length l.length s ∧ own m b = some (flatOf Rf.cells l) ∧ List.take 33 (List.drop (i * 33) (flatOf Rf.cells l)) = l[i].cells ∧ i * 33 + 33 ≤ (flatOf Rf.cells l).length := by
 obtain ⟨b, s, e, -, ho, -⟩ := GrL.sl_at h hi
 exact ⟨b, s, e, ho, flatOf_get Rf.cells_len l i hi, by rw [flatOf_length Rf.cells_len]; omega⟩
theorem ans_ptaccount {m : Mem} {xp xd xc xu xw xt m0 : Nat} {B V : List Nat} {v : Vl} (hv : VlM m xd xc xu xw B V v) (hh : own m xp = some [.ptr xd 0, .iface (cyT v.c) (.ptr xc 0), .int .i64 v.w.g.s, .int .i64 v.w.g.n, .int .i64 v.w.g.b, .ptr xt 0, .ptr xu 0, .ptr xw 0]) (hpB : xp ∉ B) (n : Int) {y : AV} {l : List Rf} (hy : RfL m0 m y l) (hyB : ∀ q ∈ blkOf y, q ∉ B) (hl : l.length ≤ 1000) (hu : v.u.length ≤ 64) (hlv : lvOk v.u) :
  Ans Tryz.prog 39 [.ptr xp 0, .int .i64 n, y] m fun r m' => r = .tup [] ∧ Goes xd xc xu xw m B V (v.acc n l) m' := by
 refine ans_ret mixed ok39 ?_
 have hlen := GrL.len hy
 simp -implicitDefEqProofs (disch := (first | omega | (simp only [lq7] <;> omega) | fail)) only [admQ, lq7, aFill, AK.cls, implies_true, if_true, if_false, seval, -List.reduceReplicate, c39, r39, hlen]
 obtain ⟨Wd, Rd, Wc, Rc, bu, en, hx, rfl, rfl⟩ := hv
 refine LoopW.on (fun i : Nat => [(0, .ptr xp 0), (1, .int .i64 n), (10, y), (11, .int .i64 l.length), (12, .int .i64 i)]) (fun i => l.length - i)
  (fun i M => i ≤ l.length ∧ Kept (vlW xw Wd Wc bu en) m M ∧ VlX M xd xc xu xw Wd Rd Wc Rc bu en (v.acc n (l.take i))) ?_ 0 _ _ rfl ⟨by omega, .refl _ _, hx⟩
 rintro i M X ⟨hi, kk, hxM⟩ hX
 have hs := hx.sub
 have hM := kk.own hh (fun h => hpB (hs _ h))
 by_cases hlt : i < l.length
 ·obtain ⟨b, sc, rfl, ho, ht, hle⟩ := pt_rf hy hlt
  have hr := kk.own ho (fun h => hyB b (by simp [blkOf]) (hs _ h))
  have htk : l.take (i + 1) = l.take i ++ [l[i]] := by rw [List.take_add_one, List.getElem?_eq_getElem hlt]; rfl
  generalize l[i] = r at *
  have hrl := r.cells_len
  have k1 := Kept.app [] M [Blk.row r.cells false]
  have o1 : own (M ++ [Blk.row r.cells false]) M.length = some r.cells := by rw [own_app_at0]; rfl
  have h1 := k1.own hM (by simp)
  simp -implicitDefEqProofs (disch := (first | omega | (simp only [lq7] <;> omega) | fail)) only [admQ, lq7, aFill, AK.cls, implies_true, if_true, if_false, seval, -List.reduceReplicate, rowOf_own hr, ht, hle, hrl, Rf.sp, rowOf_own o1, rowOf_own h1, Rf.c0]
  generalize M ++ [Blk.row r.cells false] = A at *
  refine (ans_gplace v.w.g r.at_ A).mono ?_
  rintro _ m1 ⟨rfl, k2⟩
  have o2 := k2.own o1 (by simp)
  have h2 := k2.own h1 (by simp)
  have k3 := Kept.app [] m1 [Blk.row [.int .i64 (plG v.w.g r.at_).1, .int .i64 (plG v.w.g r.at_).2] false]
  have q3 : own (m1 ++ [Blk.row [.int .i64 (plG v.w.g r.at_).1, .int .i64 (plG v.w.g r.at_).2] false]) m1.length = some [.int .i64 (plG v.w.g r.at_).1, .int .i64 (plG v.w.g r.at_).2] := by rw [own_app_at0]; rfl
  have o3 := k3.own o2 (by simp)
  have h3 := k3.own h2 (by simp)
  by_cases hpl : plB v.w.g r.at_
  ·have hacc : v.acc n (l.take (i + 1)) = { v.acc n (l.take i) with u := (addM (plG v.w.g r.at_).1 n v.w.no (v.acc n (l.take i)).u).2 } := by
    simp only [Vl.acc, htk, acU_app, acU, if_pos hpl]
   simp -implicitDefEqProofs (disch := (first | omega | (simp only [lq7] <;> omega) | fail)) only [admQ, lq7, aFill, AK.cls, implies_true, if_true, if_false, seval, -List.reduceReplicate, dec_t hpl, rowOf_own o1, rowOf_own h1, rowOf_own o2, rowOf_own h2, rowOf_own o3, rowOf_own h3, Rf.c0, hrl, rowOf_own q3]
   have K3 : Kept (vlW xw Wd Wc bu en) m (m1 ++ [Blk.row [.int .i64 (plG v.w.g r.at_).1, .int .i64 (plG v.w.g r.at_).2] false]) := ((kk.trans k1.any).trans k2.any).trans k3.any
   have hx3 := hxM.kept0 ((k1.trans k2).trans k3)
   generalize m1 ++ [Blk.row [.int .i64 (plG v.w.g r.at_).1, .int .i64 (plG v.w.g r.at_).2] false] = m3 at *
   have hvl3 : VlM m3 xd xc xu xw (vlR xu xw Rd Rc bu en) (vlW xw Wd Wc bu en) (v.acc n (l.take i)) := ⟨Wd, Rd, Wc, Rc, bu, en, hx3, rfl, rfl⟩
   refine (ans_wnumber hvl3).mono ?_
   rintro _ M4 ⟨rfl, hM4⟩
   subst hM4
   have hno : (v.acc n (l.take i)).w.no = v.w.no := rfl
   rw [hno]
   simp -implicitDefEqProofs (disch := (first | omega | (simp only [lq7] <;> omega) | fail)) only [admQ, lq7, aFill, AK.cls, implies_true, if_true, if_false, seval, -List.reduceReplicate, rowOf_own h3, rowOf_own q3]
   have hul : (v.acc n (l.take i)).u.length ≤ 64 := by simp only [Vl.acc, acU_len]; exact hu
   have hlv2 : lvOk (v.acc n (l.take i)).u := lvOk.acc _ hlv
   refine (ans_add hx3.tb hul hlv2 (plG v.w.g r.at_).1 n v.w.no).mono ?_
   rintro _ m5 ⟨rfl, hp⟩
   have hnb : ∀ {q : Nat} {c : List AV}, own M4 q = some c → q ≠ bu → own m5 q = some c := fun h h' => hp.kept.own h (by simpa using h')
   have hbp : xp ≠ bu := fun h => hpB (by simp [vlR, h])
   have hq5 : m1.length ≠ bu := by have := hx.lt bu (by simp [vlR]); have := kk.len; have := k1.len; have := k2.len; omega
   simp -implicitDefEqProofs (disch := (first | omega | (simp only [lq7] <;> omega) | fail)) only [admQ, lq7, aFill, AK.cls, implies_true, if_true, if_false, seval, -List.reduceReplicate, rowOf_own h3, rowOf_own q3, rowOf_own (hnb h3 hbp), rowOf_own (hnb q3 hq5)]
   refine hX (i + 1) _ _ rfl (by omega) ⟨by omega, K3.trans (hp.kept.more (fun q hq _ => by simp only [List.mem_singleton] at hq; simp [vlW, hq])), ?_⟩
   rw [hacc]
   exact hx3.table hp
  ·have hacc : v.acc n (l.take (i + 1)) = v.acc n (l.take i) := by
    simp only [Vl.acc, htk, acU_app, acU, if_neg hpl]
   simp -implicitDefEqProofs (disch := (first | omega | (simp only [lq7] <;> omega) | fail)) only [admQ, lq7, aFill, AK.cls, implies_true, if_true, if_false, seval, -List.reduceReplicate, dec_f hpl, rowOf_own o1, rowOf_own h1, rowOf_own o2, rowOf_own h2, rowOf_own o3, rowOf_own h3, Rf.c0, hrl, rowOf_own q3]
   refine hX (i + 1) _ _ rfl (by omega) ⟨by omega, ((kk.trans k1.any).trans k2.any).trans k3.any, ?_⟩
   rw [hacc]
   exact hxM.kept0 ((k1.trans k2).trans k3)
 ·obtain rfl : i = l.length := by omega
  rw [List.take_length] at hxM
  simp -implicitDefEqProofs (disch := (first | omega | (simp only [lq7] <;> omega) | fail)) only [admQ, lq7, aFill, AK.cls, implies_true, if_true, if_false, seval, -List.reduceReplicate]
  exact ⟨_, _, ⟨Wd, Rd, Wc, Rc, bu, en, hxM, rfl, rfl⟩, kk, fun q hq => .inl hq, fun q hq => .inl hq⟩
def uOk (v : Vl) : Prop := v.u.length ≤ 64 ∧ lvOk v.u
theorem wrV_u (v : Vl) (k : Int) (p : List B8) : (wrV v k p).u = v.u := by
 unfold wrV; split
 ·rfl
 ·split <;> rfl
theorem wrV_g (v : Vl) (k : Int) (p : List B8) : (wrV v k p).w.g = v.w.g ∧ cyT (wrV v k p).c = cyT v.c := by
 unfold wrV; split
 ·exact ⟨rfl, rfl⟩
 ·split
  ·exact ⟨rfl, cyT_put _ _⟩
  ·exact ⟨rfl, by simp only [cyT_tx, cyT_put]⟩
theorem lvOk.take {u : List Sg} (h : lvOk u) (n : Int) : lvOk (takeM n u).2.2 := by
 unfold takeM
 split
 ·simp only
  intro y hy
  rcases List.mem_or_eq_of_mem_set hy with hy | rfl
  ·split at hy
   ·split at hy
    ·rename_i x hx
     rcases List.mem_or_eq_of_mem_set hy with hy | rfl
     ·exact h y hy
     ·exact h x (List.mem_of_getElem? hx)
    ·exact h y hy
   ·exact h y hy
  ·exact ⟨by simp, by simp⟩
 ·exact h
theorem uOk.enu {v : Vl} (h : uOk v) : uOk (enU v) := by
 unfold enU; split
 ·exact ⟨by rw [takeM_len]; exact h.1, h.2.take _⟩
 ·exact h
theorem enU_g (v : Vl) : (enU v).w.g = v.w.g ∧ cyT (enU v).c = cyT v.c := by unfold enU; split <;> exact ⟨rfl, rfl⟩
theorem uOk.wr {v : Vl} (h : uOk v) (k : Int) (p : List B8) : uOk (wrV v k p) := by unfold uOk; rw [wrV_u]; exact h
theorem uOk.en {v : Vl} (h : uOk v) (s : Int) : uOk (enV v s) := by
 unfold enV
 split
 ·exact h.enu
 ·split
  ·exact h.enu.wr _ _
  ·exact h.enu.wr 3 (smyB (enS v s))
theorem enV_g (v : Vl) (s : Int) : (enV v s).w.g = v.w.g ∧ cyT (enV v s).c = cyT v.c := by
 have h1 := enU_g v
 have h2 := wrV_g (enU v) 3 (smyB (enS v s))
 unfold enV
 split
 ·exact h1
 ·split
  ·exact ⟨h2.1.trans h1.1, h2.2.trans h1.2⟩
  ·exact ⟨h2.1.trans h1.1, h2.2.trans h1.2⟩
theorem uOk.rm {v : Vl} (h : uOk v) : uOk (rmV v) := by unfold rmV; split; exact h.en 0; exact h
theorem rmV_g (v : Vl) : (rmV v).w.g = v.w.g ∧ cyT (rmV v).c = cyT v.c := by unfold rmV; split; exact enV_g v 0; exact ⟨rfl, rfl⟩
theorem uOk.ly {v : Vl} (h : uOk v) (x : Ent) : uOk (lyV v x) := by
 unfold lyV; split
 ·exact h
 ·exact uOk.en (v := lyW v x) h 0
theorem lyV_g (v : Vl) (x : Ent) : (lyV v x).w.g = v.w.g ∧ cyT (lyV v x).c = cyT v.c := by
 unfold lyV; split
 ·exact ⟨rfl, rfl⟩
 ·exact enV_g (lyW v x) 0
theorem uOk.ap {v : Vl} (h : uOk v) (k no : Int) (p : List B8) : uOk (apV v k no p) := by
 unfold apV
 split
 ·exact h
 ·split
  ·exact h
  ·split
   ·exact h.rm
   ·split
    ·exact h.rm.wr _ _
    ·exact (h.rm.wr _ _).ly _
theorem apV_g (v : Vl) (k no : Int) (p : List B8) : (apV v k no p).w.g = v.w.g ∧ cyT (apV v k no p).c = cyT v.c := by
 have h1 := rmV_g v
 have h2 := wrV_g (rmV v) k p
 have h3 := lyV_g (wrV (rmV v) k p) (apX (rmV v) k no p)
 unfold apV
 split
 ·exact ⟨rfl, rfl⟩
 ·split
  ·exact ⟨rfl, rfl⟩
  ·split
   ·exact h1
   ·split
    ·exact ⟨h2.1.trans h1.1, h2.2.trans h1.2⟩
    ·exact ⟨(h3.1.trans h2.1).trans h1.1, (h3.2.trans h2.2).trans h1.2⟩
end Go.Proofs.YtehnkcnjmfbjpaaGreat
end
section
namespace Go.Proofs.YtehnkcnjmfbjpaaGreat
open Go Go.Adm
set_option linter.unusedSimpArgs false
set_option linter.unusedVariables false
set_option maxRecDepth 100000
def GoesP (xd xc xu xw xt : Nat) (m : Mem) (B V : List Nat) (x' : Pt) (m' : Mem) : Prop :=
 ∃ B' V', VlM m' xd xc xu xw B' V' x'.v ∧ own m' xt = some x'.t.row ∧ Kept (xt :: V) m m' ∧ (∀ q ∈ B', q ∈ B ∨ m.length ≤ q) ∧ (∀ q ∈ V', q ∈ V ∨ m.length ≤ q)
section
variable {xp xd xc xu xw xt : Nat} {m A m1 m2 : Mem} {B V : List Nat} {x x1 x2 : Pt}
def SameHd (x x' : Pt) : Prop := cyT x'.v.c = cyT x.v.c ∧ x'.v.w.g = x.v.w.g
theorem PtM.next (h : PtM m xp xd xc xu xw xt B V x) (g : GoesP xd xc xu xw xt m B V x1 m1) (hs : SameHd x x1) : ∃ B' V', PtM m1 xp xd xc xu xw xt B' V' x1 ∧ Kept (xt :: V) m m1 ∧ (∀ q ∈ B', q ∈ B ∨ m.length ≤ q) ∧ (∀ q ∈ V', q ∈ V ∨ m.length ≤ q) := by
 obtain ⟨B', V', hv, ht, hk, hb, hw⟩ := g
 have lx := own_lt h.hd
 have lt := own_lt h.tr
 have ha1 := h.a1
 have ha2 := h.a2
 refine ⟨B', V', ⟨hv, ht, ?_, fun h' => (hb _ h').elim ha1 (fun h2 => by omega), fun h' => (hb _ h').elim ha2.1 (fun h2 => by omega), ha2.2⟩, hk, hb, hw⟩
 have : ptC xd xc xu xw xt x1 = ptC xd xc xu xw xt x := by simp only [ptC, hs.1, hs.2]
 rw [this]
 exact hk.own h.hd (fun h' => by
  rcases List.mem_cons.mp h' with h' | h'
  ·exact ha2.2 h'
  ·exact ha2.1 (h.vl.sub _ h'))
theorem GoesP.cat {B1 V1 : List Nat} (hk : Kept (xt :: V) m m1) (hb : ∀ q ∈ B1, q ∈ B ∨ m.length ≤ q) (hw : ∀ q ∈ V1, q ∈ V ∨ m.length ≤ q) (h : GoesP xd xc xu xw xt m1 B1 V1 x2 m2) : GoesP xd xc xu xw xt m B V x2 m2 := by
 obtain ⟨B2, V2, hv2, ht2, hk2, hb2, hw2⟩ := h
 have hl := hk.len
 refine ⟨B2, V2, hv2, ht2, ⟨Nat.le_trans hk.len hk2.len, fun q h3 h4 => ?_⟩, fun q hq => (hb2 q hq).elim (hb q) (fun h => .inr (by omega)), fun q hq => (hw2 q hq).elim (hw q) (fun h => .inr (by omega))⟩
 rw [hk2.eq q (hk.lt h3) (fun h5 => ?_), hk.eq q h3 h4]
 rcases List.mem_cons.mp h5 with h5 | h5
 ·exact h4 (List.mem_cons.mpr (.inl h5))
 ·exact (hw q h5).elim (fun h => h4 (List.mem_cons.mpr (.inr h))) (fun h6 => by omega)
theorem Goes.parts (h : Goes xd xc xu xw m B V x1.v m1) (ht : Adm.own m xt = some x1.t.row) (ha : xt ∉ B) (hs : ∀ q ∈ V, q ∈ B) : GoesP xd xc xu xw xt m B V x1 m1 := by
 obtain ⟨B', V', hv, hk, hb, hw⟩ := h
 exact ⟨B', V', hv, hk.own ht (fun h' => ha (hs _ h')), hk.more (fun q hq _ => by simp [hq]), hb, hw⟩
theorem PtM.treeStep (h : PtM m xp xd xc xu xw xt B V x) {t' : Tr} (hk : Kept [xt] m m1) (ht : own m1 xt = some t'.row) : GoesP xd xc xu xw xt m B V ⟨x.v, t'⟩ m1 :=
 ⟨B, V, h.vl.kept hk (fun q hq h' => by simp only [List.mem_singleton] at h'; exact h.a1 (h' ▸ hq)), ht, hk.more (by simp), fun _ h => .inl h, fun _ h => .inl h⟩
theorem PtM.tree (h : PtM m xp xd xc xu xw xt B V x) {t' : Tr} (hk : Kept [xt] m m1) (ht : own m1 xt = some t'.row) : PtM m1 xp xd xc xu xw xt B V ⟨x.v, t'⟩ :=
 ⟨h.vl.kept hk (fun q hq h' => by simp only [List.mem_singleton] at h'; exact h.a1 (h' ▸ hq)), ht, hk.own h.hd (by simpa using h.a2.2), h.a1, h.a2⟩
theorem PtM.kept0 (h : PtM m xp xd xc xu xw xt B V x) (hk : Kept [] m m1) : PtM m1 xp xd xc xu xw xt B V x := ⟨h.vl.kept0 hk, hk.own h.tr (by simp), hk.own h.hd (by simp), h.a1, h.a2⟩
theorem GoesP.more (h : GoesP xd xc xu xw xt m B V x1 m1) (hk : Kept [] m1 m2) : GoesP xd xc xu xw xt m B V x1 m2 := by
 obtain ⟨B', V', hv, ht, hk1, hb, hw⟩ := h
 exact ⟨B', V', hv.kept0 hk, hk.own ht (by simp), hk1.trans hk.any, hb, hw⟩
theorem GoesP.up (hA : Kept [] m A) (h : GoesP xd xc xu xw xt A B V x1 m1) : GoesP xd xc xu xw xt m B V x1 m1 := by
 obtain ⟨B1, V1, hv, ht, hk1, hb, hw⟩ := h
 have hl := hA.len
 exact ⟨B1, V1, hv, ht, hA.any.trans hk1, fun q hq => (hb q hq).imp id (fun h => by omega), fun q hq => (hw q hq).imp id (fun h => by omega)⟩
theorem PtM.stay (h : PtM m xp xd xc xu xw xt B V x) (hk : Kept [] m m1) : GoesP xd xc xu xw xt m B V x m1 := ⟨B, V, h.vl.kept0 hk, hk.own h.tr (by simp), hk.any, fun _ h => .inl h, fun _ h => .inl h⟩
end
theorem spoilR_le : ∀ (l : List Nat) (t : Tr), (t.spoilR l).length ≤ l.length := by
 intro l
 induction l with
 | nil => intro t; simp [Tr.spoilR]
 | cons i l ih =>
  intro t
  rw [Tr.spoilR, List.length_append, List.length_cons]
  have h1 : (t.gone i).length ≤ 1 := by unfold Tr.gone; split <;> simp
  have := ih (t.setN i Nd.dirty)
  omega
theorem setR_le (t : Tr) (k : Int) (r : Rf) : (t.setR k r).length ≤ 3 := by
 unfold Tr.setR
 split
 ·rw [List.length_append]
  have h1 : (t.old k.toNat).length ≤ 1 := by unfold Tr.old; split <;> simp
  have := spoilR_le [k.toNat / 8 + 1, 0] (t.setB k.toNat r); simp at this; omega
 ·simp
structure PtOk (x : Pt) (k : Nat) : Prop where
 vl : VlOk x.v k
 lv : lvOk x.v.u
theorem ans_ptput {m : Mem} {xp xd xc xu xw xt : Nat} {B V : List Nat} {x : Pt} (h : PtM m xp xd xc xu xw xt B V x) (ok : PtOk x 980) (i : Int) {y : AV} {data : List B8} (hy : RdB m y data) (hyB : ∀ q ∈ blkOf y, q ∉ B) (hl : data.length ≤ 5000) : Ans Tryz.prog 10 [.ptr xp 0, .int .i64 i, y] m fun r m' => r = .int .i64 (puE x i data) ∧ GoesP xd xc xu xw xt m B V (puT x i data) m' := by
 refine ans_ret mixed ok10 ?_
 have hh := h.hd
 unfold ptC at hh
 simp -implicitDefEqProofs (disch := (first | omega | (simp only [lq7] <;> omega) | fail)) only [admQ, lq7, aFill, AK.cls, implies_true, if_true, if_false, seval, -List.reduceReplicate, c10, r10, rowOf_own hh]
 refine (ans_pintZ i (.nils m) (by simp)).mono ?_
 rintro x1 m1 ⟨k1, g1⟩
 have hh1 := k1.own hh (by simp)
 obtain ⟨x2, m2, e2, k2, rd2, bl2, c2, s2, -⟩ := g1.app (hy.kept0 k1) (by rw [List.length_append, numI_len]; simp; omega)
 have hh2 := k2.own hh1 (by simp)
 rw [show [] ++ numI i ++ data = puP i data by simp [puP]] at rd2
 have l1 := k1.len
 have hlt := h.vl.lt
 simp -implicitDefEqProofs (disch := (first | omega | (simp only [lq7] <;> omega) | fail)) only [admQ, lq7, aFill, AK.cls, implies_true, if_true, if_false, seval, -List.reduceReplicate, rowOf_own hh, rowOf_own hh1]
 refine someW_eq e2 ?_
 simp -implicitDefEqProofs (disch := (first | omega | (simp only [lq7] <;> omega) | fail)) only [admQ, lq7, aFill, AK.cls, implies_true, if_true, if_false, seval, -List.reduceReplicate, rowOf_own hh, rowOf_own hh1, rowOf_own hh2, c2, s2]
 have h2 := h.kept0 (k1.trans k2)
 have hB2 : ∀ q ∈ blkOf x2, q ∉ B := fun q hq h' => by
  have := hlt q h'
  rcases bl2 q hq with h3 | h3
  ·have := g1.low q h3; omega
  ·omega
 refine (ans_wappend h2.vl ok.vl 4 i rd2 hB2).mono ?_
 rintro _ m3 ⟨rfl, g3⟩
 have hs := apV_g x.v 4 i (puP i data)
 have G3 : GoesP xd xc xu xw xt m2 B V ⟨apV x.v 4 i (puP i data), x.t⟩ m3 := g3.parts (x1 := ⟨apV x.v 4 i (puP i data), x.t⟩) h2.tr h2.a1 h2.vl.sub
 have G3m := G3.up (k1.trans k2)
 obtain ⟨B1, V1, h3, hk3, hb3, hw3⟩ := h.next G3m ⟨hs.2, hs.1⟩
 have hh3 := h3.hd
 unfold ptC at hh3
 simp only [hs.1, hs.2] at hh3
 have k4 := Kept.app [] m3 [Blk.row (apR x.v 4 i (puP i data)).cells false]
 have r4 : own (m3 ++ [Blk.row (apR x.v 4 i (puP i data)).cells false]) m3.length = some (apR x.v 4 i (puP i data)).cells := by rw [own_app_at0]; rfl
 have hh4 := k4.own hh3 (by simp)
 have hrl := (apR x.v 4 i (puP i data)).cells_len
 have hpe : puE x i data = apE x.v 4 i (puP i data) := rfl
 unfold puT
 rw [hpe]
 by_cases hE : apE x.v 4 i (puP i data) = 0
 ·rw [if_neg (by simp [hE]), hE]
  simp -implicitDefEqProofs (disch := (first | omega | (simp only [lq7] <;> omega) | fail)) only [admQ, lq7, aFill, AK.cls, implies_true, if_true, if_false, seval, -List.reduceReplicate, rowOf_own hh3, rowOf_own hh4, Rf.sp, hrl, rowOf_own r4, Rf.all, beq_iff_eq.mpr hE]
  have h4 := h3.kept0 k4
  have lm3 : xt < m3.length := own_lt h3.tr
  have lp3 : xp < m3.length := own_lt h3.hd
  have hlt3 := h3.vl.lt
  have l4 := k4.len
  have hu3 := uOk.ap (v := x.v) ⟨ok.vl.hu, ok.lv⟩ 4 i (puP i data)
  generalize hm4 : m3 ++ [Blk.row (apR x.v 4 i (puP i data)).cells false] = m4 at *
  have l34 : m3.length < m4.length := by rw [← hm4]; simp
  refine (ans_set h4.tr i (apR x.v 4 i (puP i data))).mono ?_
  rintro y5 m5 ⟨hy5, k5, t5⟩
  have r5 := k5.own r4 (by simp; omega)
  have hh5 := k5.own hh4 (by simpa using h4.a2.2)
  simp -implicitDefEqProofs (disch := (first | omega | (simp only [lq7] <;> omega) | fail)) only [admQ, lq7, aFill, AK.cls, implies_true, if_true, if_false, seval, -List.reduceReplicate, rowOf_own hh4, rowOf_own r4, rowOf_own hh5, rowOf_own r5, hrl, Rf.all]
  have h5 := h4.tree k5 t5
  have k6 := Kept.app [] m5 [Blk.row (apR x.v 4 i (puP i data)).cells false]
  have r6 : own (m5 ++ [Blk.row (apR x.v 4 i (puP i data)).cells false]) m5.length = some (apR x.v 4 i (puP i data)).cells := by rw [own_app_at0]; rfl
  have l5 := k5.len
  have h6 := h5.kept0 k6
  have hh6 := h6.hd
  unfold ptC at hh6
  have hone : RfL 0 (m5 ++ [Blk.row (apR x.v 4 i (puP i data)).cells false]) (.sl m5.length 0 1 1 0) [apR x.v 4 i (puP i data)] := GrL.mk (l := [apR x.v 4 i (puP i data)]) (by simp) (.inl rfl) (by rw [r6, flatOf_one]) (by omega)
  have hy6 := GrL.kept0 hy5 k6
  simp -implicitDefEqProofs (disch := (first | omega | (simp only [lq7] <;> omega) | fail)) only [admQ, lq7, aFill, AK.cls, implies_true, if_true, if_false, seval, -List.reduceReplicate, Rf.sp, hrl]
  generalize m5 ++ [Blk.row (apR x.v 4 i (puP i data)).cells false] = m6 at *
  have l6 := k6.len
  refine (ans_ptaccount h6.vl hh6 h6.a2.1 1 hone (fun q hq h' => by simp only [blkOf, List.mem_singleton] at hq; have := hlt3 q h'; omega) (by simp) hu3.1 hu3.2).mono ?_
  rintro _ m7 ⟨rfl, g7⟩
  have hu7 : uOk ((apV x.v 4 i (puP i data)).acc 1 [apR x.v 4 i (puP i data)]) := ⟨by simp only [Vl.acc, acU_len]; exact hu3.1, lvOk.acc _ hu3.2⟩
  have G7 := Goes.parts (x1 := ⟨(apV x.v 4 i (puP i data)).acc 1 [apR x.v 4 i (puP i data)], x.t.setT i (apR x.v 4 i (puP i data))⟩) g7 h6.tr h6.a1 h6.vl.sub
  obtain ⟨B7, V7, h7, hk7, hb7, hw7⟩ := h6.next G7 ⟨rfl, rfl⟩
  have hh7 := h7.hd
  unfold ptC at hh7
  have hyl := GrL.blk hy5
  have hylt := GrL.lt hy6
  have hy7 : RfL m4.length m7 y5 (x.t.setR i (apR x.v 4 i (puP i data))) := GrL.kept hy6 hk7 (fun q hq h' => by
   have := hyl q hq
   rcases List.mem_cons.mp h' with h' | h'
   ·omega
   ·have := hlt3 q (h6.vl.sub q h'); omega)
  simp -implicitDefEqProofs (disch := (first | omega | (simp only [lq7] <;> omega) | fail)) only [admQ, lq7, aFill, AK.cls, implies_true, if_true, if_false, seval, -List.reduceReplicate]
  refine (ans_ptaccount h7.vl hh7 h7.a2.1 (-1) hy7 (fun q hq h' => by
   have := hyl q hq; have := hylt q hq
   rcases hb7 q h' with h8 | h8
   ·have := hlt3 q h8; omega
   ·omega) (by have := setR_le x.t i (apR x.v 4 i (puP i data)); omega) hu7.1 hu7.2).mono ?_
  rintro _ m8 ⟨rfl, g8⟩
  simp -implicitDefEqProofs (disch := (first | omega | (simp only [lq7] <;> omega) | fail)) only [admQ, lq7, aFill, AK.cls, implies_true, if_true, if_false, seval, -List.reduceReplicate]
  have G8 := Goes.parts (x1 := ⟨((apV x.v 4 i (puP i data)).acc 1 [apR x.v 4 i (puP i data)]).acc (-1) (x.t.setR i (apR x.v 4 i (puP i data))), x.t.setT i (apR x.v 4 i (puP i data))⟩) g8 h7.tr h7.a1 h7.vl.sub
  have k36 : Kept (xt :: V1) m3 m6 := (k4.any.trans (k5.more (by simp))).trans k6.any
  exact GoesP.cat hk3 hb3 hw3 (GoesP.cat k36 (fun q hq => .inl hq) (fun q hq => .inl hq) (GoesP.cat hk7 hb7 hw7 G8))
 ·rw [if_pos hE]
  simp -implicitDefEqProofs (disch := (first | omega | (simp only [lq7] <;> omega) | fail)) only [admQ, lq7, aFill, AK.cls, implies_true, if_true, if_false, seval, -List.reduceReplicate, rowOf_own hh3, rowOf_own hh4, Rf.sp, hrl, rowOf_own r4, Rf.all, beq_eq_false_iff_ne.mpr hE]
  exact G3m.more k4
end Go.Proofs.YtehnkcnjmfbjpaaGreat
end
section
namespace Go.Proofs.YtehnkcnjmfbjpaaGreat
open Go Go.Adm
set_option linter.unusedSimpArgs false
set_option linter.unusedVariables false
set_option maxRecDepth 100000
theorem page_len (t : Tr) (k : Int) : (t.page k).length = 8 := by rw [Tr.page, tab_len]
theorem ans_ptsave1 {m : Mem} {xp xd xc xu xw xt : Nat} {B V : List Nat} {x : Pt} (h : PtM m xp xd xc xu xw xt B V x) (ok : PtOk x 980) (i : Int) : Ans Tryz.prog 35 [.ptr xp 0, .int .i64 i] m fun r m' => r = .int .i64 (savE x i) ∧ GoesP xd xc xu xw xt m B V (savT x i) m' := by
 refine ans_ret mixed ok35 ?_
 have hh := h.hd
 unfold ptC at hh
 simp -implicitDefEqProofs (disch := (first | omega | (simp only [lq7] <;> omega) | fail)) only [admQ, lq7, aFill, AK.cls, implies_true, if_true, if_false, seval, -List.reduceReplicate, q35, d35_3, d35_4, d35_5, d35_6, r35]
 refine wp_join2 [0, 1] (fun _ : Unit => [(0, .ptr xp 0), (1, .int .i64 i)]) (fun _ M => Kept [] m M ∧ ¬ (i = 0 ∧ x.t.mapped = 0)) rfl ?_ ?_
 ·by_cases h0 : i = 0
  ·simp -implicitDefEqProofs (disch := (first | omega | (simp only [lq7] <;> omega) | fail)) only [admQ, lq7, aFill, AK.cls, implies_true, if_true, if_false, seval, -List.reduceReplicate, d35_1, beq_iff_eq.mpr h0, rowOf_own hh]
   refine (ans_mapped h.tr).mono ?_
   rintro _ m1 ⟨rfl, k1⟩
   have h1 := h.kept0 k1
   have hh1 := k1.own hh (by simp)
   by_cases hm : x.t.mapped = 0
   ·have hc : i = 0 ∧ x.t.mapped = 0 := ⟨h0, hm⟩
    simp -implicitDefEqProofs (disch := (first | omega | (simp only [lq7] <;> omega) | fail)) only [admQ, lq7, aFill, AK.cls, implies_true, if_true, if_false, seval, -List.reduceReplicate, beq_iff_eq.mpr (show (x.t.mapped : Int) = 0 by omega), rowOf_own hh1, rf_zero]
    refine (ans_saved h1.tr 0 Rf.zero).mono ?_
    rintro _ m2 ⟨rfl, k2, t2⟩
    simp -implicitDefEqProofs (disch := (first | omega | (simp only [lq7] <;> omega) | fail)) only [admQ, lq7, aFill, AK.cls, implies_true, if_true, if_false, seval, -List.reduceReplicate]
    refine ⟨.inr rfl, ?_⟩
    simp -implicitDefEqProofs (disch := (first | omega | (simp only [lq7] <;> omega) | fail)) only [admQ, lq7, aFill, AK.cls, implies_true, if_true, if_false, seval, -List.reduceReplicate]
    rw [savE, savT, if_pos hc, if_pos hc]
    exact ⟨rfl, (h1.treeStep k2 t2).up k1⟩
   ·simp -implicitDefEqProofs (disch := (first | omega | (simp only [lq7] <;> omega) | fail)) only [admQ, lq7, aFill, AK.cls, implies_true, if_true, if_false, seval, -List.reduceReplicate, beq_eq_false_iff_ne.mpr (show ¬ (x.t.mapped : Int) = 0 by omega)]
    exact ⟨(), rfl, k1, fun h => hm h.2⟩
  ·simp -implicitDefEqProofs (disch := (first | omega | (simp only [lq7] <;> omega) | fail)) only [admQ, lq7, aFill, AK.cls, implies_true, if_true, if_false, seval, -List.reduceReplicate, d35_1, beq_eq_false_iff_ne.mpr h0]
   exact ⟨(), rfl, .refl _ _, fun h => h0 h.1⟩
 ·rintro _ m1 ⟨k1, hno⟩
  have h1 := h.kept0 k1
  have hh1 := k1.own hh (by simp)
  rw [savE, savT, if_neg hno, if_neg hno]
  simp -implicitDefEqProofs (disch := (first | omega | (simp only [lq7] <;> omega) | fail)) only [admQ, lq7, aFill, AK.cls, implies_true, if_true, if_false, seval, -List.reduceReplicate, q35, d35_2, d35_3, d35_4, d35_5, d35_6, rowOf_own hh1]
  refine (ans_page h1.tr i).mono ?_
  rintro _ m2 ⟨rfl, k2⟩
  have h2 := h1.kept0 k2
  simp -implicitDefEqProofs (disch := (first | omega | (simp only [lq7] <;> omega) | fail)) only [admQ, lq7, aFill, AK.cls, implies_true, if_true, if_false, seval, -List.reduceReplicate]
  refine (ans_pgput i (x.t.page i) (page_len _ _) m2).mono ?_
  rintro _ m3 ⟨k3, w, rfl, rw3, bw3⟩
  have h3 := h2.kept0 k3
  have hh3 := (k2.trans k3).own hh1 (by simp)
  have K3 := (k1.trans k2).trans k3
  by_cases hP : pgE i (x.t.page i) = 0
  ·have hP2 : ¬ (pgE i (x.t.page i) ≠ 0) := by simp [hP]
   rw [if_neg hP2, if_neg hP2]
   simp -implicitDefEqProofs (disch := (first | omega | (simp only [lq7] <;> omega) | fail)) only [admQ, lq7, aFill, AK.cls, implies_true, if_true, if_false, seval, -List.reduceReplicate, beq_iff_eq.mpr hP, hP, rowOf_own hh3]
   have hlt := h.vl.lt
   have l12 := (k1.trans k2).len
   refine (ans_wappend h3.vl ok.vl 5 i rw3 (fun q hq h' => by have := bw3 q hq; have := hlt q h'; omega)).mono ?_
   rintro _ m4 ⟨rfl, g4⟩
   have hs := apV_g x.v 5 i (pgB i (x.t.page i))
   have G4 : GoesP xd xc xu xw xt m3 B V ⟨apV x.v 5 i (pgB i (x.t.page i)), x.t⟩ m4 := g4.parts (x1 := ⟨apV x.v 5 i (pgB i (x.t.page i)), x.t⟩) h3.tr h3.a1 h3.vl.sub
   have G4m := G4.up K3
   obtain ⟨B1, V1, h4, hk4, hb4, hw4⟩ := h.next G4m ⟨hs.2, hs.1⟩
   have hh4 := h4.hd
   unfold ptC at hh4
   simp only [hs.1, hs.2] at hh4
   have k5 := Kept.app [] m4 [Blk.row (apR x.v 5 i (pgB i (x.t.page i))).cells false]
   have r5 : own (m4 ++ [Blk.row (apR x.v 5 i (pgB i (x.t.page i))).cells false]) m4.length = some (apR x.v 5 i (pgB i (x.t.page i))).cells := by rw [own_app_at0]; rfl
   have hh5 := k5.own hh4 (by simp)
   have hrl := (apR x.v 5 i (pgB i (x.t.page i))).cells_len
   by_cases hE : apE x.v 5 i (pgB i (x.t.page i)) = 0
   ·rw [if_neg (by simp [hE]), if_neg (by simp [hE])]
    simp -implicitDefEqProofs (disch := (first | omega | (simp only [lq7] <;> omega) | fail)) only [admQ, lq7, aFill, AK.cls, implies_true, if_true, if_false, seval, -List.reduceReplicate, Rf.sp, hrl, rowOf_own r5, Rf.all, beq_iff_eq.mpr hE]
    have kA := Kept.app [] m4 [Blk.row (apR x.v 5 i (pgB i (x.t.page i))).cells false, .row (apR x.v 5 i (pgB i (x.t.page i))).cells false]
    have rA : own (m4 ++ [Blk.row (apR x.v 5 i (pgB i (x.t.page i))).cells false, .row (apR x.v 5 i (pgB i (x.t.page i))).cells false]) m4.length = some (apR x.v 5 i (pgB i (x.t.page i))).cells := by rw [own_app_at0]; rfl
    have sA : own (m4 ++ [Blk.row (apR x.v 5 i (pgB i (x.t.page i))).cells false, .row (apR x.v 5 i (pgB i (x.t.page i))).cells false]) (m4.length + 1) = some (apR x.v 5 i (pgB i (x.t.page i))).cells := by rw [own_app_at]; rfl
    have hone : RfL 0 (m4 ++ [Blk.row (apR x.v 5 i (pgB i (x.t.page i))).cells false, .row (apR x.v 5 i (pgB i (x.t.page i))).cells false]) (.sl (m4.length + 1) 0 1 1 0) [apR x.v 5 i (pgB i (x.t.page i))] := GrL.mk (l := [apR x.v 5 i (pgB i (x.t.page i))]) (by simp) (.inl rfl) (by rw [sA, flatOf_one]) (by omega)
    have hlt4 := h4.vl.lt
    have lt4 := own_lt h4.tr
    have lp4 := own_lt h4.hd
    have hA := h4.kept0 kA
    have hhA := kA.own hh4 (by simp)
    have hhA' := hA.hd
    unfold ptC at hhA'
    have huA := uOk.ap (v := x.v) ⟨ok.vl.hu, ok.lv⟩ 5 i (pgB i (x.t.page i))
    have lA := own_lt sA
    generalize m4 ++ [Blk.row (apR x.v 5 i (pgB i (x.t.page i))).cells false, .row (apR x.v 5 i (pgB i (x.t.page i))).cells false] = A at *
    refine (ans_ptaccount hA.vl hhA' hA.a2.1 1 hone (fun q hq h' => by simp only [blkOf, List.mem_singleton] at hq; have := hlt4 q h'; omega) (by simp) huA.1 huA.2).mono ?_
    rintro _ m7 ⟨rfl, g7⟩
    have G7 := Goes.parts (x1 := ⟨(apV x.v 5 i (pgB i (x.t.page i))).acc 1 [apR x.v 5 i (pgB i (x.t.page i))], x.t⟩) g7 hA.tr hA.a1 hA.vl.sub
    obtain ⟨B7, V7, h7, hk7, hb7, hw7⟩ := hA.next G7 ⟨rfl, rfl⟩
    have nV : ∀ q, m4.length ≤ q → q ∉ xt :: V1 := fun q h1 h2 => by
     rcases List.mem_cons.mp h2 with h2 | h2
     ·omega
     ·have := hlt4 q (h4.vl.sub q h2); omega
    have r7 := hk7.own rA (nV _ (Nat.le_refl _))
    have hh7 := h7.hd
    unfold ptC at hh7
    simp -implicitDefEqProofs (disch := (first | omega | (simp only [lq7] <;> omega) | fail)) only [admQ, lq7, aFill, AK.cls, implies_true, if_true, if_false, seval, -List.reduceReplicate, rowOf_own hh7, rowOf_own r7, hrl, Rf.all]
    refine (ans_saved h7.tr i (apR x.v 5 i (pgB i (x.t.page i)))).mono ?_
    rintro _ m8 ⟨rfl, k8, t8⟩
    have r8 := k8.own r7 (by simp; omega)
    have hh8 := k8.own hh7 (by simpa using h7.a2.2)
    simp -implicitDefEqProofs (disch := (first | omega | (simp only [lq7] <;> omega) | fail)) only [admQ, lq7, aFill, AK.cls, implies_true, if_true, if_false, seval, -List.reduceReplicate, rowOf_own hh7, rowOf_own r7, rowOf_own hh8, rowOf_own r8, hrl, Rf.all]
    exact GoesP.cat (hk4.trans kA.any) hb4 hw4 (GoesP.cat hk7 hb7 hw7 (h7.treeStep k8 t8))
   ·rw [if_pos hE, if_pos hE]
    simp -implicitDefEqProofs (disch := (first | omega | (simp only [lq7] <;> omega) | fail)) only [admQ, lq7, aFill, AK.cls, implies_true, if_true, if_false, seval, -List.reduceReplicate, Rf.sp, hrl, rowOf_own r5, Rf.all, beq_eq_false_iff_ne.mpr hE]
    exact G4m.more k5
  ·rw [if_pos hP, if_pos hP]
   simp -implicitDefEqProofs (disch := (first | omega | (simp only [lq7] <;> omega) | fail)) only [admQ, lq7, aFill, AK.cls, implies_true, if_true, if_false, seval, -List.reduceReplicate, beq_eq_false_iff_ne.mpr hP]
   exact h.stay K3
theorem sa_snoc : ∀ (l : List Nat) (x : Pt) (k : Nat), saE x l = 0 → saT x (l ++ [k]) = savT (saT x l) k ∧ saE x (l ++ [k]) = savE (saT x l) k := by
 intro l
 induction l with
 | nil =>
  intro x k _
  simp only [List.nil_append, saT, saE]
  refine ⟨by split <;> rfl, ?_⟩
  split
  ·rfl
  ·rename_i h; exact (Decidable.not_not.mp h).symm
 | cons i l ih =>
  intro x k h
  by_cases he : savE x i = 0
  ·have hn : ¬ (savE x i ≠ 0) := by simp [he]
   simp only [List.cons_append, saT, saE, if_neg hn] at h ⊢
   exact ih _ k h
  ·rw [saE, if_pos he] at h; exact absurd h he
theorem sa_app : ∀ (l k : List Nat) (x : Pt), saE x l = 0 → saT x (l ++ k) = saT (saT x l) k ∧ saE x (l ++ k) = saE (saT x l) k := by
 intro l
 induction l with
 | nil => intro k x _; exact ⟨rfl, rfl⟩
 | cons i l ih =>
  intro k x h
  by_cases he : savE x i = 0
  ·have hn : ¬ (savE x i ≠ 0) := by simp [he]
   simp only [List.cons_append, saT, saE, if_neg hn] at h ⊢
   exact ih k _ h
  ·rw [saE, if_pos he] at h; exact absurd h he
theorem savT_g (x : Pt) (i : Int) : SameHd x (savT x i) := by
 unfold savT SameHd
 split
 ·exact ⟨rfl, rfl⟩
 ·split
  ·exact ⟨rfl, rfl⟩
  ·have := apV_g x.v 5 i (pgB i (x.t.page i))
   split
   ·exact ⟨this.2, this.1⟩
   ·exact ⟨this.2, this.1⟩
theorem saT_g : ∀ (l : List Nat) (x : Pt), SameHd x (saT x l) := by
 intro l
 induction l with
 | nil => intro x; exact ⟨rfl, rfl⟩
 | cons i l ih =>
  intro x
  have h1 := savT_g x i
  rw [saT]; split
  ·exact h1
  ·have h2 := ih (savT x i)
   exact ⟨h2.1.trans h1.1, h2.2.trans h1.2⟩
theorem ans_ptsave {m : Mem} {xp xd xc xu xw xt : Nat} {B V : List Nat} {x : Pt} (h : PtM m xp xd xc xu xw xt B V x) (ok : ∀ k, PtOk (saT x (x.t.dirtyL.take k)) 980) : Ans Tryz.prog 9 [.ptr xp 0] m fun r m' => r = .int .i64 (saE x x.t.dirtyL) ∧ GoesP xd xc xu xw xt m B V (saT x x.t.dirtyL) m' := by
 refine ans_ret mixed ok9 ?_
 have hh := h.hd
 unfold ptC at hh
 simp -implicitDefEqProofs (disch := (first | omega | (simp only [lq7] <;> omega) | fail)) only [admQ, lq7, aFill, AK.cls, implies_true, if_true, if_false, seval, -List.reduceReplicate, c9, r9, rowOf_own hh]
 refine (ans_dirty h.tr).mono ?_
 rintro y m1 ⟨hy, k1⟩
 have hlen := GrL.len hy
 simp -implicitDefEqProofs (disch := (first | omega | (simp only [lq7] <;> omega) | fail)) only [admQ, lq7, aFill, AK.cls, implies_true, if_true, if_false, seval, -List.reduceReplicate, hlen]
 have h1 := h.kept0 k1
 have hlt := h.vl.lt
 have lm := own_lt h.tr
 have hyl := GrL.blk hy
 have hylt := GrL.lt hy
 have hL9 : x.t.dirtyL.length ≤ 9 := x.t.dirtyIn_len dOrd
 generalize hL : x.t.dirtyL = L at *
 refine LoopW.on (fun i : Nat => [(0, .ptr xp 0), (10, y), (11, .int .i64 L.length), (12, .int .i64 i)]) (fun i => L.length - i)
  (fun i M => i ≤ L.length ∧ GoesP xd xc xu xw xt m1 B V (saT x (L.take i)) M ∧ saE x (L.take i) = 0) ?_ 0 _ _ rfl ⟨by omega, h1.stay (.refl _ _), rfl⟩
 rintro i M X ⟨hi, g, he⟩ hX
 have hg := saT_g (L.take i) x
 obtain ⟨B2, V2, h2, hk2, hb2, hw2⟩ := h1.next g hg
 have hyM : NatL m.length M y L := GrL.kept hy hk2 (fun q hq h' => by
  have := hyl q hq
  rcases List.mem_cons.mp h' with h' | h'
  ·omega
  ·have := hlt q (h.vl.sub q h'); omega)
 by_cases hlti : i < L.length
 ·obtain ⟨b, s, rfl, -, ho, -⟩ := GrL.sl_at hyM hlti
  have ht := flatOf_cell natC_len L i 0 hlti (by omega)
  have htk : L.take (i + 1) = L.take i ++ [L[i]] := by rw [List.take_add_one, List.getElem?_eq_getElem hlti]; rfl
  obtain ⟨e1, e2⟩ := sa_snoc (L.take i) x L[i] he
  have ht2 : (flatOf natC L)[i]? = some (.int .i64 (L[i] : Nat)) := by simpa [natC] using ht
  rw [← htk] at e1 e2
  have hsp : L.take i ++ L[i] :: L.drop (i + 1) = L := by rw [List.getElem_cons_drop, List.take_append_drop]
  obtain ⟨b1, b2⟩ := sa_app (L.take i) (L[i] :: L.drop (i + 1)) x he
  rw [hsp] at b1 b2
  have hml : (L[i] : Nat) < 9 := by
   have : L[i] ∈ x.t.dirtyL := by rw [hL]; exact List.getElem_mem _
   exact Tr.dirty_lt this
  generalize L[i] = k at *
  have hfl : i < (flatOf natC L).length := by rw [flatOf_length natC_len]; omega
  simp -implicitDefEqProofs (disch := (first | omega | (simp only [lq7] <;> omega) | fail)) only [admQ, lq7, aFill, AK.cls, implies_true, if_true, if_false, seval, -List.reduceReplicate, rowOf_own ho, ht2, hfl]
  refine (ans_ptsave1 h2 (ok i) k).mono ?_
  rintro _ M2 ⟨rfl, g3⟩
  have G3 := GoesP.cat hk2 hb2 hw2 g3
  by_cases hE : savE (saT x (L.take i)) k = 0
  ·simp -implicitDefEqProofs (disch := (first | omega | (simp only [lq7] <;> omega) | fail)) only [admQ, lq7, aFill, AK.cls, implies_true, if_true, if_false, seval, -List.reduceReplicate, beq_iff_eq.mpr hE]
   exact hX (i + 1) _ _ rfl (by omega) ⟨by omega, by rw [e1]; exact G3, by rw [e2, hE]⟩
  ·simp -implicitDefEqProofs (disch := (first | omega | (simp only [lq7] <;> omega) | fail)) only [admQ, lq7, aFill, AK.cls, implies_true, if_true, if_false, seval, -List.reduceReplicate, beq_eq_false_iff_ne.mpr hE]
   exact ⟨by rw [b2, saE, if_pos hE], by rw [b1, saT, if_pos hE]; exact G3.up k1⟩
 ·obtain rfl : i = L.length := by omega
  rw [List.take_length] at g he
  simp -implicitDefEqProofs (disch := (first | omega | (simp only [lq7] <;> omega) | fail)) only [admQ, lq7, aFill, AK.cls, implies_true, if_true, if_false, seval, -List.reduceReplicate]
  exact ⟨by rw [he], g.up k1⟩
end Go.Proofs.YtehnkcnjmfbjpaaGreat
end
section
namespace Go.Proofs.YtehnkcnjmfbjpaaGreat
open Go Go.Adm
set_option linter.unusedSimpArgs false
set_option linter.unusedVariables false
set_option maxRecDepth 100000
theorem ans_lblock {m : Mem} {x : AV} {p : List B8} (hx : RdB m x p) (hl : p.length ≤ 100000) : Ans Tryz.prog 46 [x] m fun r m' => Kept [] m m' ∧ ∃ w, r = .tup [.int .i64 ((blkO p).map (·.1) |>.getD 0), w, .bool (blkO p).isSome] ∧ RdB m' w ((blkO p).map (·.2) |>.getD []) ∧ ∀ q ∈ blkOf w, m.length ≤ q := by
 refine ans_ret mixed ok46 ?_
 simp -implicitDefEqProofs (disch := (first | omega | (simp only [lq7] <;> omega) | fail)) only [admQ, lq7, aFill, AK.cls, implies_true, if_true, if_false, seval, -List.reduceReplicate, c46, r46]
 refine (ans_pread hx (by omega)).mono ?_
 rintro _ m1 ⟨k1, rd, rfl, hrd, hr1⟩
 simp -implicitDefEqProofs (disch := (first | omega | (simp only [lq7] <;> omega) | fail)) only [admQ, lq7, aFill, AK.cls, implies_true, if_true, if_false, seval, -List.reduceReplicate]
 refine (ans_print2 hr1.two (by omega)).mono ?_
 rintro _ m2 ⟨rfl, k2, hr2⟩
 have K2 : Kept [] m m2 := k1.upon k2 (fun q hq => by simp only [List.mem_singleton] at hq; omega)
 simp -implicitDefEqProofs (disch := (first | omega | (simp only [lq7] <;> omega) | fail)) only [admQ, lq7, aFill, AK.cls, implies_true, if_true, if_false, seval, -List.reduceReplicate]
 refine (ans_pleft hr2).mono ?_
 rintro _ M ⟨rfl, hM⟩
 subst hM
 by_cases h8 : 8 ≤ p.length
 ·obtain ⟨hT, hN⟩ := rdT_ok h8
  rw [hT, hN]
  by_cases h40 : p.length = 40
  ·have hd32 : ((p.drop 8).length : Int) = 32 := by simp; omega
   by_cases h1 : intB (p.take 8) < 0
   ·have hB : blkO p = none := by rw [blkO, if_neg (by omega)]
    rw [hB]
    simp -implicitDefEqProofs (disch := (first | omega | (simp only [lq7] <;> omega) | fail)) only [admQ, lq7, aFill, AK.cls, implies_true, if_true, if_false, seval, -List.reduceReplicate, hd32, dec_t h1]
    exact ⟨K2, .nils, rfl, .nils _, by simp [blkOf]⟩
   ·by_cases h2 : intB (p.take 8) ≥ 64
    ·have hB : blkO p = none := by rw [blkO, if_neg (by omega)]
     rw [hB]
     simp -implicitDefEqProofs (disch := (first | omega | (simp only [lq7] <;> omega) | fail)) only [admQ, lq7, aFill, AK.cls, implies_true, if_true, if_false, seval, -List.reduceReplicate, hd32, dec_f h1, dec_t h2]
     exact ⟨K2, .nils, rfl, .nils _, by simp [blkOf]⟩
    ·have hB : blkO p = some (intB (p.take 8), p.drop 8) := by rw [blkO, if_pos ⟨h40, by omega, by omega⟩]
     rw [hB]
     obtain ⟨b, o, cap, s, cc, rfl, hrow, hat, hlen, hcap, hsl, htk⟩ := hx.cons (i := 0) (by omega)
     have k3 := Kept.app [] M [Blk.row [] false]
     have o3 : own (M ++ [Blk.row [] false]) M.length = some [] := by rw [own_app_at0]; rfl
     have hx3 := (hx.kept0 K2).kept0 k3
     have hd := hx3.drop (k := 8) (by omega)
     have g0 : GrB m.length (M ++ [Blk.row [] false]) (.sl M.length 0 0 0 0) [] := GrA.zero o3
     obtain ⟨x4, m4, e4, g4, k4, a4⟩ := g0.pushs hd (by simp; omega) (by have := K2.len; simp; omega)
     have hbl4 := GrA.blk g4 (by intro h; have := congrArg List.length h; simp at this; omega)
     simp -implicitDefEqProofs (disch := (first | omega | (simp only [lq7] <;> omega) | fail)) only [admQ, lq7, aFill, AK.cls, implies_true, if_true, if_false, seval, -List.reduceReplicate, hd32, dec_f h1, dec_f h2, (hx.kept0 K2).len, h40]
     rw [h40] at e4
     refine someW_eq e4 ?_
     simp -implicitDefEqProofs (disch := (first | omega | (simp only [lq7] <;> omega) | fail)) only [admQ, lq7, aFill, AK.cls, implies_true, if_true, if_false, seval, -List.reduceReplicate]
     exact ⟨(a4 [] m (K2.trans k3) (Nat.le_refl _)), x4, rfl, by simpa using g4.rd, hbl4⟩
  ·have hB : blkO p = none := by rw [blkO, if_neg (fun h => h40 h.1)]
   rw [hB]
   simp -implicitDefEqProofs (disch := (first | omega | (simp only [lq7] <;> omega) | fail)) only [admQ, lq7, aFill, AK.cls, implies_true, if_true, if_false, seval, -List.reduceReplicate, beq_eq_false_iff_ne.mpr (show ¬ ((p.drop 8).length : Int) = 32 by simp; omega)]
   exact ⟨K2, .nils, rfl, .nils _, by simp [blkOf]⟩
 ·have hB : blkO p = none := by rw [blkO, if_neg (by omega)]
  rw [rdT_short (by omega), hB]
  simp -implicitDefEqProofs (disch := (first | omega | (simp only [lq7] <;> omega) | fail)) only [admQ, lq7, aFill, AK.cls, implies_true, if_true, if_false, seval, -List.reduceReplicate]
  exact ⟨K2, .nils, rfl, .nils _, by simp [blkOf]⟩
def itC (i : Itm) (w : AV) : List AV := .int .i64 i.k :: .int .i64 i.no :: (i.ref.cells ++ [w])
theorem ans_lis {m : Mem} {xp xd xc xu xw xt : Nat} {B V : List Nat} {x : Pt} (h : PtM m xp xd xc xu xw xt B V x) (i : Itm) (w : AV) (hw : cellsV w = [w] ∧ w.solid = true) : Ans Tryz.prog 15 [.ptr xp 0, .agg (itC i w)] m fun r m' => r = .bool (isB x.t i) ∧ Kept [] m m' := by
 refine ans_ret mixed ok15 ?_
 have hh := h.hd
 unfold ptC at hh
 have hl : (itC i w).length = 36 := by simp [itC, Rf.cells_len]
 have k0 := Kept.app [] m [Blk.row (itC i w) false, .row (.int .i64 0 :: bys (List.replicate 32 0#8)) false]
 have o0 : own (m ++ [Blk.row (itC i w) false, .row (.int .i64 0 :: bys (List.replicate 32 0#8)) false]) m.length = some (itC i w) := by rw [own_app_at0]; rfl
 have z0 : own (m ++ [Blk.row (itC i w) false, .row (.int .i64 0 :: bys (List.replicate 32 0#8)) false]) (m.length + 1) = some (.int .i64 0 :: bys (List.replicate 32 0#8)) := by rw [own_app_at]; rfl
 have hh0 := k0.own hh (by simp)
 have hA := h.kept0 k0
 have c0 : (itC i w)[0]? = some (.int .i64 i.k) := rfl
 have c1 : (itC i w)[1]? = some (.int .i64 i.no) := rfl
 have c2 : List.take 33 (List.drop 2 (itC i w)) = i.ref.cells := List.take_left' i.ref.cells_len
 unfold isB
 by_cases h4 : i.k = 4
 ·simp -implicitDefEqProofs (disch := (first | omega | (simp only [lq7] <;> omega) | fail)) only [admQ, lq7, aFill, AK.cls, implies_true, if_true, if_false, seval, -List.reduceReplicate, c15, r15, rowOf_own o0, c0, c1, hl, beq_iff_eq.mpr h4, rowOf_own hh0]
  generalize m ++ [Blk.row (itC i w) false, .row (.int .i64 0 :: bys (List.replicate 32 0#8)) false] = A at *
  refine (ans_get hA.tr i.no).mono ?_
  rintro _ m1 ⟨rfl, k1⟩
  have o1 := k1.own o0 (by simp)
  have z1 := k1.own z0 (by simp)
  have hh1 := k1.own hh0 (by simp)
  have e1 : aEqCells (List.replicate 33 .i) (x.t.at i.no).cells i.ref.cells = some (x.t.at i.no == i.ref) := aEq_rf _ _
  have e2 : aEqCells (List.replicate 33 .i) (x.t.at i.no).cells (.int .i64 0 :: bys (List.replicate 32 0#8)) = some (x.t.at i.no == Rf.zero) := aEq_rf _ Rf.zero
  have rl := (x.t.at i.no).cells_len
  have rsp := (x.t.at i.no).sp
  have ral := (x.t.at i.no).all
  have z2 := own_set (own_lt z1) (x.t.at i.no).cells
  have o2 := own_set_ne' o1 (show m.length + 1 ≠ m.length by omega) (.row (x.t.at i.no).cells false)
  have hh2 := own_set_ne' hh1 (show m.length + 1 ≠ xp by have := own_lt hh; omega) (.row (x.t.at i.no).cells false)
  have kF := (k0.trans k1).write (q := m.length + 1) (.inr (by omega)) (.row (x.t.at i.no).cells false)
  have hif : (if i.k = 4 then !(x.t.at i.no == Rf.zero) && (x.t.at i.no == i.ref) else if i.k = 5 then x.t.nodeB i.no && (x.t.nodeR i.no == i.ref) && !(x.t.nodeR i.no == Rf.zero) else false) = (!(x.t.at i.no == Rf.zero) && (x.t.at i.no == i.ref)) := by rw [if_pos h4]
  rw [hif]
  cases hb : (!(x.t.at i.no == Rf.zero)) with
  | false =>
   simp -implicitDefEqProofs (disch := (first | omega | (simp only [lq7] <;> omega) | fail)) only [admQ, lq7, aFill, AK.cls, implies_true, if_true, if_false, seval, -List.reduceReplicate, rowOf_own o0, rowOf_own hh0, rowOf_own o1, rowOf_own hh1, c1, hl, z1, rsp, rl, rowOf_own o2, rowOf_own hh2, rowOf_own z2, hb, Bool.false_and]
   exact kF
  | true =>
   cases he : (x.t.at i.no == i.ref) with
   | false =>
    simp -implicitDefEqProofs (disch := (first | omega | (simp only [lq7] <;> omega) | fail)) only [admQ, lq7, aFill, AK.cls, implies_true, if_true, if_false, seval, -List.reduceReplicate, rowOf_own o0, rowOf_own hh0, rowOf_own o1, rowOf_own hh1, c1, hl, z1, rsp, rl, ral, rowOf_own o2, rowOf_own hh2, rowOf_own z2, hb, c2, e1, he, Bool.and_false, Bool.true_and, Bool.false_and]
    exact kF
   | true =>
    cases hz : (x.t.at i.no == Rf.zero) with
    | false =>
     simp -implicitDefEqProofs (disch := (first | omega | (simp only [lq7] <;> omega) | fail)) only [admQ, lq7, aFill, AK.cls, implies_true, if_true, if_false, seval, -List.reduceReplicate, rowOf_own o0, rowOf_own hh0, rowOf_own o1, rowOf_own hh1, c1, hl, z1, rsp, rl, ral, rowOf_own o2, rowOf_own hh2, rowOf_own z2, hb, c2, e1, he, e2, hz, Bool.and_true, Bool.true_and, Bool.not_false]
     exact kF
    | true =>
     rw [hz] at hb; cases hb
 ·by_cases h5 : i.k = 5
  ·simp -implicitDefEqProofs (disch := (first | omega | (simp only [lq7] <;> omega) | fail)) only [admQ, lq7, aFill, AK.cls, implies_true, if_true, if_false, seval, -List.reduceReplicate, c15, r15, rowOf_own o0, c0, c1, hl, beq_eq_false_iff_ne.mpr h4, beq_iff_eq.mpr h5, rowOf_own hh0]
   generalize m ++ [Blk.row (itC i w) false, .row (.int .i64 0 :: bys (List.replicate 32 0#8)) false] = A at *
   refine (ans_node hA.tr i.no).mono ?_
   rintro _ m1 ⟨rfl, k1⟩
   have o1 := k1.own o0 (by simp)
   have z1 := k1.own z0 (by simp)
   have hh1 := k1.own hh0 (by simp)
   have e1 : aEqCells (List.replicate 33 .i) (x.t.nodeR i.no).cells i.ref.cells = some (x.t.nodeR i.no == i.ref) := aEq_rf _ _
   have e2 : aEqCells (List.replicate 33 .i) (x.t.nodeR i.no).cells (.int .i64 0 :: bys (List.replicate 32 0#8)) = some (x.t.nodeR i.no == Rf.zero) := aEq_rf _ Rf.zero
   have rl := (x.t.nodeR i.no).cells_len
   have rsp := (x.t.nodeR i.no).sp
   have ral := (x.t.nodeR i.no).all
   have z2 := own_set (own_lt z1) (x.t.nodeR i.no).cells
   have o2 := own_set_ne' o1 (show m.length + 1 ≠ m.length by omega) (.row (x.t.nodeR i.no).cells false)
   have hh2 := own_set_ne' hh1 (show m.length + 1 ≠ xp by have := own_lt hh; omega) (.row (x.t.nodeR i.no).cells false)
   have kF := (k0.trans k1).write (q := m.length + 1) (.inr (by omega)) (.row (x.t.nodeR i.no).cells false)
   have hif : (if i.k = 4 then !(x.t.at i.no == Rf.zero) && (x.t.at i.no == i.ref) else if i.k = 5 then x.t.nodeB i.no && (x.t.nodeR i.no == i.ref) && !(x.t.nodeR i.no == Rf.zero) else false) = (x.t.nodeB i.no && (x.t.nodeR i.no == i.ref) && !(x.t.nodeR i.no == Rf.zero)) := by rw [if_neg h4, if_pos h5]
   rw [hif]
   cases hb : x.t.nodeB i.no with
   | false =>
    simp -implicitDefEqProofs (disch := (first | omega | (simp only [lq7] <;> omega) | fail)) only [admQ, lq7, aFill, AK.cls, implies_true, if_true, if_false, seval, -List.reduceReplicate, rowOf_own o0, rowOf_own hh0, rowOf_own o1, rowOf_own hh1, c1, hl, z1, rsp, rl, rowOf_own o2, rowOf_own hh2, rowOf_own z2, hb, Bool.false_and]
    exact kF
   | true =>
    cases he : (x.t.nodeR i.no == i.ref) with
    | false =>
     simp -implicitDefEqProofs (disch := (first | omega | (simp only [lq7] <;> omega) | fail)) only [admQ, lq7, aFill, AK.cls, implies_true, if_true, if_false, seval, -List.reduceReplicate, rowOf_own o0, rowOf_own hh0, rowOf_own o1, rowOf_own hh1, c1, hl, z1, rsp, rl, ral, rowOf_own o2, rowOf_own hh2, rowOf_own z2, hb, c2, e1, he, Bool.and_false, Bool.true_and, Bool.false_and]
     exact kF
    | true =>
     cases hz : (x.t.nodeR i.no == Rf.zero) with
     | false =>
      simp -implicitDefEqProofs (disch := (first | omega | (simp only [lq7] <;> omega) | fail)) only [admQ, lq7, aFill, AK.cls, implies_true, if_true, if_false, seval, -List.reduceReplicate, rowOf_own o0, rowOf_own hh0, rowOf_own o1, rowOf_own hh1, c1, hl, z1, rsp, rl, ral, rowOf_own o2, rowOf_own hh2, rowOf_own z2, hb, c2, e1, he, e2, hz, Bool.and_true, Bool.true_and, Bool.not_false]
      exact kF
     | true =>
      simp -implicitDefEqProofs (disch := (first | omega | (simp only [lq7] <;> omega) | fail)) only [admQ, lq7, aFill, AK.cls, implies_true, if_true, if_false, seval, -List.reduceReplicate, rowOf_own o0, rowOf_own hh0, rowOf_own o1, rowOf_own hh1, c1, hl, z1, rsp, rl, ral, rowOf_own o2, rowOf_own hh2, rowOf_own z2, hb, c2, e1, he, e2, hz, Bool.and_true, Bool.true_and, Bool.not_true]
      exact kF
  ·simp -implicitDefEqProofs (disch := (first | omega | (simp only [lq7] <;> omega) | fail)) only [admQ, lq7, aFill, AK.cls, implies_true, if_true, if_false, seval, -List.reduceReplicate, c15, r15, rowOf_own o0, c0, c1, hl, beq_eq_false_iff_ne.mpr h4, beq_eq_false_iff_ne.mpr h5]
   rw [if_neg h4, if_neg h5]
   exact ⟨rfl, k0⟩
end Go.Proofs.YtehnkcnjmfbjpaaGreat
end
section
namespace Go.Proofs.YtehnkcnjmfbjpaaGreat
open Go Go.Adm
set_option linter.unusedSimpArgs false
set_option linter.unusedVariables false
set_option maxRecDepth 100000
theorem atG_nn (g : Geo) (a b : Int) : 0 ≤ atG g a b := by
 unfold atG
 split
 ·rename_i h
  have := Int.mul_nonneg (show 0 ≤ a by omega) (show 0 ≤ g.n by omega)
  omega
 ·omega
theorem itC_len (i : Itm) (w : AV) : (itC i w).length = 36 := by simp [itC, Rf.cells_len]
theorem itC_ref (i : Itm) (w : AV) (r : Rf) : splice (itC i w) 2 r.cells = itC { i with ref := r } w := by
 simp only [splice, itC, List.take_succ_cons, List.take_zero, Rf.cells_len]
 rw [show 2 + 33 = 33 + 1 + 1 by omega]
 simp only [List.drop_succ_cons, List.cons_append, List.nil_append]
 rw [List.drop_left' i.ref.cells_len]
theorem itC_no (i : Itm) (w : AV) (n : Int) : splice (itC i w) 1 [.int .i64 n] = itC { i with no := n } w := rfl
theorem itC_data (i : Itm) (w w' : AV) : splice (itC i w) 35 [w'] = itC i w' := by
 have h : itC i w = (.int .i64 i.k :: .int .i64 i.no :: i.ref.cells) ++ [w] := rfl
 have hl : (.int .i64 i.k :: .int .i64 i.no :: i.ref.cells : List AV).length = 35 := by simp [Rf.cells_len]
 rw [h, splice, List.take_left' hl, List.drop_of_length_le (by simp [Rf.cells_len]), List.append_nil]
 rfl
theorem itC_all (i : Itm) (w : AV) : List.take 36 (itC i w) = itC i w := List.take_of_length_le (by rw [itC_len]; omega)
theorem ans_lwhat {m : Mem} {xp xd xc xu xw xt : Nat} {B V : List Nat} {x : Pt} (h : PtM m xp xd xc xu xw xt B V x) (hk : cyOk x.v.c 1000) (ht : cyTk x.v.c 1000) (seg slot : Int) (hsz : atG x.v.w.g seg slot ≠ 0 → atG x.v.w.g seg slot < x.v.d.lasts.length ∧ (peekD x.v.d (atG x.v.w.g seg slot)).length ≤ 100000) :
  Ans Tryz.prog 14 [.ptr xp 0, .agg [.int .i64 seg, .int .i64 slot]] m fun r m' => ∃ w, r = .tup [.agg (itC ((whO x seg slot).getD Itm.zero) w), .bool (whO x seg slot).isSome] ∧ RdB m' w ((whO x seg slot).getD Itm.zero).data ∧ (∀ q ∈ blkOf w, m.length ≤ q) ∧ Kept V m m' ∧ PtM m' xp xd xc xu xw xt B V (whT x seg slot) := by
 refine ans_ret mixed ok14 ?_
 obtain ⟨hv, htr, hhd, ha1, ha2⟩ := h
 have hh := hhd
 unfold ptC at hh
 have hhB : xp ∉ B := ha2.1
 have k0 := Kept.app [] m [Blk.row [.int .i64 seg, .int .i64 slot] false, .row (itC Itm.zero .nils) false]
 have b0 : own (m ++ [Blk.row [.int .i64 seg, .int .i64 slot] false, .row (itC Itm.zero .nils) false]) m.length = some [.int .i64 seg, .int .i64 slot] := by rw [own_app_at0]; rfl
 have z0 : own (m ++ [Blk.row [.int .i64 seg, .int .i64 slot] false, .row (itC Itm.zero .nils) false]) (m.length + 1) = some (itC Itm.zero .nils) := by rw [own_app_at]; rfl
 have hh0 := k0.own hh (by simp)
 have hZ : (AV.int .i64 0 :: .int .i64 0 :: .int .i64 0 :: (bys (List.replicate 32 0#8) ++ [.nils])) = itC Itm.zero .nils := rfl
 have hv0 := hv.kept0 k0
 simp -implicitDefEqProofs (disch := (first | omega | (simp only [lq7] <;> omega) | fail)) only [admQ, lq7, aFill, AK.cls, implies_true, if_true, if_false, seval, -List.reduceReplicate, c14, r14, hZ, rowOf_own hh0, rowOf_own b0]
 generalize m ++ [Blk.row [.int .i64 seg, .int .i64 slot] false, .row (itC Itm.zero .nils) false] = A at *
 refine (ans_gat x.v.w.g seg slot A).mono ?_
 rintro _ m1 ⟨rfl, k1⟩
 have hh1 := k1.own hh0 (by simp)
 have b1 := k1.own b0 (by simp)
 have z1 := k1.own z0 (by simp)
 have hv1 := hv0.kept0 k1
 by_cases ha : atG x.v.w.g seg slot = 0
 ·have hW : whO x seg slot = none := by rw [whO, if_pos ha]
  have hT : whT x seg slot = x := by rw [whT, if_pos ha]
  rw [hW, hT]
  have hil : (itC Itm.zero .nils).length = 36 := by simp [itC, Rf.cells_len]
  simp -implicitDefEqProofs (disch := (first | omega | (simp only [lq7] <;> omega) | fail)) only [admQ, lq7, aFill, AK.cls, implies_true, if_true, if_false, seval, -List.reduceReplicate, rowOf_own hh0, rowOf_own b0, rowOf_own hh1, rowOf_own b1, ha]
  have zl := own_lt z1
  have t1 := own_set zl (itC Itm.zero .nils)
  have htk : List.take 36 (itC Itm.zero .nils) = itC Itm.zero .nils := List.take_of_length_le (by omega)
  have hcA : (itC Itm.zero .nils).all AV.solid = true := rfl
  have kF : Kept [] m (m1.set (m.length + 1) (.row (itC Itm.zero .nils) false)) := (k0.trans k1).write (.inr (by omega)) _
  simp -implicitDefEqProofs (disch := (first | omega | (simp only [lq7] <;> omega) | fail)) only [admQ, lq7, aFill, AK.cls, implies_true, if_true, if_false, seval, -List.reduceReplicate, z1, hil, splice_self, rowOf_own t1, htk]
  exact ⟨.nils, rfl, .nils _, by simp [blkOf], kF.any, PtM.kept0 ⟨hv, htr, hhd, ha1, ha2⟩ kF⟩
 ·obtain ⟨hlt, hpl⟩ := hsz ha
  obtain ⟨a, hae⟩ : ∃ a : Nat, atG x.v.w.g seg slot = a := ⟨_, (Int.toNat_of_nonneg (atG_nn _ _ _)).symm⟩
  obtain ⟨Wd, Rd, Wc, Rc, bu, en, hX, rfl, rfl⟩ := hv
  have hX1 := (hX.kept0 k0).kept0 k1
  simp -implicitDefEqProofs (disch := (first | omega | (simp only [lq7] <;> omega) | fail)) only [admQ, lq7, aFill, AK.cls, implies_true, if_true, if_false, seval, -List.reduceReplicate, rowOf_own hh0, rowOf_own b0, rowOf_own hh1, rowOf_own b1, beq_eq_false_iff_ne.mpr ha]
  have hT : whT x seg slot = ⟨{ x.v with d := readD x.v.d (atG x.v.w.g seg slot), c := cyTx x.v.c (peekD x.v.d (atG x.v.w.g seg slot)) }, x.t⟩ := if_neg ha
  rw [hT]
  rw [hae] at hlt hpl ⊢
  have hO : whO x seg slot = if getE x.v.c (kindB (peekD x.v.d a)) a (peekD x.v.d a) ≠ 0 then none else if kindB (peekD x.v.d a) = 4 then (blkO (getS x.v.c 4 a (peekD x.v.d a)).p).map fun q => ⟨4, q.1, ⟨a, smOf x.v.c (peekD x.v.d a)⟩, q.2⟩ else if kindB (peekD x.v.d a) = 5 ∧ pgGE (getS x.v.c 5 a (peekD x.v.d a)).p = 0 then some ⟨5, pgGI (getS x.v.c 5 a (peekD x.v.d a)).p, ⟨a, smOf x.v.c (peekD x.v.d a)⟩, []⟩ else none := by rw [whO, if_neg ha, hae]
  generalize whO x seg slot = O at *
  refine (ans_dkread hX1.dk (i := a) (by omega) (by omega)).mono ?_
  rintro _ m2 ⟨k2, hD2, v, rfl, sv⟩
  have hX2 := hX1.disk k2 hD2 (fun q h => .inl h)
  generalize hb : peekD x.v.d (a : Int) = b at *
  have hhR : xp ∉ Rd ∧ xp ∉ Rc := ⟨fun h => hhB (by simp [vlR, h]), fun h => hhB (by simp [vlR, h])⟩
  have hWn : ∀ q, m.length ≤ q → q ∉ Wd := fun q h1 h2 => by have := hX.dk.lt q (hX.dk.sub q h2); omega
  have hWm : ∀ q, m.length ≤ q → q ∉ Wc := fun q h1 h2 => by have := hX.cy.lt q (hX.cy.sub q h2); omega
  have hh2 := k2.own hh1 (fun h => hhR.1 (hX.dk.sub _ h))
  have z2 := k2.own z1 (hWn _ (by omega))
  have l2 := own_lt z1
  simp -implicitDefEqProofs (disch := (first | omega | (simp only [lq7] <;> omega) | fail)) only [admQ, lq7, aFill, AK.cls, implies_true, if_true, if_false, seval, -List.reduceReplicate]
  refine (ans_sckind sv.rd).mono ?_
  rintro _ M ⟨rfl, hM⟩
  subst hM
  simp -implicitDefEqProofs (disch := (first | omega | (simp only [lq7] <;> omega) | fail)) only [admQ, lq7, aFill, AK.cls, implies_true, if_true, if_false, seval, -List.reduceReplicate, rowOf_own hh2]
  refine (ans_scgetS (k := kindB b) (a := a) hX2.cy sv.rd hk (by omega)).mono ?_
  rintro _ m3 ⟨k3, w3, rfl, sw3⟩
  have hh3 := k3.own hh2 (by simp)
  have z3 := k3.own z2 (by simp)
  have hX3 := hX2.kept0 k3
  have hgl : (getS x.v.c (kindB b) a b).p.length ≤ 100000 := by
   have := getS_le x.v.c (kindB b) a b
   omega
  have K3 : Kept (vlW xw Wd Wc bu en) m m3 := ((k0.trans k1).any.trans (k2.more (fun q hq _ => by simp [vlW, hq]))).trans k3.any
  generalize hk9 : kindB b = kd at *
  generalize hS : getS x.v.c kd a b = S at *
  unfold secV
  simp -implicitDefEqProofs (disch := (first | omega | (simp only [lq7] <;> omega) | fail)) only [admQ, lq7, aFill, AK.cls, implies_true, if_true, if_false, seval, -List.reduceReplicate, (rd_one sw3.rd).1, (rd_one sw3.rd).2, rowOf_own hh3]
  have k4 := Kept.app [] m3 [Blk.row [.int .i64 S.k, .int .i64 S.e, .int .i64 S.n, .int .i64 S.a, w3] false]
  have q4 : own (m3 ++ [Blk.row [.int .i64 S.k, .int .i64 S.e, .int .i64 S.n, .int .i64 S.a, w3] false]) m3.length = some [.int .i64 S.k, .int .i64 S.e, .int .i64 S.n, .int .i64 S.a, w3] := by rw [own_app_at0]; rfl
  have hh4 := k4.own hh3 (by simp)
  have z4 := k4.own z3 (by simp)
  have hX4 := hX3.kept0 k4
  have sw4 := sw3.kept0 k4
  have K4 := K3.trans k4.any
  have l4 := own_lt q4
  have sv4 := ((sv.rd.kept0 k3).kept0 k4)
  simp -implicitDefEqProofs (disch := (first | omega | (simp only [lq7] <;> omega) | fail)) only [admQ, lq7, aFill, AK.cls, implies_true, if_true, if_false, seval, -List.reduceReplicate, rowOf_own hh4]
  generalize m3 ++ [Blk.row [.int .i64 S.k, .int .i64 S.e, .int .i64 S.n, .int .i64 S.a, w3] false] = m4 at *
  have l23 := k3.len
  have l12 := k2.len
  simp -implicitDefEqProofs (disch := (first | omega | (simp only [lq7] <;> omega) | fail)) only [admQ, lq7, aFill, AK.cls, implies_true, if_true, if_false, seval, -List.reduceReplicate, opW_invoke _ (cym_sum x.v.c), opDW_invoke _ (cym_sum x.v.c)]
  refine (ans_cysum hX4.cy sv4 (fun q hq => hWm q (by have := sv.low q hq; omega)) ht (by omega)).mono ?_
  rintro _ m5 ⟨rfl, k5, hC5⟩
  have hX5 := hX4.crypt k5 hC5 (cyT_tx _ _) (fun q h => .inl h)
  have hh5 := k5.own hh4 (fun h => hhR.2 (hX.cy.sub _ h))
  have z5 := k5.own z4 (hWm _ (by omega))
  have q5 := k5.own q4 (hWm _ (by omega))
  have sw5 := sw4.kept k5 (fun q hq => hWm q (by have := sw3.low q hq; omega))
  have K5 : Kept (vlW xw Wd Wc bu en) m m5 := K4.trans (k5.more (fun q hq _ => by simp [vlW, hq]))
  have ee : bys (cySm x.v.c b) = bys (smOf x.v.c b).1 := rfl
  have hsl := cySm_len x.v.c b
  have e1 : splice (itC Itm.zero .nils) 0 [.int .i64 kd] = itC ⟨kd, 0, Rf.zero, []⟩ .nils := rfl
  have e2 : splice (itC ⟨kd, 0, Rf.zero, []⟩ .nils) 2 (.int .i64 a :: bys (cySm x.v.c b)) = itC ⟨kd, 0, ⟨a, smOf x.v.c b⟩, []⟩ .nils := itC_ref ⟨kd, 0, Rf.zero, []⟩ .nils ⟨a, smOf x.v.c b⟩
  have hL := fun i w => itC_len i w
  have e3 : splice (itC Itm.zero .nils) 0 (itC ⟨kd, 0, ⟨a, smOf x.v.c b⟩, []⟩ .nils) = itC ⟨kd, 0, ⟨a, smOf x.v.c b⟩, []⟩ .nils := splice_full (by rw [hL, hL])
  have hal := fun i w => itC_all i w
  have k6 := Kept.app [] m5 [Blk.row (itC ⟨kd, 0, ⟨a, smOf x.v.c b⟩, []⟩ .nils) false]
  have i6 : own (m5 ++ [Blk.row (itC ⟨kd, 0, ⟨a, smOf x.v.c b⟩, []⟩ .nils) false]) m5.length = some (itC ⟨kd, 0, ⟨a, smOf x.v.c b⟩, []⟩ .nils) := by rw [own_app_at0]; rfl
  have z6 := k6.own z5 (by simp)
  have q6 := k6.own q5 (by simp)
  have hX6 := hX5.kept0 k6
  have sw6 := sw5.kept0 k6
  have K6 := K5.trans k6.any
  have zl5 := own_lt z5
  have hh6 := k6.own hh5 (by simp)
  simp -implicitDefEqProofs (disch := (first | omega | (simp only [lq7] <;> omega) | fail)) only [admQ, lq7, aFill, AK.cls, implies_true, if_true, if_false, seval, -List.reduceReplicate, hsl, e1, e2, hL, hal, e3]
  generalize m5 ++ [Blk.row (itC ⟨kd, 0, ⟨a, smOf x.v.c b⟩, []⟩ .nils) false] = m6 at *
  have xt1 : xt ∉ vlR xu xw Rd Rc bu en := ha1
  have fin : ∀ (M : Mem) (C : List AV), Kept [] m5 M → Kept (vlW xw Wd Wc bu en) m (M.set (m.length + 1) (.row C false)) ∧ PtM (M.set (m.length + 1) (.row C false)) xp xd xc xu xw xt (vlR xu xw Rd Rc bu en) (vlW xw Wd Wc bu en) ⟨{ d := readD x.v.d a, c := cyTx x.v.c b, u := x.v.u, w := x.v.w }, x.t⟩ := fun M C hM => by
   have kZ : Kept [m.length + 1] M (M.set (m.length + 1) (.row C false)) := Kept.set1 _ _ _
   have hBl := hX.lt
   have xtl := own_lt htr
   have hhl := own_lt hh
   refine ⟨(K5.trans hM.any).write (.inr (by omega)) _, ⟨Wd, Rd, Wc, Rc, bu, en, (hX5.kept0 hM).kept kZ (fun q hq h => by simp only [List.mem_singleton] at h; have := hBl q hq; omega), rfl, rfl⟩, ?_, ?_, ha1, ha2⟩
   ·exact kZ.own ((K5.trans hM.any).own htr (fun h => xt1 (hX.sub _ h))) (by simp; omega)
   ·have := kZ.own ((K5.trans hM.any).own hh (fun h => hhB (hX.sub _ h))) (by simp; omega)
    unfold ptC
    rw [cyT_tx]
    exact this
  have non : ∀ (M : Mem), O = none → Kept [] m5 M → ∃ w, AV.tup [.agg (itC Itm.zero .nils), .bool false] = .tup [.agg (itC (O.getD Itm.zero) w), .bool O.isSome] ∧ RdB (M.set (m.length + 1) (.row (itC Itm.zero .nils) false)) w (O.getD Itm.zero).data ∧ (∀ q ∈ blkOf w, m.length ≤ q) ∧ Kept (vlW xw Wd Wc bu en) m (M.set (m.length + 1) (.row (itC Itm.zero .nils) false)) ∧ PtM (M.set (m.length + 1) (.row (itC Itm.zero .nils) false)) xp xd xc xu xw xt (vlR xu xw Rd Rc bu en) (vlW xw Wd Wc bu en) ⟨{ d := readD x.v.d a, c := cyTx x.v.c b, u := x.v.u, w := x.v.w }, x.t⟩ := by
   rintro M rfl hM
   obtain ⟨f1, f2⟩ := fin M (itC Itm.zero .nils) hM
   exact ⟨.nils, rfl, .nils _, by simp [blkOf], f1, f2⟩
  have htk : List.take 36 (itC Itm.zero .nils) = itC Itm.zero .nils := List.take_of_length_le (by rw [hL]; omega)
  have hsp := splice_self (itC Itm.zero .nils)
  by_cases h4 : kd = 4
  ·simp -implicitDefEqProofs (disch := (first | omega | (simp only [lq7] <;> omega) | fail)) only [admQ, lq7, aFill, AK.cls, implies_true, if_true, if_false, seval, -List.reduceReplicate, beq_iff_eq.mpr h4, rowOf_own q6, rowOf_own i6]
   refine (ans_lblock sw6.rd hgl).mono ?_
   rintro _ m7 ⟨k7, w7, rfl, rw7, bl7⟩
   have i7 := k7.own i6 (by simp)
   have z7 := k7.own z6 (by simp)
   have hne : m5.length ≠ m.length + 1 := by omega
   have j7 := own_set (own_lt i7) (itC ⟨kd, ((blkO S.p).map (·.1) |>.getD 0), ⟨a, smOf x.v.c b⟩, []⟩ .nils)
   have n7 : splice (itC ⟨kd, 0, ⟨a, smOf x.v.c b⟩, []⟩ .nils) 1 [.int .i64 ((blkO S.p).map (·.1) |>.getD 0)] = _ := itC_no _ _ _
   have d7 : splice (itC ⟨kd, ((blkO S.p).map (·.1) |>.getD 0), ⟨a, smOf x.v.c b⟩, []⟩ .nils) 35 [w7] = _ := itC_data _ _ _
   have k8 : Kept [] m5 ((m7.set m5.length (.row (itC ⟨kd, ((blkO S.p).map (·.1) |>.getD 0), ⟨a, smOf x.v.c b⟩, []⟩ .nils) false)).set m5.length (.row (itC ⟨kd, ((blkO S.p).map (·.1) |>.getD 0), ⟨a, smOf x.v.c b⟩, []⟩ w7) false)) := (((k6.trans k7).write (.inr (Nat.le_refl _)) _).write (.inr (Nat.le_refl _)) _)
   have z8 := own_set_ne' (own_set_ne' z7 hne (.row (itC ⟨kd, ((blkO S.p).map (·.1) |>.getD 0), ⟨a, smOf x.v.c b⟩, []⟩ .nils) false)) hne (.row (itC ⟨kd, ((blkO S.p).map (·.1) |>.getD 0), ⟨a, smOf x.v.c b⟩, []⟩ w7) false)
   have j8 := own_set (own_lt j7) (itC ⟨kd, ((blkO S.p).map (·.1) |>.getD 0), ⟨a, smOf x.v.c b⟩, []⟩ w7)
   have r8 : RdB ((m7.set m5.length (.row (itC ⟨kd, ((blkO S.p).map (·.1) |>.getD 0), ⟨a, smOf x.v.c b⟩, []⟩ .nils) false)).set m5.length (.row (itC ⟨kd, ((blkO S.p).map (·.1) |>.getD 0), ⟨a, smOf x.v.c b⟩, []⟩ w7) false)) w7 ((blkO S.p).map (·.2) |>.getD []) := rw7.kept (X := [m5.length]) ((Kept.set1 _ _ _).trans (Kept.set1 _ _ _)) (fun b o n cap s e h => by
    simp only [List.mem_singleton] at h
    have := bl7 b (by rw [e]; simp [blkOf])
    have := own_lt i6
    omega)
   have t8 := own_set (own_lt z8) (itC Itm.zero .nils)
   have lm67 := k7.len
   by_cases hE : getE x.v.c kd a b = 0
   ·cases hB : blkO S.p with
    | none =>
     have hN : O = none := by rw [hO, if_neg (show ¬ ¬ _ from fun h => h hE), if_pos h4, ← h4, hS, hB]; rfl
     rw [hB] at n7 d7 j7 k8 z8 j8 t8
     simp only [Option.map_none, Option.getD_none] at n7 d7 j7 k8 z8 j8 t8
     simp -implicitDefEqProofs (disch := (first | omega | (simp only [lq7] <;> omega) | fail)) only [admQ, lq7, aFill, AK.cls, implies_true, if_true, if_false, seval, -List.reduceReplicate, i7, hL, n7, j7, d7, (rd_one rw7).1, (rd_one rw7).2, hE, hB, Option.map_none, Option.getD_none, Option.isSome_none, z8, hsp, rowOf_own t8, htk, Bool.not_true, Bool.not_false]
     exact non _ hN k8
    | some q =>
     have hY : O = some ⟨kd, q.1, ⟨a, smOf x.v.c b⟩, q.2⟩ := by rw [hO, if_neg (show ¬ ¬ _ from fun h => h hE), if_pos h4, ← h4, hS, hB]; rfl
     rw [hB] at n7 d7 j7 k8 z8 j8 t8 r8
     simp only [Option.map_some, Option.getD_some] at n7 d7 j7 k8 z8 j8 t8 r8
     have e8 : splice (itC Itm.zero .nils) 0 (itC ⟨kd, q.1, ⟨a, smOf x.v.c b⟩, []⟩ w7) = itC ⟨kd, q.1, ⟨a, smOf x.v.c b⟩, []⟩ w7 := splice_full (by rw [hL, hL])
     have t9 := own_set (own_lt z8) (itC ⟨kd, q.1, ⟨a, smOf x.v.c b⟩, []⟩ w7)
     simp -implicitDefEqProofs (disch := (first | omega | (simp only [lq7] <;> omega) | fail)) only [admQ, lq7, aFill, AK.cls, implies_true, if_true, if_false, seval, -List.reduceReplicate, i7, hL, n7, j7, d7, (rd_one rw7).1, (rd_one rw7).2, hE, hB, Option.map_some, Option.getD_some, Option.isSome_some, z8, rowOf_own j8, hal, e8, rowOf_own t9, Bool.not_true, Bool.not_false]
     obtain ⟨f1, f2⟩ := fin _ (itC ⟨kd, q.1, ⟨a, smOf x.v.c b⟩, []⟩ w7) k8
     refine ⟨w7, by rw [hY]; rfl, ?_, fun q hq => by have := bl7 q hq; have := own_lt i6; omega, f1, f2⟩
     rw [hY]
     exact r8.kept (X := [m.length + 1]) (Kept.set1 _ _ _) (fun b o n cap s e h => by
      simp only [List.mem_singleton] at h
      have := bl7 b (by rw [e]; simp [blkOf])
      have := own_lt i6
      omega)
   ·have hN : O = none := by rw [hO, if_pos hE]
    simp -implicitDefEqProofs (disch := (first | omega | (simp only [lq7] <;> omega) | fail)) only [admQ, lq7, aFill, AK.cls, implies_true, if_true, if_false, seval, -List.reduceReplicate, i7, hL, n7, j7, d7, (rd_one rw7).1, (rd_one rw7).2, beq_eq_false_iff_ne.mpr hE, z8, hsp, rowOf_own t8, htk, Bool.not_true, Bool.not_false]
    exact non _ hN k8
  ·by_cases h5 : kd = 5
   ·simp -implicitDefEqProofs (disch := (first | omega | (simp only [lq7] <;> omega) | fail)) only [admQ, lq7, aFill, AK.cls, implies_true, if_true, if_false, seval, -List.reduceReplicate, beq_eq_false_iff_ne.mpr h4, beq_iff_eq.mpr h5, rowOf_own q6, rowOf_own i6]
    refine (ans_pgget sw6.rd hgl).mono ?_
    rintro _ m7 ⟨k7, C, rfl, hC⟩
    have i7 := k7.own i6 (by simp)
    have z7 := k7.own z6 (by simp)
    have hne : m5.length ≠ m.length + 1 := by omega
    have n7 : splice (itC ⟨kd, 0, ⟨a, smOf x.v.c b⟩, []⟩ .nils) 1 [.int .i64 (pgGI S.p)] = itC ⟨kd, pgGI S.p, ⟨a, smOf x.v.c b⟩, []⟩ .nils := itC_no _ _ _
    have j8 := own_set (own_lt i7) (itC ⟨kd, pgGI S.p, ⟨a, smOf x.v.c b⟩, []⟩ .nils)
    have k8 : Kept [] m5 (m7.set m5.length (.row (itC ⟨kd, pgGI S.p, ⟨a, smOf x.v.c b⟩, []⟩ .nils) false)) := ((k6.trans k7).write (.inr (Nat.le_refl _)) _)
    have z8 := own_set_ne' z7 hne (.row (itC ⟨kd, pgGI S.p, ⟨a, smOf x.v.c b⟩, []⟩ .nils) false)
    have t8 := own_set (own_lt z8) (itC Itm.zero .nils)
    by_cases hE : getE x.v.c kd a b = 0
    ·by_cases hG : pgGE S.p = 0
     ·have hY : O = some ⟨kd, pgGI S.p, ⟨a, smOf x.v.c b⟩, []⟩ := by rw [hO, if_neg (show ¬ ¬ _ from fun h => h hE), if_neg h4, ← h5, hS, if_pos ⟨rfl, hG⟩]
      have e8 : splice (itC Itm.zero .nils) 0 (itC ⟨kd, pgGI S.p, ⟨a, smOf x.v.c b⟩, []⟩ .nils) = itC ⟨kd, pgGI S.p, ⟨a, smOf x.v.c b⟩, []⟩ .nils := splice_full (by rw [hL, hL])
      have t9 := own_set (own_lt z8) (itC ⟨kd, pgGI S.p, ⟨a, smOf x.v.c b⟩, []⟩ .nils)
      simp -implicitDefEqProofs (disch := (first | omega | (simp only [lq7] <;> omega) | fail)) only [admQ, lq7, aFill, AK.cls, implies_true, if_true, if_false, seval, -List.reduceReplicate, i7, hL, n7, hE, hG, z8, rowOf_own j8, hal, e8, rowOf_own t9, Bool.not_true, Bool.not_false]
      obtain ⟨f1, f2⟩ := fin _ (itC ⟨kd, pgGI S.p, ⟨a, smOf x.v.c b⟩, []⟩ .nils) k8
      exact ⟨.nils, by rw [hY]; rfl, by rw [hY]; exact .nils _, by simp [blkOf], f1, f2⟩
     ·have hN : O = none := by rw [hO, if_neg (show ¬ ¬ _ from fun h => h hE), if_neg h4, ← h5, hS, if_neg (fun h => hG h.2)]
      simp -implicitDefEqProofs (disch := (first | omega | (simp only [lq7] <;> omega) | fail)) only [admQ, lq7, aFill, AK.cls, implies_true, if_true, if_false, seval, -List.reduceReplicate, i7, hL, n7, hE, beq_eq_false_iff_ne.mpr hG, z8, hsp, rowOf_own t8, htk, Bool.not_true, Bool.not_false]
      exact non _ hN k8
    ·have hN : O = none := by rw [hO, if_pos hE]
     simp -implicitDefEqProofs (disch := (first | omega | (simp only [lq7] <;> omega) | fail)) only [admQ, lq7, aFill, AK.cls, implies_true, if_true, if_false, seval, -List.reduceReplicate, i7, hL, n7, beq_eq_false_iff_ne.mpr hE, z8, hsp, rowOf_own t8, htk, Bool.not_true, Bool.not_false]
     exact non _ hN k8
   ·have hN : O = none := by
     rw [hO, if_neg h4, if_neg (show ¬ (kd = 5 ∧ _) from fun h => h5 h.1), ite_self]
    have z7 := own_set (own_lt z6) (itC Itm.zero .nils)
    by_cases hE : getE x.v.c kd a b = 0
    ·simp -implicitDefEqProofs (disch := (first | omega | (simp only [lq7] <;> omega) | fail)) only [admQ, lq7, aFill, AK.cls, implies_true, if_true, if_false, seval, -List.reduceReplicate, beq_eq_false_iff_ne.mpr h4, beq_eq_false_iff_ne.mpr h5, rowOf_own q6, rowOf_own i6, hE, z6, hL, hsp, rowOf_own z7, htk, Bool.not_true, Bool.not_false]
     exact non _ hN k6
    ·simp -implicitDefEqProofs (disch := (first | omega | (simp only [lq7] <;> omega) | fail)) only [admQ, lq7, aFill, AK.cls, implies_true, if_true, if_false, seval, -List.reduceReplicate, beq_eq_false_iff_ne.mpr h4, beq_eq_false_iff_ne.mpr h5, rowOf_own q6, rowOf_own i6, beq_eq_false_iff_ne.mpr hE, z6, hL, hsp, rowOf_own z7, htk, Bool.not_true, Bool.not_false]
     exact non _ hN k6
end Go.Proofs.YtehnkcnjmfbjpaaGreat
end
section
namespace Go.Proofs.YtehnkcnjmfbjpaaGreat
open Go Go.Adm
set_option linter.unusedSimpArgs false
set_option linter.unusedVariables false
set_option maxRecDepth 100000
def intsC (l : List Int) : List AV := l.map (.int .i64 ·)
theorem intsC_len (l : List Int) : (intsC l).length = l.length := by simp [intsC]
theorem cntL_len (g : Geo) (l : List Rf) : (cntL g l).length = g.s.toNat := by simp [cntL]
theorem cntL_nil {g : Geo} {n : Nat} (h : g.s = n) : rep n [.int .i64 0] = intsC (cntL g []) := by
 apply List.ext_getElem
 ·simp [rep, intsC, cntL, h]
 ·intro i h1 h2
  simp [rep, intsC, cntL, List.getElem_replicate]
theorem plG_lt {g : Geo} {a : Int} (h : plB g a) : 0 ≤ (plG g a).1 ∧ (plG g a).1 < g.s ∧ 0 ≤ (plG g a).2 ∧ (plG g a).2 < g.n := by
 have hg : okG g := by
  by_cases hg : okG g
  ·exact hg
  ·unfold plB secsG at h; rw [if_neg hg] at h; omega
 have hn : 0 < g.n := by have := hg.1.2.1; omega
 have h2 := h
 unfold plB secsG at h2
 rw [if_pos hg] at h2
 rw [plG, if_pos h]
 refine ⟨Int.ediv_nonneg (by omega) (by omega), Int.ediv_lt_of_lt_mul hn (by omega), Int.emod_nonneg _ (by omega), Int.emod_lt_of_pos _ hn⟩
theorem cntL_snoc (g : Geo) (l : List Rf) (r : Rf) : cntL g (l ++ [r]) = if plB g r.at_ then (cntL g l).set (plG g r.at_).1.toNat ((cntL g l)[(plG g r.at_).1.toNat]?.getD 0 + 1) else cntL g l := by
 apply List.ext_getElem?
 intro i
 by_cases hp : plB g r.at_
 ·rw [if_pos hp]
  obtain ⟨b1, b2, b3, b4⟩ := plG_lt hp
  obtain ⟨j, hj⟩ : ∃ j : Nat, (plG g r.at_).1 = j := ⟨_, (Int.toNat_of_nonneg b1).symm⟩
  rw [hj, Int.toNat_natCast, List.getElem?_set]
  have hjl : j < (cntL g l).length := by rw [cntL_len]; omega
  by_cases hij : j = i
  ·subst hij
   rw [if_pos rfl, if_pos hjl]
   have hjs : j < g.s.toNat := by omega
   simp only [cntL, List.getElem?_map, List.getElem?_range hjs, Option.map_some, Option.getD_some, List.filter_append, List.length_append]
   rw [List.filter_cons_of_pos (by simp [hp, hj])]
   simp
  ·rw [if_neg hij]
   simp only [cntL, List.getElem?_map]
   by_cases hi : i < g.s.toNat
   ·simp only [List.getElem?_range hi, Option.map_some, List.filter_append, List.length_append]
    rw [List.filter_cons_of_neg (by simp [hj]; omega)]
    simp
   ·rw [List.getElem?_eq_none (by simp; omega)]; rfl
 ·rw [if_neg hp]
  simp only [cntL, List.filter_append, List.length_append]
  simp [hp]
theorem ans_lcounts {m : Mem} {xp xd xc xu xw xt : Nat} {B V : List Nat} {x : Pt} (h : PtM m xp xd xc xu xw xt B V x) (hg : 0 ≤ x.v.w.g.s ∧ x.v.w.g.s ≤ 64) (hr : x.t.refs.length ≤ 1000) :
  Ans Tryz.prog 24 [.ptr xp 0] m fun r m' => ∃ b, r = .sl b 0 x.v.w.g.s.toNat x.v.w.g.s.toNat 0 ∧ own m' b = some (intsC (cntL x.v.w.g x.t.refs)) ∧ m.length ≤ b ∧ Kept [] m m' := by
 refine ans_ret mixed ok24 ?_
 obtain ⟨hv, htr, hhd, ha1, ha2⟩ := h
 have hh := hhd
 unfold ptC at hh
 obtain ⟨n, hn⟩ : ∃ n : Nat, x.v.w.g.s = n := ⟨_, (Int.toNat_of_nonneg hg.1).symm⟩
 rw [hn] at hh hg ⊢
 have k0 := Kept.app [] m [Blk.row (rep n [.int .i64 0]) false]
 have o0 : own (m ++ [Blk.row (rep n [.int .i64 0]) false]) m.length = some (rep n [.int .i64 0]) := by rw [own_app_at0]; rfl
 have hh0 := k0.own hh (by simp)
 have ht0 := k0.own htr (by simp)
 simp -implicitDefEqProofs (disch := (first | omega | (simp only [lq7] <;> omega) | fail)) only [admQ, lq7, aFill, AK.cls, implies_true, if_true, if_false, seval, -List.reduceReplicate, c24, r24, rowOf_own hh, mkMake, rowOf_own hh0]
 generalize m ++ [Blk.row (rep n [.int .i64 0]) false] = A at *
 refine (ans_refs ht0).mono ?_
 rintro y m1 ⟨hy, k1⟩
 have o1 := k1.own o0 (by simp)
 have hh1 := k1.own hh0 (by simp)
 have hlen := GrL.len hy
 generalize hl : x.t.refs = l at *
 have hz : rep n [.int .i64 0] = intsC (cntL x.v.w.g []) := cntL_nil hn
 rw [hz] at o1
 have lm := own_lt o0
 simp -implicitDefEqProofs (disch := (first | omega | (simp only [lq7] <;> omega) | fail)) only [admQ, lq7, aFill, AK.cls, implies_true, if_true, if_false, seval, -List.reduceReplicate, hlen]
 refine LoopW.on (fun i : Nat => [(0, .ptr xp 0), (3, .sl m.length 0 n n 0), (18, y), (19, .int .i64 l.length), (20, .int .i64 i)]) (fun i => l.length - i)
  (fun i M => i ≤ l.length ∧ Kept [m.length] m1 M ∧ own M m.length = some (intsC (cntL x.v.w.g (l.take i)))) ?_ 0 _ _ rfl ⟨by omega, .refl _ _, by simpa using o1⟩
 rintro i M X ⟨hi, kk, oM⟩ hX
 have hxm := own_lt hh
 have hM := kk.own hh1 (by simp; omega)
 by_cases hlt : i < l.length
 ·obtain ⟨b, sc, rfl, ho, ht, hle⟩ := pt_rf hy hlt
  have hbm := hy.blk b (by simp [blkOf])
  have hr := kk.own ho (by simp; omega)
  have htk : l.take (i + 1) = l.take i ++ [l[i]] := by rw [List.take_add_one, List.getElem?_eq_getElem hlt]; rfl
  generalize l[i] = r at *
  have hrl := r.cells_len
  have k2 := Kept.app [] M [Blk.row r.cells false]
  have q2 : own (M ++ [Blk.row r.cells false]) M.length = some r.cells := by rw [own_app_at0]; rfl
  have h2 := k2.own hM (by simp)
  have o2 := k2.own oM (by simp)
  have lM := own_lt oM
  simp -implicitDefEqProofs (disch := (first | omega | (simp only [lq7] <;> omega) | fail)) only [admQ, lq7, aFill, AK.cls, implies_true, if_true, if_false, seval, -List.reduceReplicate, rowOf_own hr, ht, hle, hrl, Rf.sp, rowOf_own q2, rowOf_own h2, Rf.c0, hn]
  generalize M ++ [Blk.row r.cells false] = M2 at *
  have hg2 := ans_gplace x.v.w.g r.at_ M2
  unfold geoV geoC at hg2
  rw [hn] at hg2
  refine hg2.mono ?_
  rintro _ m3 ⟨rfl, k3⟩
  have o3 := k3.own o2 (by simp)
  have h3 := k3.own h2 (by simp)
  have q3 := k3.own q2 (by simp)
  have k4 := Kept.app [] m3 [Blk.row [.int .i64 (plG x.v.w.g r.at_).1, .int .i64 (plG x.v.w.g r.at_).2] false]
  have p4 : own (m3 ++ [Blk.row [.int .i64 (plG x.v.w.g r.at_).1, .int .i64 (plG x.v.w.g r.at_).2] false]) m3.length = some [.int .i64 (plG x.v.w.g r.at_).1, .int .i64 (plG x.v.w.g r.at_).2] := by rw [own_app_at0]; rfl
  have o4 := k4.own o3 (by simp)
  have K4 : Kept [m.length] m1 (m3 ++ [Blk.row [.int .i64 (plG x.v.w.g r.at_).1, .int .i64 (plG x.v.w.g r.at_).2] false]) := ((kk.trans k2.any).trans k3.any).trans k4.any
  by_cases hp : plB x.v.w.g r.at_
  ·obtain ⟨b1, b2, b3, b4⟩ := plG_lt hp
   obtain ⟨j, hj⟩ : ∃ j : Nat, (plG x.v.w.g r.at_).1 = j := ⟨_, (Int.toNat_of_nonneg b1).symm⟩
   have hjn : j < n := by omega
   have hL : (cntL x.v.w.g (l.take i)).length = n := by rw [cntL_len]; omega
   obtain ⟨c, hc⟩ : ∃ c, (cntL x.v.w.g (l.take i))[j]? = some c := ⟨_, List.getElem?_eq_getElem (by omega)⟩
   have hcc : (intsC (cntL x.v.w.g (l.take i)))[j]? = some (.int .i64 c) := by rw [intsC, List.getElem?_map, hc]; rfl
   have hcb : 0 ≤ c ∧ c ≤ l.length := by
    have h1 := List.mem_of_getElem? hc
    simp only [cntL, List.mem_map] at h1
    obtain ⟨s, -, rfl⟩ := h1
    have h2 := List.length_filter_le (fun r => decide (plB x.v.w.g r.at_ ∧ (plG x.v.w.g r.at_).1 = (s : Int))) (l.take i)
    have h3 : (l.take i).length ≤ l.length := by simp; omega
    omega
   have e : cntL x.v.w.g (l.take (i + 1)) = (cntL x.v.w.g (l.take i)).set j (c + 1) := by rw [htk, cntL_snoc, if_pos hp, hj, Int.toNat_natCast, hc]; rfl
   have hs : splice (intsC (cntL x.v.w.g (l.take i))) j [.int .i64 (c + 1)] = intsC ((cntL x.v.w.g (l.take i)).set j (c + 1)) := by
    rw [intsC, intsC, List.map_set]; exact splice_one _ _ _ (by simp; omega)
   have hw : IntKind.i64.wrap (c + 1) = c + 1 := wrap_i64 (by omega) (by omega)
   have hLC : (intsC (cntL x.v.w.g (l.take i))).length = n := by rw [intsC_len, hL]
   rw [hj] at p4 K4 o4 ⊢
   have o5 := own_set (own_lt o4) (intsC ((cntL x.v.w.g (l.take i)).set j (c + 1)))
   simp -implicitDefEqProofs (disch := (first | omega | (simp only [lq7] <;> omega) | fail)) only [admQ, lq7, aFill, AK.cls, implies_true, if_true, if_false, seval, -List.reduceReplicate, dec_t hp, rowOf_own p4, hj, rowOf_own o4, hcc, o4, hs, hw, hLC]
   refine hX (i + 1) _ _ rfl (by omega) ⟨by omega, K4.trans (Kept.set1 _ _ _), by rw [e]; exact o5⟩
  ·have e : cntL x.v.w.g (l.take (i + 1)) = cntL x.v.w.g (l.take i) := by rw [htk, cntL_snoc, if_neg hp]
   simp -implicitDefEqProofs (disch := (first | omega | (simp only [lq7] <;> omega) | fail)) only [admQ, lq7, aFill, AK.cls, implies_true, if_true, if_false, seval, -List.reduceReplicate, dec_f hp]
   exact hX (i + 1) _ _ rfl (by omega) ⟨by omega, K4, by rw [e]; exact o4⟩
 ·obtain rfl : i = l.length := by omega
  rw [List.take_length] at oM
  simp -implicitDefEqProofs (disch := (first | omega | (simp only [lq7] <;> omega) | fail)) only [admQ, lq7, aFill, AK.cls, implies_true, if_true, if_false, seval, -List.reduceReplicate]
  exact ⟨_, rfl, oM, Nat.le_refl _, (k0.trans k1).upon kk (fun q hq => by simp only [List.mem_singleton] at hq; omega)⟩
end Go.Proofs.YtehnkcnjmfbjpaaGreat
end
section
namespace Go.Proofs.YtehnkcnjmfbjpaaGreat
open Go Go.Adm
set_option linter.unusedSimpArgs false
set_option linter.unusedVariables false
theorem cGet_mem {c : Cch} (h : (c.map (·.1)).Nodup) {i : Int} {b : List B8} : cGet c i = some b ↔ (i, b) ∈ c := by
 unfold cGet
 constructor
 ·intro h1
  obtain ⟨j, h2, h3⟩ := Option.bind_eq_some_iff.mp h1
  obtain ⟨b', h4⟩ := cIdx_some h2
  rw [h4] at h3
  cases h3
  exact List.mem_of_getElem? h4
 ·intro h1
  obtain ⟨j, h2⟩ := List.mem_iff_getElem?.mp h1
  have : cIdx c i = some j := fidx_nodup h (by rw [List.getElem?_map, h2]; rfl)
  rw [this, Option.bind_some, h2]; rfl
theorem cPut_mem {c : Cch} {i k : Int} {b b' : List B8} (hk : k ≠ i) : (k, b') ∈ cPut c i b ↔ (k, b') ∈ c := by
 unfold cPut
 cases hj : cIdx c i with
 | none => simp [hk]
 | some j =>
  obtain ⟨b0, h0⟩ := cIdx_some hj
  constructor
  ·intro h
   rcases List.mem_or_eq_of_mem_set h with h | h
   ·exact h
   ·cases h; exact absurd rfl hk
  ·intro h
   obtain ⟨n, hn⟩ := List.mem_iff_getElem?.mp h
   refine List.mem_iff_getElem?.mpr ⟨n, ?_⟩
   rw [List.getElem?_set_ne]
   ·exact hn
   ·rintro rfl
    rw [h0] at hn; cases hn; exact hk rfl
theorem cGet_put_ne {c : Cch} (h : (c.map (·.1)).Nodup) {i k : Int} (b : List B8) (hk : k ≠ i) : cGet (cPut c i b) k = cGet c k := by
 apply Option.ext
 intro b'
 rw [cGet_mem (cPut_keys h), cGet_mem h, cPut_mem hk]
theorem cDel_mem {c : Cch} (h : (c.map (·.1)).Nodup) {i k : Int} {b' : List B8} (hk : k ≠ i) : (k, b') ∈ cDel c i ↔ (k, b') ∈ c := by
 unfold cDel
 cases hj : cIdx c i with
 | none => exact Iff.rfl
 | some j =>
  obtain ⟨b0, h0⟩ := cIdx_some hj
  simp only
  constructor
  ·intro h1; exact List.mem_of_mem_eraseIdx h1
  ·intro h1
   obtain ⟨n, hn⟩ := List.mem_iff_getElem?.mp h1
   rw [List.mem_eraseIdx_iff_getElem?]
   refine ⟨n, ?_, hn⟩
   rintro rfl
   rw [h0] at hn; cases hn; exact hk rfl
theorem cGet_del_ne {c : Cch} (h : (c.map (·.1)).Nodup) {i k : Int} (hk : k ≠ i) : cGet (cDel c i) k = cGet c k := by
 apply Option.ext
 intro b'
 rw [cGet_mem (cDel_keys h), cGet_mem h, cDel_mem h hk]
def CalmD (d : Dk) (n : Nat) : Prop := d.off = false ∧ d.armed = false ∧ d.lasts.length = n ∧ (d.cache.map (·.1)).Nodup
theorem CalmD.write {d : Dk} {n : Nat} (h : CalmD d n) {i : Int} (hi : 0 ≤ i ∧ i < n) {b : List B8} (hb : b.length ≤ 1024) : writeE d i b = 0 ∧ CalmD (writeD d i b) n ∧ ∀ j, peekD (writeD d i b) j = if j = i then b else peekD d j := by
 obtain ⟨h1, h2, h3, h4⟩ := h
 have hi' : okI d i := ⟨by omega, by omega⟩
 have hw : wrongD d i b = 0 := by rw [wrongD, if_neg (by simpa using hi'), if_neg (by omega)]
 have hs : spendE d = 0 := by rw [spendE, if_neg (by simp [h1]), if_neg (by simp [h2])]
 have hd : spendD d = { d with left := IntKind.i64.wrap (d.left - 1) } := by rw [spendD, if_neg (by simp [h1]), if_neg (by simp [h2])]
 have hD : writeD d i b = { spendD d with cache := cPut d.cache i b, writes := IntKind.i64.wrap (d.writes + 1) } := by rw [writeD, if_neg (by simp [h1]), if_neg (by simp [hw]), if_neg (by simp [hs])]
 refine ⟨by rw [writeE, if_neg (by simp [h1]), if_neg (by simp [hw]), hs], ?_, ?_⟩
 ·rw [hD, hd]; exact ⟨h1, h2, h3, cPut_keys h4⟩
 ·intro j
  rw [hD, hd, peekD]
  simp only
  by_cases hj : j = i
  ·subst hj; rw [cGet_put h4, if_pos rfl]; rfl
  ·rw [cGet_put_ne h4 b hj, if_neg hj]; rfl
theorem CalmD.read {d : Dk} {n : Nat} (h : CalmD d n) (i : Int) : CalmD (readD d i) n ∧ ∀ j, peekD (readD d i) j = peekD d j := ⟨h, fun j => rfl⟩
theorem CalmD.tamper {d : Dk} {n : Nat} (h : CalmD d n) {i : Int} (hi : 0 ≤ i ∧ i < n) {b : List B8} (hb : b.length ≤ 1024) : CalmD (tamperD d i b) n ∧ ∀ j, 0 ≤ j → peekD (tamperD d i b) j = if j = i then b else peekD d j := by
 obtain ⟨h1, h2, h3, h4⟩ := h
 have hi' : okI d i := ⟨by omega, by omega⟩
 have hw : wrongD d i b = 0 := by rw [wrongD, if_neg (by simpa using hi'), if_neg (by omega)]
 have hD : tamperD d i b = { d with lasts := d.lasts.set i.toNat b, cache := cDel d.cache i } := by rw [tamperD, if_neg (by simp [hw])]
 refine ⟨?_, ?_⟩
 ·rw [hD]; exact ⟨h1, h2, by simpa using h3, cDel_keys h4⟩
 ·intro j hj0
  rw [hD, peekD]
  simp only
  by_cases hj : j = i
  ·subst hj
   rw [cGet_del h4, if_pos rfl, Option.getD_none, List.getElem?_set_self (by omega)]; rfl
  ·rw [cGet_del_ne h4 hj, if_neg hj, List.getElem?_set_ne (by omega)]; rfl
def cyKn : CyS → List B8 → Prop
 | .nm _ T, b => b ∈ T
def cyTr : CyS → Nat → Prop
 | .nm _ T, n => T.length ≤ n + (if [] ∈ T then 1 else 0)
theorem mem_addN {α : Type} [DecidableEq α] {a b : α} {T : List α} : a ∈ addN b T ↔ a = b ∨ a ∈ T := by
 unfold addN; split
 ·constructor
  ·exact .inr
  ·rintro (rfl | h)
   ·assumption
   ·exact h
 ·rw [List.mem_append, List.mem_singleton, Or.comm]
theorem fidx_of_mem {α : Type} [DecidableEq α] {a : α} {T : List α} (h : a ∈ T) : ∃ i, fidx a T = some i := by
 cases hf : fidx a T with
 | none => exact absurd h (fidx_none.mp hf)
 | some i => exact ⟨i, rfl⟩
theorem cyKn_tx (c : CyS) (b : List B8) : cyKn (cyTx c b) b := by
 cases c with
 | nm S T => exact mem_addN.mpr (.inl rfl)
theorem cySm_tx (c : CyS) (b : List B8) : cySm (cyTx c b) b = cySm c b := by
 cases c with
 | nm S T =>
  simp only [cyTx, cySm, nsumB]
  obtain ⟨h1, h2⟩ := addN_in (fidx_addself b T)
  rw [h2]; have := (posN_le b T).1
  rw [show posN b T - 1 + 1 = posN b T by omega]
theorem cyKn_more {c : CyS} {b : List B8} (h : cyKn c b) (b' : List B8) : cyKn (cyTx c b') b ∧ cySm (cyTx c b') b = cySm c b := by
 cases c with
 | nm S T =>
  refine ⟨mem_addN.mpr (.inr h), ?_⟩
  obtain ⟨i, hi⟩ := fidx_of_mem (show b ∈ T from h)
  simp only [cyTx, cySm, nsumB]
  rw [(addN_in (fidx_add (b := b') hi)).2, (addN_in hi).2]
theorem cyNx_kn {c : CyS} (d : Sd) (b : List B8) : (cyKn (cyNx c d) b ↔ cyKn c b) ∧ cySm (cyNx c d) b = cySm c b := by
 cases c <;> exact ⟨Iff.rfl, rfl⟩
theorem putC_kn {c : CyS} (s : Sec) (b : List B8) : (cyKn (putC c s) b ↔ cyKn c b) ∧ cySm (putC c s) b = cySm c b := by
 unfold putC; split
 ·exact cyNx_kn _ _
 ·exact ⟨Iff.rfl, rfl⟩
theorem cyHas_put {c0 c : CyS} {d : Sd} (h : cyHas c0 c d) (s : Sec) : cyHas c0 (putC c s) d := by
 unfold putC; split
 ·exact cyHas_more h _
 ·exact h
theorem cyHas_tx {c0 c : CyS} {d : Sd} (h : cyHas c0 c d) (b : List B8) : cyHas c0 (cyTx c b) d := by
 cases c0 <;> cases c <;> exact h
theorem cyTr_tx {c : CyS} {n : Nat} (h : cyTr c n) (b : List B8) : cyTr (cyTx c b) (n + 1) := by
 cases c with
 | nm S T =>
  have h : T.length ≤ n + (if [] ∈ T then 1 else 0) := h
  show (addN b T).length ≤ n + 1 + (if [] ∈ addN b T then 1 else 0)
  have := addN_len b T
  by_cases h0 : [] ∈ T
  ·rw [if_pos h0] at h
   rw [if_pos (mem_addN.mpr (.inr h0))]; omega
  ·rw [if_neg h0] at h
   split <;> omega
theorem cyTr_nil {c : CyS} {n : Nat} (h : cyTr c n) : cyTr (cyTx c []) n := by
 cases c with
 | nm S T =>
  have h : T.length ≤ n + (if [] ∈ T then 1 else 0) := h
  show (addN [] T).length ≤ n + (if [] ∈ addN [] T then 1 else 0)
  by_cases h0 : [] ∈ T
  ·rw [show addN [] T = T from if_pos h0]; exact h
  ·rw [if_neg h0] at h
   rw [if_pos (mem_addN.mpr (.inl rfl))]
   have := addN_len [] T; omega
theorem cyTr_put {c : CyS} {n : Nat} (h : cyTr c n) (s : Sec) : cyTr (putC c s) n := by
 have e1 : ∀ s, cyTr (cyNx c s) n := fun s => by cases c <;> exact h
 unfold putC; split <;> first | exact e1 _ | exact h
theorem cyTr_k {c : CyS} {n : Nat} (h : cyTr c n) : cyTk c (n + 1) := by
 cases c with
 | nm S T =>
  simp only [cyTr, cyTk] at h ⊢
  split at h <;> omega
theorem cyTr_mono {c : CyS} {n k : Nat} (h : cyTr c n) (hk : n ≤ k) : cyTr c k := by
 cases c with
 | nm S T => simp only [cyTr] at h ⊢; omega
theorem cyTx_kn {c : CyS} {b : List B8} (h : cyKn c b) : cyTx c b = c := by
 cases c with
 | nm S T => simp only [cyTx]; rw [addN, if_pos (show b ∈ T from h)]
def Stored (d : Dk) (c : CyS) (a k : Int) (p : List B8) : Prop :=
 ∃ c0 s, okP s ∧ s.k = k ∧ s.a = a ∧ s.p = p ∧ peekD d a = putL c0 s ∧ cyHas c0 c (secD s) ∧ cyKn c (putL c0 s)
theorem Stored.get {d : Dk} {c : CyS} {a k : Int} {p : List B8} (h : Stored d c a k p) : kindB (peekD d a) = k ∧ getE c k a (peekD d a) = 0 ∧ (getS c k a (peekD d a)).p = p ∧ (peekD d a).length ≤ 1024 ∧ cyKn c (peekD d a) ∧ 1 ≤ k := by
 obtain ⟨c0, s, h1, rfl, rfl, rfl, h5, h6, h7⟩ := h
 obtain ⟨p1, p2⟩ := get_put h1 h6
 rw [h5]
 refine ⟨(putL_parts h1).1, p1, by rw [p2], ?_, h7, h1.1.1⟩
 rw [putL_len h1]; have := h1.2.2; omega
theorem Stored.uniq {d : Dk} {c : CyS} {a k k' : Int} {p p' : List B8} (h : Stored d c a k p) (h' : Stored d c a k' p') : k = k' ∧ p = p' := by
 obtain ⟨a1, a2, a3, -⟩ := h.get
 obtain ⟨b1, b2, b3, -⟩ := h'.get
 have : k = k' := a1.symm.trans b1
 subst this
 exact ⟨rfl, a3.symm.trans b3⟩
theorem Stored.step {d d' : Dk} {c c' : CyS} {a k : Int} {p : List B8} (h : Stored d c a k p) (hd : peekD d' a = peekD d a) (hh : ∀ c0 d, cyHas c0 c d → cyHas c0 c' d) (hk : ∀ b, cyKn c b → cyKn c' b) : Stored d' c' a k p := by
 obtain ⟨c0, s, h1, h2, h3, h4, h5, h6, h7⟩ := h
 exact ⟨c0, s, h1, h2, h3, h4, hd.trans h5, hh _ _ h6, hk _ h7⟩
structure CyUp (c1 c2 : CyS) : Prop where
 has : ∀ c0 d, cyHas c0 c1 d → cyHas c0 c2 d
 kn : ∀ b, cyKn c1 b → cyKn c2 b
 sm : ∀ b, cyKn c1 b → cySm c2 b = cySm c1 b
 ty : cyT c2 = cyT c1
theorem CyUp.refl (c : CyS) : CyUp c c := ⟨fun _ _ h => h, fun _ h => h, fun _ _ => rfl, rfl⟩
theorem CyUp.trans {a b c : CyS} (h : CyUp a b) (g : CyUp b c) : CyUp a c := ⟨fun _ _ x => g.has _ _ (h.has _ _ x), fun _ x => g.kn _ (h.kn _ x), fun _ x => (g.sm _ (h.kn _ x)).trans (h.sm _ x), g.ty.trans h.ty⟩
theorem CyUp.tx (c : CyS) (b : List B8) : CyUp c (cyTx c b) := ⟨fun _ _ h => cyHas_tx h b, fun _ h => (cyKn_more h b).1, fun _ h => (cyKn_more h b).2, cyT_tx c b⟩
theorem CyUp.put (c : CyS) (s : Sec) : CyUp c (putC c s) := ⟨fun _ _ h => cyHas_put h s, fun _ h => (putC_kn s _).1.mpr h, fun b _ => (putC_kn s b).2, cyT_put c s⟩
end Go.Proofs.YtehnkcnjmfbjpaaGreat
end
section
namespace Go.Proofs.YtehnkcnjmfbjpaaGreat
open Go Go.Adm
set_option linter.unusedSimpArgs false
set_option linter.unusedVariables false
set_option maxRecDepth 100000
def gS : Geo := ⟨18, 32, 4⟩
theorem gS_ok : okG gS := by decide
theorem atG_gS {a b : Int} (ha : 0 ≤ a ∧ a ≤ 17) (hb : 0 ≤ b ∧ b ≤ 31) : atG gS a b = 3 + a * 32 + b := by
 rw [atG, if_pos ⟨gS_ok, by show 0 ≤ a ∧ a ≤ 18 - 1; omega, hb.1, by show b ≤ 32 - 1; omega⟩]; rfl
def Vl.pos (v : Vl) : Int := 32 * v.w.seg + v.w.slot
structure TbOk (u : List Sg) (seg : Int) (cn : Nat → Int) : Prop where
 len : u.length = 18
 row : ∀ s : Nat, s < 18 → ∃ ag, u[s]? = some ⟨if (s : Int) < seg then 2 else if (s : Int) = seg then 1 else 0, cn s, ag⟩
 cb : ∀ s : Nat, s < 18 → 0 ≤ cn s ∧ cn s ≤ 64
 no : ∀ s : Nat, s < 18 → seg < (s : Int) → cn s = 0
structure LgW (v : Vl) (cn : Nat → Int) : Prop where
 g : v.w.g = gS
 ep : v.w.ep = 1
 seg : 0 ≤ v.w.seg ∧ v.w.seg ≤ 17
 slot : 0 ≤ v.w.slot ∧ v.w.slot ≤ 32
 no : v.w.no = 2 + v.pos
 dk : CalmD v.d 579
 co : cyOk v.c v.w.no.toNat
 ct : cyTr v.c v.w.no.toNat
 st : ∀ a, 3 ≤ a → a < 3 + v.pos → ∃ k p, Stored v.d v.c a k p
 un : ∀ a, 3 + v.pos ≤ a → peekD v.d a = []
 tb : TbOk v.u v.w.seg cn
structure Ext (v1 v2 : Vl) : Prop where
 up : CyUp v1.c v2.c
 pk : ∀ a, a < 3 + v1.pos → peekD v2.d a = peekD v1.d a
 le : v1.pos ≤ v2.pos
theorem Ext.refl (v : Vl) : Ext v v := ⟨.refl _, fun _ _ => rfl, Int.le_refl _⟩
theorem Ext.trans {a b c : Vl} (h : Ext a b) (g : Ext b c) : Ext a c := ⟨h.up.trans g.up, fun x hx => (g.pk x (by have := h.le; omega)).trans (h.pk x hx), by have := h.le; have := g.le; omega⟩
theorem Ext.stored {v1 v2 : Vl} (h : Ext v1 v2) {a k : Int} {p : List B8} (hs : Stored v1.d v1.c a k p) (ha : a < 3 + v1.pos) : Stored v2.d v2.c a k p := hs.step (h.pk a ha) h.up.has h.up.kn
theorem Ext.sm {v1 v2 : Vl} (h : Ext v1 v2) {a k : Int} {p : List B8} (hs : Stored v1.d v1.c a k p) (ha : a < 3 + v1.pos) : smOf v2.c (peekD v2.d a) = smOf v1.c (peekD v1.d a) := by
 obtain ⟨-, -, -, -, hk, -⟩ := hs.get
 rw [h.pk a ha]
 exact Subtype.ext (h.up.sm _ hk)
theorem cyOk_num {c : CyS} {n : Nat} (h : cyOk c n) (s : Sec) : cyOk (putC c s) (n + 1) := cyOk_put _ h
theorem wr_step {v : Vl} {cn : Nat → Int} (h : LgW v cn) (hs : v.w.slot ≤ 31) {k : Int} (hk : 3 ≤ k ∧ k ≤ 5) {p : List B8} (hp : p.length ≤ 975) :
  v.atS = 3 + v.pos ∧ wrE v k p = 0 ∧ LgW (wrV v k p) cn ∧ (wrV v k p).w = { v.w with no := v.w.no + 1, slot := v.w.slot + 1 } ∧ (wrV v k p).u = v.u ∧ Ext v (wrV v k p) ∧ (wrV v k p).pos = v.pos + 1 ∧
  Stored (wrV v k p).d (wrV v k p).c v.atS k p ∧ wrR v k p = ⟨v.atS, smOf (wrV v k p).c (peekD (wrV v k p).d v.atS)⟩ := by
 have hseg := h.seg
 have hslot := h.slot
 have hno := h.no
 have hpos : v.pos = 32 * v.w.seg + v.w.slot := rfl
 have ha : v.atS = 3 + v.pos := by
  rw [Vl.atS, h.g, atG_gS hseg ⟨hslot.1, hs⟩, hpos]; omega
 have hok : okP (v.sec k p) := by
  refine ⟨by show 1 ≤ k ∧ k ≤ 5; omega, ?_, hp⟩
  show rightP v.w.ep v.w.no v.atS
  rw [h.ep]
  exact ⟨by omega, by omega, by omega⟩
 have hE : errP (v.sec k p) = 0 := (errP_ok _).mpr hok
 have hlen : (v.by k p).length ≤ 1024 := by rw [Vl.by, putL_len hok]; show 49 + p.length ≤ 1024; omega
 obtain ⟨w1, w2, w3⟩ := h.dk.write (i := v.atS) (by omega) hlen
 have hW1 : wrE v k p = 0 := by rw [wrE, if_neg (by simp [hE]), w1]
 have e1 : IntKind.i64.wrap (v.w.no + 1) = v.w.no + 1 := wrap_i64 (by omega) (by omega)
 have e2 : IntKind.i64.wrap (v.w.slot + 1) = v.w.slot + 1 := wrap_i64 (by omega) (by omega)
 have hV : wrV v k p = { v with c := cyTx (putC v.c (v.sec k p)) (v.by k p), d := writeD v.d v.atS (v.by k p), w := { v.w with no := v.w.no + 1, slot := v.w.slot + 1 } } := by
  rw [wrV, if_neg (by simp [hE]), if_neg (by simp [w1]), e1, e2]
 rw [hV]
 have up : CyUp v.c (cyTx (putC v.c (v.sec k p)) (v.by k p)) := (CyUp.put _ _).trans (CyUp.tx _ _)
 have pk : ∀ a, a < 3 + v.pos → peekD (writeD v.d v.atS (v.by k p)) a = peekD v.d a := fun a h1 => by rw [w3, if_neg (by omega)]
 have hS : Stored (writeD v.d v.atS (v.by k p)) (cyTx (putC v.c (v.sec k p)) (v.by k p)) v.atS k p := by
  refine ⟨v.c, v.sec k p, hok, rfl, rfl, rfl, by rw [w3, if_pos rfl]; rfl, ?_, cyKn_tx _ _⟩
  refine cyHas_tx ?_ _
  rw [putC, if_pos hok]
  exact cyHas_nx _ (okP_may hok)
 have hp1 : Vl.pos { v with c := cyTx (putC v.c (v.sec k p)) (v.by k p), d := writeD v.d v.atS (v.by k p), w := { v.w with no := v.w.no + 1, slot := v.w.slot + 1 } } = v.pos + 1 := by
  show 32 * v.w.seg + (v.w.slot + 1) = _; omega
 refine ⟨ha, hW1, ?_, rfl, rfl, ⟨up, pk, by rw [hp1]; omega⟩, hp1, hS, ?_⟩
 ·have hn : (v.w.no + 1).toNat = v.w.no.toNat + 1 := by omega
  refine ⟨h.g, h.ep, hseg, ⟨by show 0 ≤ v.w.slot + 1; omega, by show v.w.slot + 1 ≤ 32; omega⟩, ?_, w2, ?_, ?_, ?_, ?_, h.tb⟩
  ·rw [hp1]; show v.w.no + 1 = _; omega
  ·show cyOk _ (v.w.no + 1).toNat
   rw [hn]; exact cyOk_tx (cyOk_num h.co _) _
  ·show cyTr _ (v.w.no + 1).toNat
   rw [hn]; exact cyTr_tx (cyTr_put h.ct _) _
  ·intro a h1 h2
   rw [hp1] at h2
   by_cases e : a = v.atS
   ·subst e; exact ⟨k, p, hS⟩
   ·obtain ⟨k', p', hs'⟩ := h.st a h1 (by omega)
    exact ⟨k', p', hs'.step (pk a (by omega)) up.has up.kn⟩
  ·intro a h1
   rw [hp1] at h1
   show peekD (writeD v.d v.atS (v.by k p)) a = []
   rw [w3, if_neg (by omega)]
   exact h.un a (by omega)
 ·rw [wrR, if_pos hW1]
  congr 1
  apply Subtype.ext
  show cySm (putC v.c (v.sec k p)) (v.by k p) = cySm (cyTx (putC v.c (v.sec k p)) (v.by k p)) (peekD (writeD v.d v.atS (v.by k p)) v.atS)
  rw [w3, if_pos rfl, cySm_tx]
theorem tb_first {u : List Sg} {seg : Int} {cn : Nat → Int} (h : TbOk u seg cn) (hs : 0 ≤ seg ∧ seg ≤ 17) : idxOf 1 u = seg ∧ (seg ≤ 16 → idxOf 0 u = seg + 1) := by
 have hl := h.len
 obtain ⟨s, rfl⟩ := Int.eq_ofNat_of_zero_le hs.1
 have hst : ∀ j (hj : j < u.length), u[j].st = if j < s then 2 else if j = s then 1 else 0 := fun j hj => by
  obtain ⟨ag, e⟩ := h.row j (by omega)
  rw [List.getElem?_eq_getElem hj, Option.some.injEq] at e
  rw [e]
  simp only [Int.ofNat_lt, Int.ofNat_inj]
 constructor
 ·refine idxOf_some (by omega) (by rw [hst]; simp) fun j hj hlt => ?_
  rw [hst, if_pos hlt]; decide
 ·intro h16
  have := idxOf_some (s := 0) (l := u) (i := s + 1) (by omega) (by rw [hst]; simp) fun j hj hlt => by
   rw [hst]
   by_cases h1 : j < s
   ·rw [if_pos h1]; decide
   ·rw [if_neg h1, if_pos (by omega)]; decide
  rw [this]; omega
theorem tb_take {u : List Sg} {seg : Int} {cn : Nat → Int} (h : TbOk u seg cn) (hs : 0 ≤ seg ∧ seg ≤ 16) (no : Int) : (takeM no u).1 = seg + 1 ∧ TbOk (takeM no u).2.2 (seg + 1) cn := by
 obtain ⟨i1, i0⟩ := tb_first h (by omega)
 have i0 := i0 hs.2
 have hl := h.len
 obtain ⟨s, rfl⟩ := Int.eq_ofNat_of_zero_le hs.1
 obtain ⟨ag, e⟩ := h.row s (by omega)
 have hT : takeM no u = ((s : Int) + 1, true, (u.set s ⟨2, cn s, ag⟩).set (s + 1) ⟨1, 0, cutI no 1099511627776⟩) := by
  rw [takeM, i0, i1, if_pos (by omega), if_pos (by omega), Int.toNat_natCast, e]
  rw [show ((s : Int) + 1).toNat = s + 1 by omega]
 rw [hT]
 refine ⟨rfl, by simp [hl], ?_, h.cb, fun j hj hlt => h.no j hj (by omega)⟩
 intro j hj
 show ∃ ag', ((u.set s ⟨2, cn s, ag⟩).set (s + 1) ⟨1, 0, cutI no 1099511627776⟩)[j]? = _
 by_cases h1 : j = s + 1
 ·subst h1
  refine ⟨cutI no 1099511627776, ?_⟩
  rw [List.getElem?_set_self (by simp; omega), h.no (s + 1) (by omega) (by omega), if_neg (by omega), if_pos (by omega)]
 ·rw [List.getElem?_set_ne (by omega)]
  by_cases h2 : j = s
  ·subst h2
   exact ⟨ag, by rw [List.getElem?_set_self (by omega), if_pos (by omega)]⟩
  ·rw [List.getElem?_set_ne (by omega)]
   obtain ⟨ag', e'⟩ := h.row j hj
   refine ⟨ag', ?_⟩
   rw [e']
   by_cases h3 : j < s
   ·rw [if_pos (by omega), if_pos (by omega)]
   ·rw [if_neg (by omega), if_neg (by omega), if_neg (by omega), if_neg (by omega)]
theorem tb_full {u : List Sg} {seg : Int} {cn : Nat → Int} (h : TbOk u seg cn) (hs : 0 ≤ seg ∧ seg ≤ 16) : ¬ u.countP (·.st == 0) = 0 := by
 have hl := h.len
 obtain ⟨s, rfl⟩ := Int.eq_ofNat_of_zero_le hs.1
 obtain ⟨ag, e⟩ := h.row (s + 1) (by omega)
 rw [if_neg (by omega), if_neg (by omega)] at e
 intro hc
 rw [List.countP_eq_zero] at hc
 exact hc _ (List.mem_of_getElem? e) (by simp)
end Go.Proofs.YtehnkcnjmfbjpaaGreat
end
section
namespace Go.Proofs.YtehnkcnjmfbjpaaGreat
open Go Go.Adm
set_option linter.unusedSimpArgs false
set_option linter.unusedVariables false
set_option maxRecDepth 100000
def lastS : Int → List Ent → Int
 | last, [] => last
 | last, e :: l => if e.k = 2 then lastS last l else lastS e.s l
theorem chkL_app (e : Ent) : ∀ (l : List Ent) (last : Int), chkL last l = 0 → chkL last (l ++ [e]) = chkL (lastS last l) [e] ∧ lastS last (l ++ [e]) = if e.k = 2 then lastS last l else e.s := by
 intro l
 induction l with
 | nil => intro last _; exact ⟨rfl, rfl⟩
 | cons x l ih =>
  intro last h
  rw [List.cons_append]
  unfold chkL at h ⊢
  by_cases h1 : 1 ≤ x.k ∧ x.k ≤ 3
  ·rw [if_neg (by simpa using h1)] at h
   rw [if_neg (by simpa using h1)]
   by_cases h2 : x.placed
   ·rw [if_neg (by simpa using h2)] at h
    rw [if_neg (by simpa using h2)]
    by_cases h3 : x.k = 2
    ·rw [if_pos h3] at h
     rw [if_pos h3]
     simp only [lastS, if_pos h3]
     exact ih last h
    ·rw [if_neg h3] at h
     rw [if_neg h3]
     by_cases h4 : 0 ≤ last ∧ x.s ≠ last + 1
     ·rw [if_pos h4] at h; exact absurd h (by decide)
     ·rw [if_neg h4] at h
      rw [if_neg h4]
      simp only [lastS, if_neg h3]
      exact ih x.s h
   ·rw [if_pos (by simpa using h2)] at h; exact absurd h (by decide)
  ·rw [if_pos (by simpa using h1)] at h; exact absurd h (by decide)
def EntsOk (l : List Ent) (slot : Int) : Prop := chkL (-1) l = 0 ∧ (lastS (-1) l = -1 ∨ lastS (-1) l = slot - 1)
theorem EntsOk.nil (slot : Int) : EntsOk [] slot := ⟨rfl, .inl rfl⟩
theorem EntsOk.lay {l : List Ent} {slot : Int} (h : EntsOk l slot) {e : Ent} (hk : e.k = 1 ∨ e.k = 3) (hp : e.placed) (hs : e.s = slot) : EntsOk (l ++ [e]) (slot + 1) := by
 obtain ⟨c1, c2⟩ := chkL_app e l (-1) h.1
 have hk2 : ¬ e.k = 2 := by omega
 refine ⟨?_, .inr ?_⟩
 ·rw [c1]
  unfold chkL
  rw [if_neg (by omega), if_neg (by simpa using hp), if_neg hk2, if_neg (by have := h.2; omega)]; rfl
 ·rw [c2, if_neg hk2, hs]; omega
structure LgV (v : Vl) (cn : Nat → Int) : Prop where
 w : LgW v cn
 s31 : v.w.slot ≤ 31
 el : v.w.ents.length ≤ 15
 ek : EntsOk v.w.ents v.w.slot
def psi (v : Vl) : Int := 496 * v.w.seg + 16 * v.w.slot + v.w.ents.length
theorem ents_by : ∀ l : List Ent, (l.flatMap Ent.by).length = 56 * l.length := by
 intro l
 induction l with
 | nil => rfl
 | cons e l ih => rw [List.flatMap_cons, List.length_append, ih, Ent.by_len, List.length_cons]; omega
theorem smyB_le (s : Smy) : (smyB s).length ≤ 975 := by
 unfold smyB
 split
 ·rename_i h
  have hl : s.ents.length ≤ 16 := by
   unfold smyE at h
   split at h
   ·exact absurd h (by decide)
   ·omega
  have := s.prev.2
  simp only [smyR, List.length_append, numI_len, ents_by]
  omega
 ·simp
theorem wr_u (v : Vl) (u : List Sg) (k : Int) (p : List B8) : wrE { v with u := u } k p = wrE v k p ∧ wrV { v with u := u } k p = { wrV v k p with u := u } ∧ wrR { v with u := u } k p = wrR v k p := by
 have e1 : wrE { v with u := u } k p = wrE v k p := rfl
 refine ⟨e1, ?_, ?_⟩
 ·by_cases h1 : errP (v.sec k p) ≠ 0
  ·have e : wrV v k p = v := if_pos h1
   have e' : wrV { v with u := u } k p = { v with u := u } := if_pos h1
   rw [e, e']
  ·by_cases h2 : writeE v.d v.atS (v.by k p) ≠ 0
   ·have e : wrV v k p = _ := (if_neg h1).trans (if_pos h2)
    have e' : wrV { v with u := u } k p = _ := (if_neg h1).trans (if_pos h2)
    rw [e, e']; rfl
   ·have e : wrV v k p = _ := (if_neg h1).trans (if_neg h2)
    have e' : wrV { v with u := u } k p = _ := (if_neg h1).trans (if_neg h2)
    rw [e, e']; rfl
 ·rfl
theorem en_step {v : Vl} {cn : Nat → Int} (h : LgW v cn) (hs : v.w.slot ≤ 31) (h16 : v.w.seg ≤ 16) (hl : v.w.ents.length ≤ 16) (he : chkL (-1) v.w.ents = 0) :
  enE v 0 = 0 ∧ LgV (enV v 0) cn ∧ (enV v 0).w.ents = [] ∧ Ext v (enV v 0) ∧ (enV v 0).pos = v.pos + 1 := by
 have hseg := h.seg
 have hslot := h.slot
 have hgn : v.w.g.n = 32 := by rw [h.g]; rfl
 have hlast : v.last 0 ↔ v.w.slot = 31 := by unfold Vl.last; rw [hgn]; omega
 obtain ⟨t1, t2⟩ := tb_take h.tb ⟨hseg.1, h16⟩ v.w.no
 have hN : enN v = if v.w.slot = 31 then v.w.seg + 1 else -1 := by
  unfold enN
  by_cases hc : v.w.slot = 31
  ·rw [if_pos (hlast.mpr hc), if_pos hc, t1]
  ·rw [if_neg (fun h => hc (hlast.mp h)), if_neg hc]
 have hNb : -1 ≤ enN v ∧ enN v ≤ 31 := by rw [hN]; split <;> omega
 have hE : smyE (enS v 0) = 0 := by
  unfold smyE
  rw [if_neg (by show ¬ v.w.ents.length > 16; omega), if_neg]
  ·exact he
  ·show ¬ (¬ ((0 : Int) ≤ 0 ∧ (0 : Int) ≤ 1099511627776) ∨ ¬ (-1 ≤ enN v ∧ enN v ≤ 31))
   omega
 obtain ⟨a1, a2, a3, a4, a5, a6, a7, a8, a9⟩ := wr_step h hs (k := 3) (by omega) (smyB_le (enS v 0))
 have hU : enU v = { v with u := (enU v).u } := by
  unfold enU; split <;> rfl
 obtain ⟨u1, u2, u3⟩ := wr_u v (enU v).u 3 (smyB (enS v 0))
 rw [← hU] at u1 u2 u3
 have hE2 : wrE (enU v) 3 (smyB (enS v 0)) = 0 := by rw [u1, a2]
 have hE3 : enE v 0 = 0 := by rw [enE, if_neg (by simp [hE]), hE2]
 have hV : enV v 0 = { wrV v 3 (smyB (enS v 0)) with u := (enU v).u, w := { (wrV v 3 (smyB (enS v 0))).w with prev := (wrR (enU v) 3 (smyB (enS v 0))).sum, ents := [], seg := if 0 ≤ enN v then enN v else (wrV v 3 (smyB (enS v 0))).w.seg, slot := if 0 ≤ enN v then 0 else (wrV v 3 (smyB (enS v 0))).w.slot } } := by
  rw [enV, if_neg (by simp [hE]), if_neg (by simp [hE2]), u2]
 have hg2 := a3.g
 have hep2 := a3.ep
 generalize wrV v 3 (smyB (enS v 0)) = v2 at *
 have hp2 : v2.pos = 32 * v.w.seg + (v.w.slot + 1) := by show 32 * v2.w.seg + v2.w.slot = _; rw [a4]
 have hno2 : v2.w.no = v.w.no + 1 := by rw [a4]
 have hpe : (enV v 0).pos = v.pos + 1 := by
  rw [hV]
  show 32 * (if 0 ≤ enN v then enN v else v2.w.seg) + (if 0 ≤ enN v then 0 else v2.w.slot) = 32 * v.w.seg + v.w.slot + 1
  rw [hN, a4]
  by_cases hc : v.w.slot = 31
  ·rw [if_pos hc, if_pos (by omega), if_pos (by omega)]; omega
  ·rw [if_neg hc, if_neg (by omega), if_neg (by omega)]
   show 32 * v.w.seg + (v.w.slot + 1) = _
   omega
 have hx : Ext v (enV v 0) := ⟨by rw [hV]; exact a6.up, by rw [hV]; exact a6.pk, by rw [hpe]; omega⟩
 have hsg : (enV v 0).w.seg = (if v.w.slot = 31 then v.w.seg + 1 else v.w.seg) ∧ (enV v 0).w.slot = if v.w.slot = 31 then 0 else v.w.slot + 1 := by
  rw [hV]
  show (if 0 ≤ enN v then enN v else v2.w.seg) = _ ∧ (if 0 ≤ enN v then 0 else v2.w.slot) = _
  rw [hN, a4]
  by_cases hc : v.w.slot = 31
  ·rw [if_pos hc, if_pos hc, if_pos hc, if_pos (by omega), if_pos (by omega)]; exact ⟨rfl, rfl⟩
  ·rw [if_neg hc, if_neg hc, if_neg hc, if_neg (by omega), if_neg (by omega)]; exact ⟨rfl, rfl⟩
 have he0 : (enV v 0).w.ents = [] := by rw [hV]
 have hpos : v.pos = 32 * v.w.seg + v.w.slot := rfl
 refine ⟨hE3, ⟨⟨?_, ?_, ?_, ?_, ?_, ?_, ?_, ?_, ?_, ?_, ?_⟩, ?_, by rw [he0]; simp, by rw [he0]; exact .nil _⟩, he0, hx, hpe⟩
 ·rw [hV]; exact hg2
 ·rw [hV]; exact hep2
 ·rw [hsg.1]; split <;> omega
 ·rw [hsg.2]; split <;> omega
 ·rw [hpe, hV]; show v2.w.no = _; rw [hno2, h.no]; omega
 ·rw [hV]; exact a3.dk
 ·rw [hV]; exact a3.co
 ·rw [hV]; exact a3.ct
 ·intro a b1 b2
  rw [hpe] at b2
  rw [hV]
  exact a3.st a b1 (by omega)
 ·intro a b1
  rw [hpe] at b1
  rw [hV]
  exact a3.un a (by omega)
 ·rw [hsg.1]
  have hu : (enV v 0).u = (enU v).u := by rw [hV]
  rw [hu]
  unfold enU
  by_cases hc : v.w.slot = 31
  ·rw [if_pos hc, if_pos (hlast.mpr hc)]; exact t2
  ·rw [if_neg hc, if_neg (fun h => hc (hlast.mp h))]; exact h.tb
 ·rw [hsg.2]; split <;> omega
theorem rm_step {v : Vl} {cn : Nat → Int} (h : LgV v cn) (h16 : v.w.seg ≤ 16) : rmE v = 0 ∧ LgV (rmV v) cn ∧ (rmV v).w.slot ≤ 30 ∧ Ext v (rmV v) ∧ psi (rmV v) ≤ psi v ∧ (rmV v).w.seg ≤ v.w.seg + 1 ∧ (v.w.slot ≤ 30 → rmV v = v) := by
 have hgn : v.w.g.n = 32 := by rw [h.w.g]; rfl
 have hlast : v.last 0 ↔ v.w.slot = 31 := by unfold Vl.last; rw [hgn]; omega
 have hs := h.s31
 have hslot := h.w.slot
 unfold rmE rmV
 by_cases hc : v.w.slot = 31
 ·rw [if_pos (hlast.mpr hc), if_pos (hlast.mpr hc)]
  obtain ⟨a1, a2, a3, a4, a5⟩ := en_step h.w hs h16 (by have := h.el; omega) h.ek.1
  have s1 := a2.w.slot
  have s2 := a2.s31
  have e5 : 32 * (enV v 0).w.seg + (enV v 0).w.slot = 32 * v.w.seg + v.w.slot + 1 := a5
  refine ⟨a1, a2, by omega, a4, ?_, by omega, fun h => by omega⟩
  unfold psi
  rw [a3]; simp only [List.length_nil]; omega
 ·rw [if_neg (fun h => hc (hlast.mp h)), if_neg (fun h => hc (hlast.mp h))]
  exact ⟨rfl, h, by omega, .refl _, Int.le_refl _, by omega, fun _ => rfl⟩
theorem ly_step {v : Vl} {cn : Nat → Int} {x : Ent} (h : LgW v cn) (hs : v.w.slot ≤ 31) (h16 : v.w.seg ≤ 16) (hl : v.w.ents.length ≤ 15) (he : EntsOk (v.w.ents ++ [x]) v.w.slot) :
  lyE v x = 0 ∧ LgV (lyV v x) cn ∧ Ext v (lyV v x) ∧ psi (lyV v x) ≤ psi v + 1 := by
 have hw : LgW (lyW v x) cn := ⟨h.g, h.ep, h.seg, h.slot, h.no, h.dk, h.co, h.ct, h.st, h.un, h.tb⟩
 have hll : (lyW v x).w.ents.length = v.w.ents.length + 1 := by show (v.w.ents ++ [x]).length = _; simp
 have hx : Ext v (lyW v x) := ⟨.refl _, fun _ _ => rfl, Int.le_refl _⟩
 have hps : psi (lyW v x) = psi v + 1 := by
  show 496 * v.w.seg + 16 * v.w.slot + ((v.w.ents ++ [x]).length : Nat) = _
  unfold psi; simp; omega
 unfold lyE lyV
 by_cases hc : v.w.ents.length + 1 < 16
 ·rw [if_pos hc, if_pos hc]
  exact ⟨rfl, ⟨hw, hs, by omega, he⟩, hx, by omega⟩
 ·rw [if_neg hc, if_neg hc]
  obtain ⟨a1, a2, a3, a4, a5⟩ := en_step hw hs h16 (by omega) he.1
  have s1 := a2.w.slot
  have s2 := a2.s31
  have e5 : 32 * (enV (lyW v x) 0).w.seg + (enV (lyW v x) 0).w.slot = 32 * v.w.seg + v.w.slot + 1 := a5
  refine ⟨a1, a2, hx.trans a4, ?_⟩
  have hsl := h.slot
  unfold psi
  rw [a3]; simp only [List.length_nil]; omega
theorem ap_step {v : Vl} {cn : Nat → Int} (h : LgV v cn) (h15 : v.w.seg ≤ 15) {k no : Int} (hk : k = 4 ∧ 0 ≤ no ∧ no < 64 ∨ k = 5 ∧ 0 ≤ no ∧ no < 9) {p : List B8} (hp : p.length ≤ 975) :
  apE v k no p = 0 ∧ LgV (apV v k no p) cn ∧ Ext v (apV v k no p) ∧ psi (apV v k no p) ≤ psi v + 17 ∧
  ∃ a, 3 + v.pos ≤ a ∧ a < 3 + (apV v k no p).pos ∧ Stored (apV v k no p).d (apV v k no p).c a k p ∧ apR v k no p = ⟨a, smOf (apV v k no p).c (peekD (apV v k no p).d a)⟩ := by
 obtain ⟨r1, r2, r3, r4, r5, r6, -⟩ := rm_step h (by omega)
 have hent : entK k no = if k = 4 then 1 else 3 := by
  unfold entK
  rcases hk with hk | hk
  ·rw [if_pos hk, if_pos hk.1]
  ·rw [if_neg (fun h => by omega), if_pos hk, if_neg (by omega)]
 have hent0 : ¬ (entK k no = 0 ∨ p.length > 975) := by rw [hent]; split <;> omega
 have hfull : ¬ (v.full ∧ (v.last 0 ∨ v.last 1 ∧ v.w.ents.length = 15)) := fun h' => tb_full h.w.tb ⟨h.w.seg.1, by omega⟩ h'.1
 obtain ⟨a1, a2, a3, a4, a5, a6, a7, a8, a9⟩ := wr_step r2.w (by omega) (k := k) (by omega) hp
 have hsl1 : (wrV (rmV v) k p).w.slot = (rmV v).w.slot + 1 := by rw [a4]
 have hsg1 : (wrV (rmV v) k p).w.seg = (rmV v).w.seg := by rw [a4]
 have hen1 : (wrV (rmV v) k p).w.ents = (rmV v).w.ents := by rw [a4]
 have hs0 := r2.w.slot
 have hE : EntsOk ((wrV (rmV v) k p).w.ents ++ [apX (rmV v) k no p]) (wrV (rmV v) k p).w.slot := by
  rw [hen1, hsl1]
  refine r2.ek.lay ?_ ?_ rfl
  ·show entK k no = 1 ∨ entK k no = 3
   rw [hent]; split <;> simp
  ·show ((0 ≤ no ∧ no ≤ (if entK k no = 3 then 9 else 64) - 1) ∧ 0 ≤ (rmV v).w.slot ∧ (rmV v).w.slot ≤ 63) ∧ (entK k no = 2 → _)
   rw [hent]
   rcases hk with ⟨rfl, n1, n2⟩ | ⟨rfl, n1, n2⟩
   ·rw [if_pos rfl, if_neg (by decide)]
    exact ⟨⟨⟨n1, by omega⟩, by omega, by omega⟩, fun h' => absurd h' (by decide)⟩
   ·rw [if_pos (show (if (5 : Int) = 4 then (1 : Int) else 3) = 3 from by decide)]
    exact ⟨⟨⟨n1, by omega⟩, by omega, by omega⟩, fun h' => absurd h' (by decide)⟩
 obtain ⟨l1, l2, l3, l4⟩ := ly_step a3 (by omega) (by omega) (by rw [hen1]; exact r2.el) hE
 have hApE : apE v k no p = 0 := by
  rw [apE, if_neg hent0, if_neg hfull, if_neg (by simp [r1]), if_neg (by simp [a2]), l1]
 have hApV : apV v k no p = lyV (wrV (rmV v) k p) (apX (rmV v) k no p) := by
  rw [apV, if_neg hent0, if_neg hfull, if_neg (by simp [r1]), if_neg (by simp [a2])]
 have hApR : apR v k no p = wrR (rmV v) k p := if_pos hApE
 refine ⟨hApE, ?_⟩
 rw [hApV, hApR]
 refine ⟨l2, (r4.trans a6).trans l3, ?_, (rmV v).atS, ?_, ?_, ?_, ?_⟩
 ·have : psi (wrV (rmV v) k p) = psi (rmV v) + 16 := by unfold psi; rw [a4]; simp only; omega
  omega
 ·rw [a1]; have := r4.le; omega
 ·have := l3.le; omega
 ·exact l3.stored a8 (by omega)
 ·rw [a9, l3.sm a8 (by omega)]
theorem cl_step {v : Vl} {cn : Nat → Int} (h : LgV v cn) (h15 : v.w.seg ≤ 15) : clE v 0 = 0 ∧ LgV (clV v 0) cn ∧ Ext v (clV v 0) ∧ psi (clV v 0) ≤ psi v + 16 := by
 have hfull : ¬ (v.full ∧ v.last 0) := fun h' => tb_full h.w.tb ⟨h.w.seg.1, by omega⟩ h'.1
 obtain ⟨a1, a2, a3, a4, a5⟩ := en_step h.w h.s31 (by omega) (by have := h.el; omega) h.ek.1
 have s1 := a2.w.slot
 have s2 := a2.s31
 have s3 := h.s31
 have s4 := h.w.slot
 have e5 : 32 * (enV v 0).w.seg + (enV v 0).w.slot = 32 * v.w.seg + v.w.slot + 1 := a5
 have hb' : ¬ ((0 : Int) < 0 ∨ 1099511627776 < (0 : Int)) := by omega
 have e1 : clE v 0 = enE v 0 := by rw [clE, if_neg hb', if_neg hfull]
 have e2 : clV v 0 = enV v 0 := by rw [clV, if_neg hb', if_neg hfull]
 rw [e1, e2]
 refine ⟨a1, a2, a4, ?_⟩
 unfold psi
 rw [a3]; simp only [List.length_nil]; omega
theorem LgV.ok {v : Vl} {cn : Nat → Int} (h : LgV v cn) : VlOk v 980 := by
 have hp : v.pos = 32 * v.w.seg + v.w.slot := rfl
 have h1 := h.w.seg
 have h2 := h.s31
 have h3 := h.w.slot
 have h4 := h.w.no
 refine ⟨by rw [h.w.g]; decide, by rw [h.w.tb.len]; omega, ⟨cyOk_mono h.w.co (by omega), cyTk_mono (cyTr_k h.w.ct) (by omega)⟩, h.el⟩
end Go.Proofs.YtehnkcnjmfbjpaaGreat
end
section
namespace Go.Proofs.YtehnkcnjmfbjpaaGreat
open Go Go.Adm
set_option linter.unusedSimpArgs false
set_option linter.unusedVariables false
theorem flatMap_set_perm {α β : Type} (g : α → List β) : ∀ (l : List α) (i : Nat) (x y : α), l[i]? = some y → ((l.set i x).flatMap g ++ g y).Perm (l.flatMap g ++ g x) := by
 intro l
 induction l with
 | nil => intro i x y h; simp at h
 | cons a l ih =>
  intro i x y h
  cases i with
  | zero =>
   obtain rfl : a = y := by simpa using h
   simp only [List.set_cons_zero, List.flatMap_cons]
   exact (List.perm_append_comm.append_right _).trans (by
    rw [List.append_assoc]
    exact (List.Perm.append_left _ List.perm_append_comm).trans (by
     rw [← List.append_assoc]
     exact List.perm_append_comm.append_right _ |>.trans (.refl _) |>.trans (by simp)))
  | succ i =>
   simp only [List.set_cons_succ, List.flatMap_cons, List.append_assoc]
   exact (ih i x y (by simpa using h)).append_left _
def oneB (r : Rf) : List Rf := if r = Rf.zero then [] else [r]
theorem liveB_flat (l : List Rf) : liveB l = l.flatMap oneB := by
 induction l with
 | nil => rfl
 | cons a l ih =>
  rw [List.flatMap_cons, ← ih, liveB, List.filter_cons]
  by_cases h : a = Rf.zero
  ·simp [h, oneB, liveB]
  ·simp [h, oneB, liveB]
theorem cnt_setB (t : Tr) {i : Nat} (h : i < 64) (x r : Rf) : (t.setB i x).refs.count r + (oneB (t.b i)).count r = t.refs.count r + (oneB x).count r := by
 have e := (flatMap_set_perm oneB t.bl i x (t.b i) (t.b_get h)).count_eq r
 simp only [Tr.refs, Tr.setB, liveB_flat, List.count_append] at *
 omega
theorem cnt_setN (t : Tr) {i : Nat} (h : i < 9) (x : Nd) (r : Rf) : (t.setN i x).refs.count r + (goneN (t.n i)).count r = t.refs.count r + (goneN x).count r := by
 have e := (flatMap_set_perm goneN t.nd i x (t.n i) (t.n_get h)).count_eq r
 simp only [Tr.refs, Tr.setN, liveN, List.count_append] at *
 omega
theorem gone_dirty : goneN Nd.dirty = [] := rfl
theorem cnt_spoil (r : Rf) (l : List Nat) : ∀ t : Tr, (∀ i ∈ l, i < 9) → (t.spoilT l).refs.count r + (t.spoilR l).count r = t.refs.count r := by
 induction l with
 | nil => intro t _; simp [Tr.spoilT, Tr.spoilR]
 | cons i l ih =>
  intro t h
  have h1 := ih (t.setN i Nd.dirty) (fun j hj => h j (List.mem_cons_of_mem _ hj))
  have h2 := cnt_setN t (h i (List.mem_cons_self ..)) Nd.dirty r
  have h3 : t.gone i = goneN (t.n i) := rfl
  rw [gone_dirty, List.count_nil] at h2
  simp only [Tr.spoilT, Tr.spoilR, List.count_append, h3]
  omega
theorem oneB_pos {r : Rf} (h : 0 < r.at_) : oneB r = [r] := if_neg (by rintro rfl; exact absurd h (by decide))
theorem cnt_set (t : Tr) (k : Int) (x r : Rf) : (t.setT k x).refs.count r + (t.setR k x).count r = t.refs.count r + (if Tr.setOk k x then [x] else []).count r := by
 by_cases h : Tr.setOk k x
 ·rw [Tr.setT, Tr.setR, if_pos h, if_pos h, if_pos h]
  obtain ⟨⟨h1, h2⟩, h3⟩ := h
  have e1 := cnt_setB t (i := k.toNat) (by omega) x r
  have e2 := cnt_spoil r [k.toNat / 8 + 1, 0] (t.setB k.toNat x) (by simp; omega)
  have e3 : t.old k.toNat = oneB (t.b k.toNat) := rfl
  rw [oneB_pos (r := x) (by omega)] at e1
  rw [List.count_append, e3]
  omega
 ·rw [Tr.setT, Tr.setR, if_neg h, if_neg h, if_neg h]
theorem savedE_dirty {t : Tr} {k : Int} {x : Rf} (h : t.savedE k x = 0) : t.isDirty k := by
 apply Classical.byContradiction
 intro h'
 rw [Tr.savedE, if_pos (.inl h')] at h
 exact absurd h (by decide)
theorem cnt_saved (t : Tr) (k : Int) (x r : Rf) : (t.savedT k x).refs.count r = t.refs.count r + (if t.savedE k x = 0 ∧ 0 < x.at_ then [x] else []).count r := by
 by_cases h : t.savedE k x = 0
 ·obtain ⟨h1, h2, h3⟩ := savedE_dirty h
  rw [Tr.savedT, if_pos h]
  have e := cnt_setN t (i := k.toNat) (by omega) ⟨1, x⟩ r
  have e1 : goneN (t.n k.toNat) = [] := if_neg (fun h => by rw [h3] at h; exact absurd h.1 (by decide))
  have e2 : goneN ⟨1, x⟩ = if t.savedE k x = 0 ∧ 0 < x.at_ then [x] else [] := by
   simp [goneN, h]
  rw [e1, e2, List.count_nil] at e
  omega
 ·rw [Tr.savedT, if_neg h, if_neg (fun h' => h h'.1)]; simp
theorem spoilT_b (l : List Nat) : ∀ (t : Tr) (i : Nat), (t.spoilT l).b i = t.b i := by
 induction l with
 | nil => intro t i; rfl
 | cons j l ih => intro t i; rw [Tr.spoilT, ih, Tr.setN_b]
theorem setT_b (t : Tr) (k : Int) (x : Rf) (i : Nat) : (t.setT k x).b i = if Tr.setOk k x ∧ k.toNat = i then x else t.b i := by
 by_cases h : Tr.setOk k x
 ·rw [Tr.setT, if_pos h, spoilT_b, Tr.setB_b _ _ _ _ (by have := h.1; omega)]
  by_cases e : k.toNat = i
  ·rw [if_pos e, if_pos ⟨h, e⟩]
  ·rw [if_neg e, if_neg (fun h => e h.2)]
 ·rw [Tr.setT, if_neg h, if_neg (fun h' => h h'.1)]
end Go.Proofs.YtehnkcnjmfbjpaaGreat
end
section
namespace Go.Proofs.YtehnkcnjmfbjpaaGreat
open Go Go.Adm
set_option linter.unusedSimpArgs false
set_option linter.unusedVariables false
set_option maxRecDepth 100000
theorem sub_le {α : Type} [DecidableEq α] : ∀ (l k : List α), l.Nodup → (∀ x ∈ l, x ∈ k) → l.length ≤ k.length := by
 intro l
 induction l with
 | nil => intro k _ _; simp
 | cons a l ih =>
  intro k hn hs
  rw [List.nodup_cons] at hn
  have h1 := hs a (by simp)
  have h2 := ih (k.erase a) hn.2 (fun x hx => (List.mem_erase_of_ne (fun h => hn.1 (by rw [← h]; exact hx))).mpr (hs x (by simp [hx])))
  rw [List.length_erase_of_mem h1] at h2
  have h3 := List.length_pos_of_mem h1
  rw [List.length_cons]; omega
theorem range_le {l : List Int} {a : Int} {n : Nat} (hn : l.Nodup) (h : ∀ x ∈ l, a ≤ x ∧ x < a + n) : l.length ≤ n := by
 have := sub_le l ((List.range n).map fun i : Nat => a + (i : Int)) hn fun x hx => by
  have := h x hx
  exact List.mem_map.mpr ⟨(x - a).toNat, List.mem_range.mpr (by omega), by omega⟩
 simpa using this
def inS (s : Nat) (r : Rf) : Bool := decide (plB gS r.at_ ∧ (plG gS r.at_).1 = (s : Int))
def cntS (l : List Rf) (s : Nat) : Int := ((l.filter (inS s)).length : Int)
theorem plB_gS (a : Int) : plB gS a ↔ 3 ≤ a ∧ a < 579 := by
 unfold plB secsG
 rw [if_pos gS_ok]
 show 3 ≤ a ∧ a ≤ 3 + 18 * 32 - 1 ↔ _
 omega
theorem plG_gS {a : Int} (h : 3 ≤ a ∧ a < 579) : plG gS a = ((a - 3) / 32, (a - 3) % 32) := by
 rw [plG, if_pos ((plB_gS a).mpr h)]; rfl
theorem inS_iff (s : Nat) (r : Rf) : inS s r = true ↔ 3 ≤ r.at_ ∧ r.at_ < 579 ∧ 3 + 32 * (s : Int) ≤ r.at_ ∧ r.at_ < 35 + 32 * (s : Int) := by
 unfold inS
 rw [decide_eq_true_iff, plB_gS]
 constructor
 ·rintro ⟨h1, h2⟩
  rw [plG_gS h1] at h2
  simp only at h2
  omega
 ·rintro ⟨h1, h2, h3, h4⟩
  refine ⟨⟨h1, h2⟩, ?_⟩
  rw [plG_gS ⟨h1, h2⟩]
  simp only
  omega
theorem cntS_perm {l k : List Rf} (h : l.Perm k) (s : Nat) : cntS l s = cntS k s := by
 unfold cntS; rw [(h.filter _).length_eq]
theorem cntS_app (l k : List Rf) (s : Nat) : cntS (l ++ k) s = cntS l s + cntS k s := by
 unfold cntS; rw [List.filter_append, List.length_append]; omega
theorem cntS_nn (l : List Rf) (s : Nat) : 0 ≤ cntS l s := by unfold cntS; omega
theorem cntS_cnt {a b c d : List Rf} (h : ∀ r, a.count r + b.count r = c.count r + d.count r) (s : Nat) : cntS a s + cntS b s = cntS c s + cntS d s := by
 have : (a ++ b).Perm (c ++ d) := List.perm_iff_count.mpr fun r => by rw [List.count_append, List.count_append]; exact h r
 rw [← cntS_app, ← cntS_app]; exact cntS_perm this s
theorem cntS_cons (r : Rf) (l : List Rf) (s : Nat) : cntS (r :: l) s = (if inS s r then 1 else 0) + cntS l s := by
 unfold cntS
 rw [List.filter_cons]
 split
 ·rw [List.length_cons]; omega
 ·omega
theorem tb_add {u : List Sg} {seg : Int} {cn : Nat → Int} (h : TbOk u seg cn) {s : Nat} (hs : s < 18) (hseg : (s : Int) ≤ seg) {n : Int} (hn : n = 1 ∨ n = -1) (hb : 0 ≤ cn s + n ∧ cn s + n ≤ 64) (no : Int) :
  TbOk (addM s n no u).2 seg (fun j => if j = s then cn j + n else cn j) := by
 obtain ⟨ag, e⟩ := h.row s hs
 have hl := h.len
 have hA : ∃ ag', (addM s n no u).2 = u.set s ⟨if (s : Int) < seg then 2 else if (s : Int) = seg then 1 else 0, cn s + n, ag'⟩ := by
  unfold addM
  rw [if_pos (by omega), Int.toNat_natCast, e]
  simp only
  rw [if_neg (by omega), if_neg (by omega)]
  split
  ·exact ⟨_, rfl⟩
  ·exact ⟨_, rfl⟩
 obtain ⟨ag', hA⟩ := hA
 rw [hA]
 refine ⟨by simp [hl], fun j hj => ?_, fun j hj => ?_, fun j hj hlt => ?_⟩
 ·by_cases hjs : j = s
  ·subst hjs
   exact ⟨ag', by rw [List.getElem?_set_self (by omega), if_pos rfl]⟩
  ·obtain ⟨g, e'⟩ := h.row j hj
   exact ⟨g, by rw [List.getElem?_set_ne (by omega), e', if_neg hjs]⟩
 ·have := h.cb j hj
  split
  ·rename_i hjs; subst hjs; omega
  ·exact this
 ·rw [if_neg (by omega)]
  exact h.no j hj hlt
theorem tb_dead {seg : Int} (no : Int) : ∀ (l : List Rf) {u : List Sg} {cn : Nat → Int}, TbOk u seg cn → (∀ r ∈ l, 3 ≤ r.at_ ∧ r.at_ < 579 ∧ (plG gS r.at_).1 ≤ seg) → (∀ s : Nat, s < 18 → cntS l s ≤ cn s) → TbOk (acU gS no (-1) u l) seg (fun s => cn s - cntS l s) := by
 intro l
 induction l with
 | nil => intro u cn h _ _; simpa [acU, cntS] using h
 | cons r l ih =>
  intro u cn h hr hc
  obtain ⟨a1, a2, a3⟩ := hr r (by simp)
  have hp := (plB_gS r.at_).mpr ⟨a1, a2⟩
  obtain ⟨b1, b2, -, -⟩ := plG_lt hp
  have b2 : (plG gS r.at_).1 < 18 := b2
  obtain ⟨s, hs⟩ := Int.eq_ofNat_of_zero_le b1
  have hin : ∀ j : Nat, inS j r = decide (j = s) := fun j => by
   unfold inS
   rw [hs, Bool.eq_iff_iff]
   simp only [decide_eq_true_eq, hp, true_and]
   omega
  rw [acU, if_pos hp, hs]
  have hcs := hc s (by omega)
  rw [cntS_cons, hin, if_pos (by simp)] at hcs
  have := cntS_nn l s
  have hcb := h.cb s (by omega)
  have h2 := tb_add h (s := s) (by omega) (by omega) (n := -1) (.inr rfl) (by omega) no
  have h3 := ih h2 (fun r' h' => hr r' (by simp [h'])) (fun j hj => by
   have h4 := hc j hj
   rw [cntS_cons, hin] at h4
   by_cases hj2 : j = s
   ·rw [if_pos (by simpa using hj2)] at h4; rw [if_pos hj2]; omega
   ·rw [if_neg (by simpa using hj2)] at h4; rw [if_neg hj2]; omega)
  have he : (fun j : Nat => (if j = s then cn j + -1 else cn j) - cntS l j) = fun j => cn j - cntS (r :: l) j := by
   funext j
   rw [cntS_cons, hin]
   by_cases hj2 : j = s
   ·rw [show decide (j = s) = true by simpa using hj2, if_pos hj2, if_pos rfl]; omega
   ·rw [show decide (j = s) = false by simpa using hj2, if_neg hj2, if_neg (by decide)]; omega
  rw [← he]; exact h3
theorem tb_new {seg : Int} (no : Int) {r : Rf} {u : List Sg} {cn : Nat → Int} (h : TbOk u seg cn) (hr : 3 ≤ r.at_ ∧ r.at_ < 579 ∧ (plG gS r.at_).1 ≤ seg) (hc : ∀ s : Nat, s < 18 → cn s ≤ 63) : TbOk (acU gS no 1 u [r]) seg (fun s => cn s + cntS [r] s) := by
 obtain ⟨a1, a2, a3⟩ := hr
 have hp := (plB_gS r.at_).mpr ⟨a1, a2⟩
 obtain ⟨b1, b2, -, -⟩ := plG_lt hp
 have b2 : (plG gS r.at_).1 < 18 := b2
 obtain ⟨s, hs⟩ := Int.eq_ofNat_of_zero_le b1
 have hin : ∀ j : Nat, inS j r = decide (j = s) := fun j => by
  unfold inS
  rw [hs, Bool.eq_iff_iff]
  simp only [decide_eq_true_eq, hp, true_and]
  omega
 rw [acU, if_pos hp, hs, acU]
 have hcb := h.cb s (by omega)
 have h2 := tb_add h (s := s) (by omega) (by omega) (n := 1) (.inl rfl) (by have := hc s (by omega); omega) no
 have he : (fun j : Nat => if j = s then cn j + 1 else cn j) = fun j => cn j + cntS [r] j := by
  funext j
  rw [cntS_cons, hin]
  have : cntS [] j = 0 := rfl
  rw [this]
  by_cases hj2 : j = s
  ·rw [show decide (j = s) = true by simpa using hj2, if_pos hj2, if_pos rfl]; omega
  ·rw [show decide (j = s) = false by simpa using hj2, if_neg hj2, if_neg (by decide)]; omega
 rw [← he]; exact h2
theorem LgV.table {v : Vl} {cn cn' : Nat → Int} (h : LgV v cn) {u : List Sg} (hu : TbOk u v.w.seg cn') : LgV { v with u := u } cn' :=
 ⟨⟨h.w.g, h.w.ep, h.w.seg, h.w.slot, h.w.no, h.w.dk, h.w.co, h.w.ct, h.w.st, h.w.un, hu⟩, h.s31, h.el, h.ek⟩
def RefTo (v : Vl) (r : Rf) (k : Int) (p : List B8) : Prop := (3 ≤ r.at_ ∧ r.at_ < 3 + v.pos) ∧ r.sum = smOf v.c (peekD v.d r.at_) ∧ Stored v.d v.c r.at_ k p
theorem RefTo.ext {v v' : Vl} (x : Ext v v') {r : Rf} {k : Int} {p : List B8} (h : RefTo v r k p) : RefTo v' r k p := by
 obtain ⟨⟨h1, h2⟩, h3, h4⟩ := h
 exact ⟨⟨h1, by have := x.le; omega⟩, by rw [h3, x.sm h4 h2], x.stored h4 h2⟩
structure TrOk (v : Vl) (t : Tr) (last : Nat → List B8) : Prop where
 bl : ∀ b, b < 64 → t.b b ≠ Rf.zero → RefTo v (t.b b) 4 (puP b (last b)) ∧ (last b).length = 32
 nd : ∀ i, i < 9 → t.n i = Nd.none ∨ t.n i = Nd.dirty ∨ (i = 0 ∧ t.n i = ⟨1, Rf.zero⟩) ∨ ((t.n i).st = 1 ∧ ∃ pg : Pg, RefTo v (t.n i).ref 5 (pgB i pg) ∧ pgOk i pg ∧ pg.length = 8)
theorem TrOk.ext {v v' : Vl} (x : Ext v v') {t : Tr} {last : Nat → List B8} (h : TrOk v t last) : TrOk v' t last := by
 refine ⟨fun b hb hz => ⟨(h.bl b hb hz).1.ext x, (h.bl b hb hz).2⟩, fun i hi => ?_⟩
 rcases h.nd i hi with h1 | h1 | h1 | ⟨h1, pg, h2, h3⟩
 ·exact .inl h1
 ·exact .inr (.inl h1)
 ·exact .inr (.inr (.inl h1))
 ·exact .inr (.inr (.inr ⟨h1, pg, h2.ext x, h3⟩))
theorem RefTo.uniq {v : Vl} {r r' : Rf} {k k' : Int} {p p' : List B8} (h : RefTo v r k p) (h' : RefTo v r' k' p') (e : r.at_ = r'.at_) : k = k' ∧ p = p' := by
 have h1 := h.2.2
 rw [e] at h1
 exact h1.uniq h'.2.2
theorem numI_inj {a b : Nat} (ha : a < 64) (hb : b < 64) {x y : List B8} (h : numI a ++ x = numI b ++ y) : a = b := by
 have := (List.append_inj h (by rw [numI_len, numI_len])).1
 rw [numI_nat (by omega), numI_nat (by omega)] at this
 have h1 := intB_num (v := a) (by omega)
 have h2 := intB_num (v := b) (by omega)
 rw [this] at h1
 omega
theorem liveN_mem {l : List Nd} {r : Rf} : r ∈ liveN l ↔ ∃ n ∈ l, n.st = 1 ∧ 0 < n.ref.at_ ∧ r = n.ref := by
 unfold liveN
 rw [List.mem_flatMap]
 constructor
 ·rintro ⟨n, h1, h2⟩
  unfold goneN at h2
  split at h2
  ·rename_i h3; exact ⟨n, h1, h3.1, h3.2, by simpa using h2⟩
  ·simp at h2
 ·rintro ⟨n, h1, h2, h3, h4⟩
  exact ⟨n, h1, by rw [goneN, if_pos ⟨h2, h3⟩]; simp [h4]⟩
theorem refs_mem {t : Tr} {r : Rf} : r ∈ t.refs ↔ (∃ b, b < 64 ∧ t.b b ≠ Rf.zero ∧ r = t.b b) ∨ ∃ i, i < 9 ∧ (t.n i).st = 1 ∧ 0 < (t.n i).ref.at_ ∧ r = (t.n i).ref := by
 rw [Tr.refs, List.mem_append, liveN_mem]
 constructor
 ·rintro (h | ⟨n, h1, h2⟩)
  ·obtain ⟨h1, h2⟩ := List.mem_filter.mp h
   obtain ⟨b, h3⟩ := List.mem_iff_getElem?.mp h1
   have hb : b < 64 := by have := lt_of_get h3; rw [t.hb] at this; exact this
   rw [t.b_get hb] at h3
   cases h3
   exact .inl ⟨b, hb, by simpa using h2, rfl⟩
  ·obtain ⟨i, h3⟩ := List.mem_iff_getElem?.mp h1
   have hi : i < 9 := by have := lt_of_get h3; rw [t.hn] at this; exact this
   rw [t.n_get hi] at h3
   cases h3
   exact .inr ⟨i, hi, h2⟩
 ·rintro (⟨b, h1, h2, rfl⟩ | ⟨i, h1, h2⟩)
  ·exact .inl (List.mem_filter.mpr ⟨List.mem_of_getElem? (t.b_get h1), by simpa using h2⟩)
  ·exact .inr ⟨t.n i, List.mem_of_getElem? (t.n_get h1), h2⟩
section
variable {v : Vl} {t : Tr} {last : Nat → List B8}
theorem TrOk.node (h : TrOk v t last) {i : Nat} (hi : i < 9) (hs : (t.n i).st = 1) (hp : 0 < (t.n i).ref.at_) : ∃ pg : Pg, RefTo v (t.n i).ref 5 (pgB i pg) ∧ pgOk i pg ∧ pg.length = 8 := by
 rcases h.nd i hi with h1 | h1 | ⟨h0, h1⟩ | ⟨h1, h2⟩
 ·rw [h1] at hs; exact absurd hs (by decide)
 ·rw [h1] at hs; exact absurd hs (by decide)
 ·rw [h1] at hp; exact absurd hp (by decide)
 ·exact h2
theorem TrOk.ref (h : TrOk v t last) {r : Rf} (hr : r ∈ t.refs) : ∃ k p, RefTo v r k p := by
 rcases refs_mem.mp hr with ⟨b, h1, h2, rfl⟩ | ⟨i, h1, h2, h3, rfl⟩
 ·exact ⟨_, _, (h.bl b h1 h2).1⟩
 ·obtain ⟨pg, h4, -⟩ := h.node h1 h2 h3
  exact ⟨_, _, h4⟩
theorem TrOk.nodup (h : TrOk v t last) : (t.refs.map (·.at_)).Nodup := by
 rw [Tr.refs, List.map_append, List.nodup_append]
 refine ⟨?_, ?_, ?_⟩
 ·rw [List.Nodup, List.pairwise_map]
  have h1 : t.bl.Pairwise fun a b => a ≠ Rf.zero → b ≠ Rf.zero → a.at_ ≠ b.at_ := by
   rw [List.pairwise_iff_getElem]
   intro i j hi hj hij ha hb he
   have hi' : i < 64 := by rw [t.hb] at hi; exact hi
   have hj' : j < 64 := by rw [t.hb] at hj; exact hj
   have ei : t.bl[i] = t.b i := by have := t.b_get hi'; rw [List.getElem?_eq_getElem hi, Option.some.injEq] at this; exact this
   have ej : t.bl[j] = t.b j := by have := t.b_get hj'; rw [List.getElem?_eq_getElem hj, Option.some.injEq] at this; exact this
   rw [ei] at ha he
   rw [ej] at hb he
   have := ((h.bl i hi' ha).1.uniq (h.bl j hj' hb).1 he).2
   have := numI_inj hi' hj' this
   omega
  refine (List.Pairwise.imp_of_mem ?_ (h1.sublist List.filter_sublist))
  intro a b ha hb hab
  have ha := (List.mem_filter.mp ha).2
  have hb := (List.mem_filter.mp hb).2
  exact hab (by simpa using ha) (by simpa using hb)
 ·rw [List.Nodup, List.pairwise_map, liveN, List.pairwise_flatMap]
  refine ⟨fun n _ => ?_, ?_⟩
  ·unfold goneN; split <;> simp
  ·rw [List.pairwise_iff_getElem]
   intro i j hi hj hij x hx y hy he
   have hi' : i < 9 := by rw [t.hn] at hi; exact hi
   have hj' : j < 9 := by rw [t.hn] at hj; exact hj
   have ei : t.nd[i] = t.n i := by have := t.n_get hi'; rw [List.getElem?_eq_getElem hi, Option.some.injEq] at this; exact this
   have ej : t.nd[j] = t.n j := by have := t.n_get hj'; rw [List.getElem?_eq_getElem hj, Option.some.injEq] at this; exact this
   rw [ei] at hx
   rw [ej] at hy
   unfold goneN at hx hy
   split at hx
   ·split at hy
    ·rename_i g1 g2
     simp only [List.mem_singleton] at hx hy
     subst hx; subst hy
     obtain ⟨p1, q1, r1, -⟩ := h.node hi' g1.1 g1.2
     obtain ⟨p2, q2, r2, -⟩ := h.node hj' g2.1 g2.2
     have e2 := (q1.uniq q2 he).2
     rw [pgB, pgB, if_pos r1, if_pos r2] at e2
     have := numI_inj (by omega) (by omega) e2
     omega
    ·simp at hy
   ·simp at hx
 ·intro a ha b hb he
  obtain ⟨r, hr, rfl⟩ := List.mem_map.mp ha
  obtain ⟨r', hr', rfl⟩ := List.mem_map.mp hb
  obtain ⟨h1, h2⟩ := List.mem_filter.mp hr
  obtain ⟨b, h3⟩ := List.mem_iff_getElem?.mp h1
  have hb4 : b < 64 := by have := lt_of_get h3; rw [t.hb] at this; exact this
  rw [t.b_get hb4] at h3
  cases h3
  obtain ⟨n, g1, g2, g3, rfl⟩ := liveN_mem.mp hr'
  obtain ⟨i, g4⟩ := List.mem_iff_getElem?.mp g1
  have hi : i < 9 := by have := lt_of_get g4; rw [t.hn] at this; exact this
  rw [t.n_get hi] at g4
  cases g4
  obtain ⟨p2, q2, r2, -⟩ := h.node hi g2 g3
  have := ((h.bl b hb4 (by simpa using h2)).1.uniq q2 he).1
  omega
theorem TrOk.cnt_le (h : TrOk v t last) (s : Nat) : cntS t.refs s ≤ 32 := by
 have hn := h.nodup
 have h1 : ((t.refs.filter (inS s)).map (·.at_)).Nodup := hn.sublist (List.filter_sublist.map _)
 have := range_le (a := 3 + 32 * (s : Int)) (n := 32) h1 fun x hx => by
  obtain ⟨r, hr, rfl⟩ := List.mem_map.mp hx
  have := (inS_iff s r).mp (List.mem_filter.mp hr).2
  omega
 rw [List.length_map] at this
 unfold cntS; omega
end
end Go.Proofs.YtehnkcnjmfbjpaaGreat
end
section
namespace Go.Proofs.YtehnkcnjmfbjpaaGreat
open Go Go.Adm
set_option linter.unusedSimpArgs false
set_option linter.unusedVariables false
set_option maxRecDepth 100000
structure J (x : Pt) (last : Nat → List B8) : Prop where
 lg : LgV x.v (cntS x.t.refs)
 tr : TrOk x.v x.t last
def Psi (x : Pt) : Int := psi x.v + 17 * (x.t.dirtyL.length : Int)
theorem LgV.at_ok {v : Vl} {cn : Nat → Int} (h : LgV v cn) {a : Int} (ha : 3 ≤ a ∧ a < 3 + v.pos) : 3 ≤ a ∧ a < 579 ∧ (plG gS a).1 ≤ v.w.seg := by
 have hp : v.pos = 32 * v.w.seg + v.w.slot := rfl
 have h1 := h.w.seg
 have h2 := h.s31
 have h3 := h.w.slot
 have h4 : 3 ≤ a ∧ a < 579 := by omega
 refine ⟨h4.1, h4.2, ?_⟩
 rw [plG_gS h4]
 simp only
 omega
theorem Ext.acc (v : Vl) (n : Int) (l : List Rf) : Ext v (v.acc n l) := ⟨.refl _, fun _ _ => rfl, Int.le_refl _⟩
theorem psi_acc (v : Vl) (n : Int) (l : List Rf) : psi (v.acc n l) = psi v := rfl
theorem dead_step {v : Vl} {cn : Nat → Int} (h : LgV v cn) {l : List Rf} (hr : ∀ r ∈ l, 3 ≤ r.at_ ∧ r.at_ < 3 + v.pos) (hc : ∀ s : Nat, s < 18 → cntS l s ≤ cn s) : LgV (v.acc (-1) l) (fun s => cn s - cntS l s) := by
 refine h.table ?_
 rw [h.w.g]
 exact tb_dead _ l h.w.tb (fun r hr' => h.at_ok (hr r hr')) hc
theorem new_step {v : Vl} {cn : Nat → Int} (h : LgV v cn) {r : Rf} (hr : 3 ≤ r.at_ ∧ r.at_ < 3 + v.pos) (hc : ∀ s : Nat, s < 18 → cn s ≤ 63) : LgV (v.acc 1 [r]) (fun s => cn s + cntS [r] s) := by
 refine h.table ?_
 rw [h.w.g]
 exact tb_new _ h.w.tb (h.at_ok hr) hc
theorem LgV.cn_eq {v : Vl} {cn cn' : Nat → Int} (h : LgV v cn) (e : ∀ s, cn s = cn' s) : LgV v cn' := by
 have : cn = cn' := funext e
 rw [← this]; exact h
theorem tree_step {v : Vl} {cn : Nat → Int} {t t' : Tr} {dead new : List Rf} (h : LgV v cn) (hcn : ∀ s, cn s = cntS t.refs s + cntS new s) (hc : ∀ r, t'.refs.count r + dead.count r = t.refs.count r + new.count r) (hr : ∀ r, r ∈ t.refs ∨ r ∈ new → 3 ≤ r.at_ ∧ r.at_ < 3 + v.pos) : LgV (v.acc (-1) dead) (cntS t'.refs) := by
 have e := cntS_cnt hc
 have h1 := dead_step h (l := dead) (fun r hr' => hr r (by
  have := hc r
  have h2 := List.count_pos_iff.mpr hr'
  by_cases h3 : r ∈ t.refs
  ·exact .inl h3
  ·rw [List.count_eq_zero.mpr h3] at this
   exact .inr (List.count_pos_iff.mp (by omega)))) (fun s _ => by
  have := e s; have := cntS_nn t'.refs s; rw [hcn]; omega)
 exact h1.cn_eq fun s => by have := e s; rw [hcn]; omega
theorem spoilT_n : ∀ (l : List Nat) (t : Tr) (i : Nat), (∀ j ∈ l, j < 9) → (t.spoilT l).n i = t.n i ∨ (t.spoilT l).n i = Nd.dirty := by
 intro l
 induction l with
 | nil => intro t i _; exact .inl rfl
 | cons j l ih =>
  intro t i h
  rw [Tr.spoilT]
  rcases ih (t.setN j Nd.dirty) i (fun k hk => h k (by simp [hk])) with h1 | h1
  ·rw [h1, Tr.setN_n _ _ _ _ (h j (by simp))]
   split
   ·exact .inr rfl
   ·exact .inl rfl
  ·exact .inr h1
theorem setT_n (t : Tr) (k : Int) (r : Rf) (i : Nat) : (t.setT k r).n i = t.n i ∨ (t.setT k r).n i = Nd.dirty := by
 unfold Tr.setT
 split
 ·rename_i h
  exact spoilT_n _ _ _ (by have := h.1; simp; omega)
 ·exact .inl rfl
theorem dOrd_nodup : dOrd.Nodup := by decide
theorem dl_le {t t' : Tr} {i : Nat} (h : ∀ j, j < 9 → j ≠ i → (t'.n j).st = 2 → (t.n j).st = 2) : t'.dirtyL.length ≤ t.dirtyL.length + 1 := by
 have := sub_le t'.dirtyL (i :: t.dirtyL) (dOrd_nodup.sublist List.filter_sublist) fun x hx => by
  have hl := Tr.dirty_lt hx
  obtain ⟨h1, h2⟩ := List.mem_filter.mp hx
  by_cases hxi : x = i
  ·simp [hxi]
  ·refine List.mem_cons_of_mem _ (List.mem_filter.mpr ⟨h1, ?_⟩)
   simpa using h x hl hxi (by simpa using h2)
 simpa using this
theorem dl_setN (t : Tr) {i : Nat} (hi : i < 9) (n : Nd) : (t.setN i n).dirtyL.length ≤ t.dirtyL.length + 1 :=
 dl_le (i := i) fun j _ hj h => by rw [Tr.setN_n _ _ _ _ hi, if_neg (fun e => hj e.symm)] at h; exact h
theorem dl_spoil : ∀ (l : List Nat) (t : Tr), (∀ j ∈ l, j < 9) → (t.spoilT l).dirtyL.length ≤ t.dirtyL.length + l.length := by
 intro l
 induction l with
 | nil => intro t _; exact Nat.le_refl _
 | cons j l ih =>
  intro t h
  rw [Tr.spoilT]
  have h1 := ih (t.setN j Nd.dirty) (fun k hk => h k (by simp [hk]))
  have h2 := dl_setN t (h j (by simp)) Nd.dirty
  rw [List.length_cons]; omega
theorem dl_setB (t : Tr) (i : Nat) (r : Rf) : (t.setB i r).dirtyL = t.dirtyL := rfl
theorem dl_set (t : Tr) (k : Int) (r : Rf) : (t.setT k r).dirtyL.length ≤ t.dirtyL.length + 2 := by
 unfold Tr.setT
 split
 ·rename_i h
  have := dl_spoil [k.toNat / 8 + 1, 0] (t.setB k.toNat r) (by have := h.1; simp; omega)
  rw [dl_setB] at this
  exact this
 ·omega
theorem dl_saved {t : Tr} {i : Nat} {l : List Nat} (h : t.dirtyL = i :: l) (r : Rf) : (t.setN i ⟨1, r⟩).dirtyL = l := by
 have hi : i < 9 := Tr.dirty_lt (by rw [h]; simp)
 have hn : (i :: l).Nodup := by rw [← h]; exact dOrd_nodup.sublist List.filter_sublist
 have e : (t.setN i ⟨1, r⟩).dirtyL = t.dirtyL.filter (fun j => decide (j ≠ i)) := by
  unfold Tr.dirtyL Tr.dirtyIn
  rw [List.filter_filter]
  apply List.filter_congr
  intro j _
  rw [Tr.setN_n _ _ _ _ hi]
  by_cases hj : i = j
  ·subst hj; simp
  ·rw [if_neg hj]
   have : j ≠ i := fun e => hj e.symm
   simp [this]
 rw [e, h, List.filter_cons_of_neg (by simp)]
 rw [List.nodup_cons] at hn
 exact List.filter_eq_self.mpr fun j hj => by
  have : j ≠ i := fun e => hn.1 (by rw [← e]; exact hj)
  simpa using this
theorem dirty_zero {t : Tr} {l : List Nat} (h : t.dirtyL = 0 :: l) : l = [] := by
 have hs : (0 :: l).Sublist dOrd := by rw [← h]; exact List.filter_sublist
 have : dOrd = [1, 2, 3, 4, 5, 6, 7, 8] ++ [0] := rfl
 rw [this] at hs
 obtain ⟨l1, l2, e, h1, h2⟩ := List.sublist_append_iff.mp hs
 cases l1 with
 | nil =>
  rw [List.nil_append] at e
  rw [← e] at h2
  cases h2 with
  | cons _ h => cases h
  | cons_cons _ h => exact List.sublist_nil.mp h
 | cons a l1 =>
  rw [List.cons_append, List.cons.injEq] at e
  have := h1.subset (List.mem_cons_self (a := a) (l := l1))
  rw [← e.1] at this
  simp at this
theorem TrOk.nodes {v : Vl} {t t' : Tr} {last : Nat → List B8} (h : TrOk v t last) (hn : ∀ i, i < 9 → t'.n i = t.n i ∨ t'.n i = Nd.dirty ∨ t'.n i = Nd.none) : ∀ i, i < 9 → t'.n i = Nd.none ∨ t'.n i = Nd.dirty ∨ (i = 0 ∧ t'.n i = ⟨1, Rf.zero⟩) ∨ ((t'.n i).st = 1 ∧ ∃ pg : Pg, RefTo v (t'.n i).ref 5 (pgB i pg) ∧ pgOk i pg ∧ pg.length = 8) := by
 intro i hi
 rcases hn i hi with h1 | h1 | h1
 ·rw [h1]; exact h.nd i hi
 ·exact .inr (.inl h1)
 ·exact .inl h1
theorem psi_seg {x : Pt} {last : Nat → List B8} (h : J x last) (hp : Psi x < 7936) : x.v.w.seg ≤ 15 := by
 have h1 := h.lg.w.slot
 unfold Psi psi at hp
 omega
theorem J.refs {x : Pt} {last : Nat → List B8} (h : J x last) : ∀ r ∈ x.t.refs, 3 ≤ r.at_ ∧ r.at_ < 3 + x.v.pos := fun r hr => by
 obtain ⟨k, p, h1, -⟩ := h.tr.ref hr
 exact h1
theorem put_step {x : Pt} {last : Nat → List B8} (h : J x last) (hp : Psi x < 7936) {b : Nat} (hb : b < 64) {data : List B8} (hd : data.length = 32) :
  puE x b data = 0 ∧ J (puT x b data) (fun i => if i = b then data else last i) ∧ Psi (puT x b data) ≤ Psi x + 51 ∧ Ext x.v (puT x b data).v ∧ (∃ r, (puT x b data).t = x.t.setT b r ∧ Tr.setOk b r ∧ 3 + x.v.pos ≤ r.at_) := by
 have hpl : (puP b data).length ≤ 975 := by rw [puP, List.length_append, numI_len]; omega
 obtain ⟨a1, a2, a3, a4, a, a5, a6, a7, a8⟩ := ap_step h.lg (psi_seg h hp) (k := 4) (no := b) (.inl ⟨rfl, by omega, by omega⟩) hpl
 have hE : puE x b data = 0 := a1
 have hT : puT x b data = ⟨((apV x.v 4 b (puP b data)).acc 1 [apR x.v 4 b (puP b data)]).acc (-1) (x.t.setR b (apR x.v 4 b (puP b data))), x.t.setT b (apR x.v 4 b (puP b data))⟩ := by
  rw [puT, if_neg (by simp [hE])]
 have hpos0 : 0 ≤ x.v.pos := by have := h.lg.w.seg; have := h.lg.w.slot; show 0 ≤ 32 * x.v.w.seg + x.v.w.slot; omega
 rw [hT, a8]
 generalize apV x.v 4 b (puP b data) = v1 at *
 have hR : RefTo v1 ⟨a, smOf v1.c (peekD v1.d a)⟩ 4 (puP b data) := ⟨⟨by show 3 ≤ a; omega, a6⟩, rfl, a7⟩
 have hset : Tr.setOk (b : Int) ⟨a, smOf v1.c (peekD v1.d a)⟩ := ⟨by omega, by show 1 ≤ a; omega⟩
 generalize hr : (⟨a, smOf v1.c (peekD v1.d a)⟩ : Rf) = r at *
 have hra : r.at_ = a := by rw [← hr]
 have x2 : Ext v1 (v1.acc 1 [r]) := .acc _ _ _
 have x3 : Ext (v1.acc 1 [r]) ((v1.acc 1 [r]).acc (-1) (x.t.setR b r)) := .acc _ _ _
 have l2 := new_step a2 hR.1 (fun s _ => by have := h.tr.cnt_le s; omega)
 have hcnt : ∀ q, (x.t.setT b r).refs.count q + (x.t.setR b r).count q = x.t.refs.count q + [r].count q := fun q => by
  have := cnt_set x.t b r q
  rw [if_pos hset] at this
  exact this
 have l3 := tree_step l2 (fun s => rfl) hcnt (fun q hq => by
  rcases hq with hq | hq
  ·have h1 := h.refs q hq
   have := a3.le
   exact ⟨h1.1, by show q.at_ < 3 + v1.pos; omega⟩
  ·simp only [List.mem_singleton] at hq
   subst hq
   exact hR.1)
 refine ⟨hE, ⟨l3, ?_, ?_⟩, ?_, (a3.trans x2).trans x3, r, rfl, hset, by omega⟩
 ·intro i hi hz
  rw [setT_b] at hz ⊢
  by_cases e : i = b
  ·subst e
   rw [if_pos ⟨hset, by simp⟩, if_pos rfl]
   exact ⟨hR.ext (x2.trans x3), hd⟩
  ·have ne : ¬ (Tr.setOk (b : Int) r ∧ (b : Int).toNat = i) := fun h' => e (by have := h'.2; simpa using this.symm)
   rw [if_neg ne] at hz ⊢
   rw [if_neg e]
   obtain ⟨g1, g2⟩ := h.tr.bl i hi hz
   exact ⟨g1.ext ((a3.trans x2).trans x3), g2⟩
 ·exact (h.tr.ext ((a3.trans x2).trans x3)).nodes fun i _ => (setT_n x.t b r i).imp id .inl
 ·have := dl_set x.t b r
  unfold Psi
  rw [psi_acc, psi_acc]
  simp only
  omega
theorem close_step {x : Pt} {last : Nat → List B8} (h : J x last) (hp : Psi x < 7936) : clE x.v 0 = 0 ∧ J ⟨clV x.v 0, x.t⟩ last ∧ Psi ⟨clV x.v 0, x.t⟩ ≤ Psi x + 16 ∧ Ext x.v (clV x.v 0) := by
 obtain ⟨a1, a2, a3, a4⟩ := cl_step h.lg (psi_seg h hp)
 refine ⟨a1, ⟨a2, h.tr.ext a3⟩, ?_, a3⟩
 unfold Psi
 simp only
 omega
theorem pgB_len {i : Int} {p : Pg} (hp : p.length = 8) : (pgB i p).length ≤ 975 := by
 unfold pgB
 split
 ·rw [List.length_append, numI_len]
  have : ∀ l : List Rf, (l.flatMap refB).length = 40 * l.length := by
   intro l
   induction l with
   | nil => rfl
   | cons r l ih => rw [List.flatMap_cons, List.length_append, ih, refB_len, List.length_cons]; omega
  rw [this, hp]; omega
 ·simp
theorem J.page {x : Pt} {last : Nat → List B8} (h : J x last) {i : Nat} (hi : i < 9) : pgOk i (x.t.page i) := by
 refine ⟨fun r hr hz => ?_, by omega, by omega⟩
 have hpos := fun a ha => h.lg.at_ok (a := a) ha
 unfold Tr.page at hr
 obtain ⟨j, hj, rfl⟩ := List.mem_map.mp hr
 have hj : j < 8 := List.mem_range.mp hj
 unfold Tr.pageF at hz ⊢
 by_cases h0 : (i : Int) = 0
 ·rw [if_pos h0] at hz ⊢
  by_cases h1 : (x.t.n (j + 1)).st = 1
  ·rw [if_pos h1] at hz ⊢
   rcases h.tr.nd (j + 1) (by omega) with g | g | ⟨g, -⟩ | ⟨-, pg, g, -⟩
   ·rw [g] at h1; exact absurd h1 (by decide)
   ·rw [g] at h1; exact absurd h1 (by decide)
   ·omega
   ·have := hpos _ g.1; omega
  ·rw [if_neg h1] at hz; exact absurd rfl hz
 ·rw [if_neg h0, if_pos (by omega)] at hz ⊢
  have := hpos _ ((h.tr.bl _ (by omega) hz).1.1)
  omega
theorem save1_step {x : Pt} {last : Nat → List B8} (h : J x last) (hp : Psi x < 7936) {i : Nat} {l : List Nat} (hl : x.t.dirtyL = i :: l) :
  savE x i = 0 ∧ J (savT x i) last ∧ Psi (savT x i) ≤ Psi x ∧ Ext x.v (savT x i).v ∧ (savT x i).t.dirtyL = l ∧ (savT x i).t.bl = x.t.bl := by
 have hi : i < 9 := Tr.dirty_lt (by rw [hl]; simp)
 have hd : x.t.isDirty i := (x.t.isDirty_mem i).mp ⟨i, by rw [hl]; simp, rfl⟩
 have hc1 : ¬ (¬ x.t.isDirty (i : Int) ∨ (i : Int) = 0 ∧ 1 < x.t.dirtyL.length) := by
  rintro (h1 | ⟨h1, h2⟩)
  ·exact h1 hd
  ·obtain rfl : i = 0 := by omega
   have := dirty_zero hl
   rw [hl, this] at h2
   simp at h2
 by_cases h0 : (i : Int) = 0 ∧ x.t.mapped = 0
 ·obtain rfl : i = 0 := by omega
  have e1 : x.t.savedE 0 Rf.zero = 0 := by have hc1' : ¬ (¬ x.t.isDirty 0 ∨ (0 : Int) = 0 ∧ 1 < x.t.dirtyL.length) := hc1; rw [Tr.savedE, if_neg hc1', if_pos ⟨rfl, h0.2⟩, if_pos rfl]
  have hE : savE x (0 : Nat) = 0 := by rw [savE, if_pos h0]; exact e1
  have hT : savT x (0 : Nat) = ⟨x.v, x.t.setN 0 ⟨1, Rf.zero⟩⟩ := by
   rw [savT, if_pos h0, Tr.savedT, if_pos e1]; rfl
  rw [hT]
  have hdl := dl_saved hl Rf.zero
  refine ⟨hE, ⟨?_, ?_, ?_⟩, ?_, .refl _, hdl, rfl⟩
  ·refine h.lg.cn_eq fun s => ?_
   have hc := cntS_cnt (a := (x.t.setN 0 ⟨1, Rf.zero⟩).refs) (b := []) (c := x.t.refs) (d := []) (fun r => by
    have h1 := cnt_saved x.t 0 Rf.zero r
    rw [Tr.savedT, if_pos e1, if_neg (show ¬ (x.t.savedE 0 Rf.zero = 0 ∧ 0 < Rf.zero.at_) from fun h => absurd h.2 (by decide))] at h1
    exact h1) s
   have : cntS [] s = 0 := rfl
   show _ = cntS (x.t.setN 0 ⟨1, Rf.zero⟩).refs s
   omega
  ·exact h.tr.bl
  ·intro j hj
   show (x.t.setN 0 ⟨1, Rf.zero⟩).n j = _ ∨ _
   by_cases e : j = 0
   ·subst e
    exact .inr (.inr (.inl ⟨rfl, by show (x.t.setN 0 ⟨1, Rf.zero⟩).n 0 = _; rw [Tr.setN_n _ _ _ _ (by omega), if_pos rfl]⟩))
   ·have : (x.t.setN 0 ⟨1, Rf.zero⟩).n j = x.t.n j := by rw [Tr.setN_n _ _ _ _ (by omega), if_neg (fun e' => e e'.symm)]
    rw [this]
    exact h.tr.nd j hj
  ·unfold Psi
   simp only
   rw [hdl, hl, List.length_cons]; omega
 ·have hpg := h.page hi
  have hpE : pgE i (x.t.page i) = 0 := if_pos hpg
  have hpl8 : (x.t.page i).length = 8 := by rw [Tr.page, tab_len]
  obtain ⟨a1, a2, a3, a4, a, a5, a6, a7, a8⟩ := ap_step h.lg (psi_seg h hp) (k := 5) (no := i) (.inr ⟨rfl, by omega, by omega⟩) (pgB_len (i := i) hpl8)
  have hpos0 : 0 ≤ x.v.pos := by have := h.lg.w.seg; have := h.lg.w.slot; show 0 ≤ 32 * x.v.w.seg + x.v.w.slot; omega
  have hsE : x.t.savedE i (apR x.v 5 i (pgB i (x.t.page i))) = 0 := by
   rw [a8, Tr.savedE, if_neg hc1, if_neg h0, if_neg (by show ¬ a < 1; omega)]
  have hE : savE x i = 0 := by rw [savE, if_neg h0, if_neg (by simp [hpE]), if_neg (by simp [a1]), hsE]
  have hT : savT x i = ⟨(apV x.v 5 i (pgB i (x.t.page i))).acc 1 [apR x.v 5 i (pgB i (x.t.page i))], x.t.setN i ⟨1, apR x.v 5 i (pgB i (x.t.page i))⟩⟩ := by
   have hSn : x.t.savedT i (apR x.v 5 i (pgB i (x.t.page i))) = x.t.setN i ⟨1, apR x.v 5 i (pgB i (x.t.page i))⟩ := by rw [Tr.savedT, if_pos hsE]; rfl
   rw [savT, if_neg h0, if_neg (by simp [hpE]), if_neg (by simp [a1]), ← hSn]
  refine ⟨hE, ?_⟩
  rw [hT]
  have hcs := fun q => cnt_saved x.t i (apR x.v 5 i (pgB i (x.t.page i))) q
  rw [a8] at hcs hsE ⊢
  generalize apV x.v 5 i (pgB i (x.t.page i)) = v1 at *
  have hR : RefTo v1 ⟨a, smOf v1.c (peekD v1.d a)⟩ 5 (pgB i (x.t.page i)) := ⟨⟨by show 3 ≤ a; omega, a6⟩, rfl, a7⟩
  have hra : (⟨a, smOf v1.c (peekD v1.d a)⟩ : Rf).at_ = a := rfl
  generalize (⟨a, smOf v1.c (peekD v1.d a)⟩ : Rf) = r at *
  have x2 : Ext v1 (v1.acc 1 [r]) := .acc _ _ _
  have hdl := dl_saved hl r
  have l2 := new_step a2 hR.1 (fun s _ => by have := h.tr.cnt_le s; omega)
  have hSn : (x.t.savedT i r) = x.t.setN i ⟨1, r⟩ := by rw [Tr.savedT, if_pos hsE]; rfl
  refine ⟨⟨?_, ?_, ?_⟩, ?_, a3.trans x2, hdl, rfl⟩
  ·refine l2.cn_eq fun s => ?_
   have hc := cntS_cnt (a := (x.t.setN i ⟨1, r⟩).refs) (b := []) (c := x.t.refs) (d := [r]) (fun q => by
    have h1 := hcs q
    rw [hSn, if_pos ⟨hsE, by omega⟩] at h1
    rw [h1]; rfl) s
   have : cntS [] s = 0 := rfl
   show _ = cntS (x.t.setN i ⟨1, r⟩).refs s
   omega
  ·intro j hj hz
   obtain ⟨g1, g2⟩ := h.tr.bl j hj hz
   exact ⟨g1.ext (a3.trans x2), g2⟩
  ·intro j hj
   show (x.t.setN i ⟨1, r⟩).n j = _ ∨ _
   have hx := (h.tr.ext (a3.trans x2)).nd j hj
   by_cases e : j = i
   ·subst e
    refine .inr (.inr (.inr ?_))
    show ((x.t.setN j ⟨1, r⟩).n j).st = 1 ∧ ∃ pg : Pg, RefTo _ ((x.t.setN j ⟨1, r⟩).n j).ref 5 (pgB j pg) ∧ _
    rw [Tr.setN_n _ _ _ _ hj, if_pos rfl]
    exact ⟨rfl, x.t.page j, hR.ext x2, hpg, hpl8⟩
   ·have : (x.t.setN i ⟨1, r⟩).n j = x.t.n j := by rw [Tr.setN_n _ _ _ _ hi, if_neg (fun e' => e e'.symm)]
    rw [this]
    exact hx
  ·unfold Psi
   rw [psi_acc]
   simp only
   rw [hdl, hl, List.length_cons]; omega
theorem save_step {last : Nat → List B8} : ∀ (l : List Nat) {x : Pt}, J x last → Psi x < 7936 → x.t.dirtyL = l →
  saE x l = 0 ∧ J (saT x l) last ∧ Psi (saT x l) ≤ Psi x ∧ Ext x.v (saT x l).v ∧ (saT x l).t.bl = x.t.bl ∧ ∀ k, J (saT x (l.take k)) last := by
 intro l
 induction l with
 | nil => intro x h hp hl; exact ⟨rfl, h, Int.le_refl _, .refl _, rfl, fun k => by simpa [saT] using h⟩
 | cons i l ih =>
  intro x h hp hl
  obtain ⟨a1, a2, a3, a4, a5, a6⟩ := save1_step h hp hl
  obtain ⟨b1, b2, b3, b4, b5, b6⟩ := ih a2 (by omega) a5
  have e1 : saE x (i :: l) = saE (savT x i) l := by rw [saE, if_neg (by simp [a1])]
  have e2 : ∀ k : List Nat, saT x (i :: k) = saT (savT x i) k := fun k => by rw [saT, if_neg (by simp [a1])]
  rw [e1, e2]
  refine ⟨b1, b2, by omega, a4.trans b4, b5.trans a6, fun k => ?_⟩
  cases k with
  | zero => simpa [saT] using h
  | succ k => rw [List.take_succ_cons, e2]; exact b6 k
theorem J.ok {x : Pt} {last : Nat → List B8} (h : J x last) : PtOk x 980 := by
 refine ⟨h.lg.ok, fun y hy => ?_⟩
 have htb := h.lg.w.tb
 obtain ⟨s, hs⟩ := List.mem_iff_getElem?.mp hy
 have hlt := lt_of_get hs
 rw [htb.len] at hlt
 obtain ⟨ag, e⟩ := htb.row s hlt
 rw [e] at hs
 cases hs
 exact htb.cb s hlt
end Go.Proofs.YtehnkcnjmfbjpaaGreat
end
section
namespace Go.Proofs.YtehnkcnjmfbjpaaGreat
open Go Go.Adm
set_option linter.unusedSimpArgs false
set_option linter.unusedVariables false
set_option maxRecDepth 100000
theorem intB_numI {v : Int} (h : -9223372036854775808 ≤ v ∧ v < 9223372036854775808) (hv : 0 ≤ v) : intB (numI v) = v := by
 obtain ⟨n, rfl⟩ := Int.eq_ofNat_of_zero_le hv
 rw [numI_nat (by omega)]
 exact intB_num (by omega)
theorem blkO_put {b : Nat} (hb : b < 64) {data : List B8} (hd : data.length = 32) : blkO (puP b data) = some ((b : Int), data) := by
 have h1 : (puP (b : Int) data).take 8 = numI b := List.take_left' (numI_len _)
 have h2 : (puP (b : Int) data).drop 8 = data := List.drop_left' (numI_len _)
 have h3 := intB_numI (v := b) (by omega) (by omega)
 rw [blkO, h1, h2, h3, if_pos ⟨by rw [puP, List.length_append, numI_len, hd], by omega, by omega⟩]
theorem flatMap_drop {α : Type} (f : α → List B8) (n : Nat) (hf : ∀ a, (f a).length = n) : ∀ (l : List α) (j : Nat) (a : α), l[j]? = some a → ((l.flatMap f).drop (n * j)).take n = f a := by
 intro l
 induction l with
 | nil => intro j a h; simp at h
 | cons x l ih =>
  intro j a h
  rw [List.flatMap_cons]
  cases j with
  | zero =>
   simp only [List.getElem?_cons_zero, Option.some.injEq] at h
   subst h
   rw [Nat.mul_zero, List.drop_zero]; exact List.take_left' (hf _)
  | succ j =>
   have e : n * (j + 1) = (f x).length + n * j := by rw [hf, Nat.mul_succ, Nat.add_comm]
   rw [e, ← List.drop_drop, List.drop_left]
   exact ih j a (by simpa using h)
theorem pg_back {i : Int} {p : Pg} (h : pgOk i p) (hp : p.length = 8) : pgGE (pgB i p) = 0 ∧ pgGI (pgB i p) = i := by
 have hB : pgB i p = numI i ++ p.flatMap refB := if_pos h
 have hfl : ∀ l : List Rf, (l.flatMap refB).length = 40 * l.length := by
  intro l
  induction l with
  | nil => rfl
  | cons r l ih => rw [List.flatMap_cons, List.length_append, ih, refB_len, List.length_cons]; omega
 have hl : (pgB i p).length = 328 := by rw [hB, List.length_append, numI_len, hfl, hp]
 have h8 : (pgB i p).take 8 = numI i := by rw [hB]; exact List.take_left' (numI_len _)
 have hi : intB (numI i) = i := intB_numI (by have := h.2; omega) h.2.1
 have hd : ∀ k, (pgB i p).drop (8 + k) = (p.flatMap refB).drop k := fun k => by rw [← List.drop_drop, hB, List.drop_left' (numI_len _)]
 have hR : pgR (pgB i p) = p := by
  apply List.ext_getElem (by simp [pgR, tab_len, hp])
  intro j h1 h2
  have hj : j < 8 := by simpa [pgR, tab_len] using h1
  simp only [pgR, tab, List.getElem_map, List.getElem_range]
  have e1 := flatMap_drop refB 40 refB_len p j p[j] (List.getElem?_eq_getElem h2)
  have e2 : ((pgB i p).drop (8 + 40 * j)).take 8 = numI (p[j]).at_ := by
   rw [hd]
   have := congrArg (List.take 8) e1
   rw [List.take_take] at this
   rw [show Min.min 8 40 = 8 from rfl] at this
   rw [this, refB]
   exact List.take_left' (numI_len _)
  have e3 : ((pgB i p).drop (16 + 40 * j)).take 32 = (p[j]).sum.1 := by
   rw [show 16 + 40 * j = 8 + (8 + 40 * j) by omega, hd]
   have := congrArg (List.drop 8) e1
   rw [List.drop_take, List.drop_drop] at this
   rw [show 40 - 8 = 32 from rfl, Nat.add_comm (40 * j) 8] at this
   rw [this, refB]
   exact List.drop_left' (numI_len _)
  rw [e2, e3]
  have hat : intB (numI (p[j]).at_) = (p[j]).at_ := by
   by_cases hz : p[j] = Rf.zero
   ·rw [hz]; exact intB_numI (v := 0) (by omega) (by omega)
   ·have := h.1 _ (List.getElem_mem h2) hz
    exact intB_numI (by omega) (by omega)
  have hsm : smT (p[j]).sum.1 = (p[j]).sum := dif_pos (p[j]).sum.2
  rw [hat, hsm]
 have hE : pgGE (pgB i p) = 0 := by
  rw [pgGE, if_neg (by omega), if_neg (by omega), h8, hi, hR, if_pos h]
 exact ⟨hE, by rw [pgGI, if_pos hE, h8, hi]⟩
def secOf (seg slot : Int) : Int := 3 + seg * 32 + slot
theorem at_in {v : Vl} (hg : v.w.g = gS) {seg slot : Int} (h1 : 0 ≤ seg ∧ seg ≤ 17) (h2 : 0 ≤ slot ∧ slot ≤ 31) : atG v.w.g seg slot = secOf seg slot := by rw [hg]; exact atG_gS h1 h2
theorem at_no {seg slot : Int} (h : ¬ ((0 ≤ seg ∧ seg ≤ 17) ∧ 0 ≤ slot ∧ slot ≤ 31)) : atG gS seg slot = 0 := by
 rw [atG, if_neg]
 rintro ⟨-, ⟨h1, h2⟩, h3, h4⟩
 have h2 : seg ≤ 18 - 1 := h2
 have h4 : slot ≤ 32 - 1 := h4
 omega
section
variable {x x' : Pt} {seg slot : Int} {a : Int}
theorem whO_block (ha : atG x.v.w.g seg slot = a) (h0 : a ≠ 0) {b : Nat} (hb : b < 64) {data : List B8} (hd : data.length = 32) (hs : Stored x.v.d x.v.c a 4 (puP b data)) : whO x seg slot = some ⟨4, b, ⟨a, smOf x.v.c (peekD x.v.d a)⟩, data⟩ := by
 obtain ⟨h1, h2, h3, -⟩ := hs.get
 rw [whO, ha, if_neg h0, h1, if_neg (by simp [h2]), if_pos rfl, h3, blkO_put hb hd]
 rfl
theorem whO_node (ha : atG x.v.w.g seg slot = a) (h0 : a ≠ 0) {i : Int} {pg : Pg} (hp : pgOk i pg) (hl : pg.length = 8) (hs : Stored x.v.d x.v.c a 5 (pgB i pg)) : whO x seg slot = some ⟨5, i, ⟨a, smOf x.v.c (peekD x.v.d a)⟩, []⟩ := by
 obtain ⟨h1, h2, h3, -⟩ := hs.get
 obtain ⟨g1, g2⟩ := pg_back hp hl
 rw [whO, ha, if_neg h0, h1, if_neg (by simp [h2]), if_neg (by decide), h3, if_pos ⟨rfl, g1⟩, g2]
theorem whO_other (ha : atG x.v.w.g seg slot = a) {k : Int} {p : List B8} (hk : k ≠ 4 ∧ k ≠ 5) (hs : Stored x.v.d x.v.c a k p) : whO x seg slot = none := by
 obtain ⟨h1, h2, h3, -⟩ := hs.get
 rw [whO, ha]
 split
 ·rfl
 ·rw [h1, if_neg (by simp [h2]), if_neg hk.1, if_neg (fun h => hk.2 h.1)]
theorem getE_nil (c : CyS) (a : Int) : getE c 0 a [] ≠ 0 := by
 rw [getE, if_pos (by simp)]; decide
theorem whO_nil (ha : atG x.v.w.g seg slot = a) (hs : peekD x.v.d a = []) : whO x seg slot = none := by
 rw [whO, ha]
 split
 ·rfl
 ·rw [hs]
  have hk : kindB [] = 0 := rfl
  rw [hk, if_pos (getE_nil _ _)]
theorem whO_out (ha : atG x.v.w.g seg slot = 0) : whO x seg slot = none := by rw [whO, if_pos ha]
theorem whO_same (hg : x'.v.w.g = x.v.w.g) (ha : atG x.v.w.g seg slot = a) (hs : (∃ k p, Stored x.v.d x.v.c a k p) ∨ peekD x.v.d a = []) (hp : peekD x'.v.d a = peekD x.v.d a) (hc : CyUp x.v.c x'.v.c) : whO x' seg slot = whO x seg slot := by
 rcases hs with ⟨k, p, hs⟩ | hs
 ·by_cases h0 : a = 0
  ·rw [whO_out (x := x) (by rw [ha, h0]), whO_out (x := x') (by rw [hg, ha, h0])]
  ·have hs' : Stored x'.v.d x'.v.c a k p := hs.step hp hc.has hc.kn
   obtain ⟨h1, h2, h3, -, h4, -⟩ := hs.get
   obtain ⟨g1, g2, g3, -⟩ := hs'.get
   have hsm : smOf x'.v.c (peekD x'.v.d a) = smOf x.v.c (peekD x.v.d a) := by
    rw [hp]; exact Subtype.ext (hc.sm _ h4)
   have e : whO x seg slot = if k = 4 then (blkO (getS x.v.c 4 a (peekD x.v.d a)).p).map fun q => ⟨4, q.1, ⟨a, smOf x.v.c (peekD x.v.d a)⟩, q.2⟩ else if k = 5 ∧ pgGE (getS x.v.c 5 a (peekD x.v.d a)).p = 0 then some ⟨5, pgGI (getS x.v.c 5 a (peekD x.v.d a)).p, ⟨a, smOf x.v.c (peekD x.v.d a)⟩, []⟩ else none := by
    rw [whO, ha, if_neg h0, h1, if_neg (by simp [h2])]
   have e' : whO x' seg slot = if k = 4 then (blkO (getS x'.v.c 4 a (peekD x'.v.d a)).p).map fun q => ⟨4, q.1, ⟨a, smOf x'.v.c (peekD x'.v.d a)⟩, q.2⟩ else if k = 5 ∧ pgGE (getS x'.v.c 5 a (peekD x'.v.d a)).p = 0 then some ⟨5, pgGI (getS x'.v.c 5 a (peekD x'.v.d a)).p, ⟨a, smOf x'.v.c (peekD x'.v.d a)⟩, []⟩ else none := by
    rw [whO, hg, ha, if_neg h0, g1, if_neg (by simp [g2])]
   rw [e, e', hsm]
   by_cases k4 : k = 4
   ·subst k4; rw [if_pos rfl, if_pos rfl, h3, g3]
   ·rw [if_neg k4, if_neg k4]
    by_cases k5 : k = 5
    ·subst k5; rw [h3, g3]
    ·rw [if_neg (fun h => k5 h.1), if_neg (fun h => k5 h.1)]
 ·rw [whO_nil ha hs, whO_nil (by rw [hg, ha]) (hp.trans hs)]
variable {last : Nat → List B8}
theorem J.seen (h : J x last) (ha : 3 ≤ a) : (∃ k p, Stored x.v.d x.v.c a k p) ∨ peekD x.v.d a = [] := by
 by_cases h1 : a < 3 + x.v.pos
 ·exact .inl (h.lg.w.st a ha h1)
 ·exact .inr (h.lg.w.un a (by omega))
theorem J.tx (h : J x last) (ha : 3 ≤ a) : cyTr (cyTx x.v.c (peekD x.v.d a)) x.v.w.no.toNat := by
 rcases h.seen ha with ⟨k, p, hs⟩ | hs
 ·rw [cyTx_kn hs.get.2.2.2.2.1]; exact h.lg.w.ct
 ·rw [hs]; exact cyTr_nil h.lg.w.ct
theorem J.mono (h : J x last) {d : Dk} {c : CyS} (hd : CalmD d 579) (hp : ∀ a, peekD d a = peekD x.v.d a) (hc : CyUp x.v.c c) (hk : cyOk c x.v.w.no.toNat) (ht : cyTr c x.v.w.no.toNat) : J ⟨{ x.v with d := d, c := c }, x.t⟩ last := by
 have hx : Ext x.v { x.v with d := d, c := c } := ⟨hc, fun a _ => hp a, Int.le_refl _⟩
 refine ⟨⟨⟨h.lg.w.g, h.lg.w.ep, h.lg.w.seg, h.lg.w.slot, h.lg.w.no, hd, hk, ht, ?_, ?_, h.lg.w.tb⟩, h.lg.s31, h.lg.el, h.lg.ek⟩, h.tr.ext hx⟩
 ·intro a h1 h2
  obtain ⟨k, p, hs⟩ := h.lg.w.st a h1 h2
  exact ⟨k, p, hx.stored hs h2⟩
 ·intro a h1
  show peekD d a = []
  rw [hp]; exact h.lg.w.un a h1
theorem J.look (h : J x last) (seg slot : Int) : J (whT x seg slot) last ∧ (∀ a, peekD (whT x seg slot).v.d a = peekD x.v.d a) ∧ CyUp x.v.c (whT x seg slot).v.c ∧ (whT x seg slot).v.w = x.v.w ∧ (whT x seg slot).v.u = x.v.u ∧ (whT x seg slot).t = x.t := by
 unfold whT
 by_cases h0 : atG x.v.w.g seg slot = 0
 ·rw [if_pos h0]
  exact ⟨h, fun _ => rfl, .refl _, rfl, rfl, rfl⟩
 ·rw [if_neg h0]
  have ha : 3 ≤ atG x.v.w.g seg slot := by
   rw [h.lg.w.g] at h0 ⊢
   by_cases h1 : (0 ≤ seg ∧ seg ≤ 17) ∧ 0 ≤ slot ∧ slot ≤ 31
   ·rw [atG_gS h1.1 h1.2]; omega
   ·exact absurd (at_no h1) h0
  obtain ⟨r1, r2⟩ := h.lg.w.dk.read (atG x.v.w.g seg slot)
  refine ⟨h.mono r1 r2 (.tx _ _) (cyOk_tx h.lg.w.co _) (h.tx ha), r2, .tx _ _, rfl, rfl, rfl⟩
theorem J.block (h : J x last) (h1 : 0 ≤ seg ∧ seg ≤ 17) (h2 : 0 ≤ slot ∧ slot ≤ 31) {b : Nat} (hb : b < 64) (hz : x.t.b b ≠ Rf.zero) (he : (x.t.b b).at_ = secOf seg slot) : whO x seg slot = some ⟨4, b, x.t.b b, last b⟩ ∧ isB x.t ⟨4, b, x.t.b b, last b⟩ = true := by
 have ha := at_in h.lg.w.g h1 h2
 have h0 : secOf seg slot ≠ 0 := by unfold secOf; omega
 obtain ⟨⟨-, g2, g3⟩, g4⟩ := h.tr.bl b hb hz
 rw [he] at g2 g3
 have hr : (⟨secOf seg slot, smOf x.v.c (peekD x.v.d (secOf seg slot))⟩ : Rf) = x.t.b b := by rw [← g2, ← he]
 rw [whO_block ha h0 hb g4 g3, hr]
 refine ⟨rfl, ?_⟩
 unfold isB
 rw [if_pos rfl]
 simp only
 rw [x.t.at_nat hb]
 simpa using hz
theorem J.node (h : J x last) (h1 : 0 ≤ seg ∧ seg ≤ 17) (h2 : 0 ≤ slot ∧ slot ≤ 31) {n : Nat} (hn : n < 9) (hs : (x.t.n n).st = 1) (hp : 0 < (x.t.n n).ref.at_) (he : (x.t.n n).ref.at_ = secOf seg slot) : whO x seg slot = some ⟨5, n, (x.t.n n).ref, []⟩ ∧ isB x.t ⟨5, n, (x.t.n n).ref, []⟩ = true := by
 have ha := at_in h.lg.w.g h1 h2
 have h0 : secOf seg slot ≠ 0 := by unfold secOf; omega
 obtain ⟨pg, ⟨-, g2, g3⟩, g4, g5⟩ := h.tr.node hn hs hp
 rw [he] at g2 g3
 have hr : (⟨secOf seg slot, smOf x.v.c (peekD x.v.d (secOf seg slot))⟩ : Rf) = (x.t.n n).ref := by rw [← g2, ← he]
 rw [whO_node ha h0 g4 g5 g3, hr]
 refine ⟨rfl, ?_⟩
 have hB : isB x.t ⟨5, n, (x.t.n n).ref, []⟩ = (x.t.nodeB n && (x.t.nodeR n == (x.t.n n).ref) && !(x.t.nodeR n == Rf.zero)) := rfl
 rw [hB]
 have e0 : x.t.node (n : Int) = x.t.n n := x.t.node_nat (by omega)
 have hz : (x.t.n n).ref ≠ Rf.zero := fun h => by rw [h] at hp; exact absurd hp (by decide)
 simp only [Tr.nodeB, Tr.nodeR, e0, hs, decide_true, if_true, Bool.true_and, beq_self_eq_true]
 simpa using hz
end
end Go.Proofs.YtehnkcnjmfbjpaaGreat
end
