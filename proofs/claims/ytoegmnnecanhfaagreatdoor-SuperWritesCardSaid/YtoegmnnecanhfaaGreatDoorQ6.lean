/- Texts of this seat, joined (part 6 of 6): an abstract memory for Go programs, this seat's functions as abstract code, and what each of them does. -/
import Derived.Test.YtoegmnnecanhfaaGreatDoorQ5
set_option linter.unusedSimpArgs false
set_option linter.defProp false
section
namespace Go.Proofs.YtoegmnnecanhfaaGreatDoor
open Go Go.Adm
set_option linter.unusedSimpArgs false
set_option linter.unusedVariables false
set_option maxRecDepth 100000
theorem cGet_iff {c : Cch} (h : (c.map (·.1)).Nodup) {i : Int} {b : List B8} : cGet c i = some b ↔ (i, b) ∈ c := by
 constructor
 ·intro hg
  unfold cGet at hg
  cases hj : cIdx c i with
  | none => rw [hj] at hg; cases hg
  | some j =>
   obtain ⟨b', hb⟩ := cIdx_some hj
   rw [hj, Option.bind_some, hb] at hg
   cases hg
   exact List.mem_of_getElem? hb
 ·intro hm
  obtain ⟨j, hj⟩ := List.getElem?_of_mem hm
  have : cIdx c i = some j := fidx_nodup h (by rw [List.getElem?_map, hj]; rfl)
  unfold cGet
  rw [this, Option.bind_some, hj]; rfl
theorem cGet_put_ne {c : Cch} (h : (c.map (·.1)).Nodup) {i j : Int} {b : List B8} (hj : j ≠ i) : cGet (cPut c i b) j = cGet c j := by
 apply Option.ext
 intro b'
 rw [cGet_iff (cPut_keys h), cGet_iff h]
 unfold cPut
 cases hi : cIdx c i with
 | none => simp [hj]
 | some k =>
  obtain ⟨b0, hb0⟩ := cIdx_some hi
  constructor
  ·intro hm
   rcases List.mem_or_eq_of_mem_set hm with h1 | h1
   ·exact h1
   ·cases h1; exact absurd rfl hj
  ·intro hm
   obtain ⟨q, hq⟩ := List.getElem?_of_mem hm
   have : k ≠ q := fun e => by subst e; rw [hb0] at hq; cases hq; exact hj rfl
   exact List.mem_of_getElem? (i := q) (by rw [List.getElem?_set_ne this]; exact hq)
theorem cGet_del_ne {c : Cch} (h : (c.map (·.1)).Nodup) {i j : Int} (hj : j ≠ i) : cGet (cDel c i) j = cGet c j := by
 apply Option.ext
 intro b'
 rw [cGet_iff (cDel_keys h), cGet_iff h]
 unfold cDel
 cases hi : cIdx c i with
 | none => rfl
 | some k =>
  obtain ⟨b0, hb0⟩ := cIdx_some hi
  simp only
  rw [List.mem_eraseIdx_iff_getElem?]
  constructor
  ·rintro ⟨q, -, hq⟩; exact List.mem_of_getElem? hq
  ·intro hm
   obtain ⟨q, hq⟩ := List.getElem?_of_mem hm
   exact ⟨q, fun e => by subst e; rw [hb0] at hq; cases hq; exact hj rfl, hq⟩
def armR (d : Dk) : Int := if d.armed then d.left else -1
def armD (d : Dk) (k : Int) : Dk := { d with armed := decide (k ≥ 0), left := k }
structure Its (m : Mem) (W R : List Nat) (x : AV) (L : List It) : Prop where
 gr : GrA 2 0 m x (flatOf itC L)
 bl : ∀ q ∈ blkOf x, q ∈ R ∧ q ∉ W
 el : ∀ e ∈ L, RdV m W R e.2.1 e.2.2 ∧ e.2.2.length ≤ 100000
theorem Its.kept {m m' : Mem} {W R R' X : List Nat} {x : AV} {L : List It} (h : Its m W R x L) (hk : Kept X m m') (hX : ∀ q ∈ R, q ∉ W → q ∉ X) (hR : ∀ q ∈ R, q ∈ R') : Its m' W R' x L :=
 ⟨h.gr.kept hk (fun q hq => hX q (h.bl q hq).1 (h.bl q hq).2), fun q hq => ⟨hR q (h.bl q hq).1, (h.bl q hq).2⟩, fun e he => ⟨(h.el e he).1.kept hk (fun q hq => hX q ((h.el e he).1.2 q hq).1 ((h.el e he).1.2 q hq).2) hR, (h.el e he).2⟩⟩
theorem Its.rd {m : Mem} {W R : List Nat} {x : AV} {L : List It} (h : Its m W R x L) : RdIt m x L := .gr h.gr
structure RDk (m : Mem) (x : Nat) (W R : List Nat) (k : Nat) (d : Dk) : Prop where
 ex : ∃ pr lv hv L H, W = [x, pr] ∧ x ≠ pr ∧ own m x = some [.int .i64 d.lasts.length, .int .i64 (armR d), .int .i64 d.writes, .bool d.off, lv, hv, .sl pr 0 d.lasts.length d.lasts.length 0] ∧ own m pr = some (d.reads.map (.int .i64)) ∧
  Its m W R lv L ∧ Its m W R hv H ∧ (∀ i : Nat, i < d.lasts.length → (lfind L i).getD [] = (d.lasts[i]?).getD []) ∧ (∀ i, lfind H i = cGet d.cache i) ∧ L.length ≤ k ∧ H.length ≤ k
 rl : d.reads.length = d.lasts.length
 sub : ∀ q ∈ W, q ∈ R
 lt : ∀ q ∈ R, q < m.length
 keys : (d.cache.map (·.1)).Nodup
 sz : 1 ≤ d.lasts.length ∧ d.lasts.length ≤ 4096
 ar : d.armed = true → 0 ≤ d.left ∧ d.left < 9223372036854775808
theorem RDk.kept {m m' : Mem} {x k : Nat} {W R X : List Nat} {d : Dk} (h : RDk m x W R k d) (hk : Kept X m m') (hX : ∀ q ∈ R, q ∉ X) : RDk m' x W R k d := by
 obtain ⟨pr, lv, hv, L, H, rfl, hn, h1, h2, h3, h4, h5⟩ := h.ex
 have hs := h.sub
 exact ⟨⟨pr, lv, hv, L, H, rfl, hn, hk.own h1 (hX x (hs x (by simp))), hk.own h2 (hX pr (hs pr (by simp))), h3.kept hk (fun q hq _ => hX q hq) (fun _ h => h), h4.kept hk (fun q hq _ => hX q hq) (fun _ h => h), h5⟩, h.rl, hs, fun q hq => Nat.lt_of_lt_of_le (h.lt q hq) hk.len, h.keys, h.sz, h.ar⟩
theorem RDk.kept0 {m m' : Mem} {x k : Nat} {W R : List Nat} {d : Dk} (h : RDk m x W R k d) (hk : Kept [] m m') : RDk m' x W R k d := h.kept hk (by simp)
theorem RDk.weak {m : Mem} {x k k' : Nat} {W R : List Nat} {d : Dk} (h : RDk m x W R k d) (hk : k ≤ k') : RDk m x W R k' d := by
 obtain ⟨pr, lv, hv, L, H, h0, hn, h1, h2, h3, h4, h5, h6, h7, h8⟩ := h.ex
 exact ⟨⟨pr, lv, hv, L, H, h0, hn, h1, h2, h3, h4, h5, h6, by omega, by omega⟩, h.rl, h.sub, h.lt, h.keys, h.sz, h.ar⟩
theorem RDk.put {m m2 : Mem} {x pr k k' : Nat} {R R' : List Nat} {d d' : Dk} {lv hv : AV} {L H : List It} (h : RDk m x [x, pr] R k d) (hk : Kept [x] m m2) (hn : x ≠ pr) (h2 : own m pr = some (d.reads.map (.int .i64)))
  (hR : ∀ q ∈ R, q ∈ R') (hlt : ∀ q ∈ R', q < m2.length) (hL : Its m2 [x, pr] R' lv L) (hH : Its m2 [x, pr] R' hv H) (e1 : d'.lasts.length = d.lasts.length) (e2 : d'.reads = d.reads)
  (f1 : ∀ i : Nat, i < d'.lasts.length → (lfind L i).getD [] = (d'.lasts[i]?).getD []) (f2 : ∀ i, lfind H i = cGet d'.cache i) (f3 : L.length ≤ k' ∧ H.length ≤ k') (f4 : (d'.cache.map (·.1)).Nodup) (f5 : d'.armed = true → 0 ≤ d'.left ∧ d'.left < 9223372036854775808)
  {cells : List AV} (hc : cells = [.int .i64 d'.lasts.length, .int .i64 (armR d'), .int .i64 d'.writes, .bool d'.off, lv, hv, .sl pr 0 d'.lasts.length d'.lasts.length 0]) : Kept [x, pr] m (m2.set x (.row cells false)) ∧ RDk (m2.set x (.row cells false)) x [x, pr] R' k' d' := by
 have hx : x < m2.length := hlt x (hR x (h.sub x (by simp)))
 have kX : Kept [x] m2 (m2.set x (.row cells false)) := .set1 _ _ _
 have nX : ∀ q ∈ R', q ∉ [x, pr] → q ∉ [x] := fun q _ h1 h2 => h1 (by simp only [List.mem_singleton] at h2; simp [h2])
 refine ⟨(hk.trans kX).more (by simp), ⟨pr, lv, hv, L, H, rfl, hn, by rw [← hc]; exact own_set hx _, by rw [e2]; exact kX.own (hk.own h2 (by simp; omega)) (by simp; omega), hL.kept kX nX (fun _ h => h), hH.kept kX nX (fun _ h => h), f1, f2, f3.1, f3.2⟩, by rw [e1, e2]; exact h.rl, fun q hq => hR q (h.sub q hq), fun q hq => by rw [List.length_set]; exact hlt q hq, f4, by rw [e1]; exact h.sz, f5⟩
theorem Its.new {m m1 m2 : Mem} {W R : List Nat} {lv z v : AV} {L L' : List It} {i : Int} {b : List B8} (h : Its m W R lv L) (k1 : Kept [] m m1) (k2 : Kept [] m1 m2) (hW : ∀ q ∈ W, q < m.length) (gv : RdB m1 v b) (bv : ∀ q ∈ blkOf v, m.length ≤ q) (hb : b.length ≤ 100000) (gz : GrA 2 m1.length m2 z (flatOf itC L')) (bz : ∀ q ∈ blkOf z, m1.length ≤ q) (hc : ∀ e ∈ L', e ∈ L ∨ e = (i, v, b)) : Its m2 W (R ++ (blkOf v ++ blkOf z)) z L' := by
 have l1 := k1.len
 refine ⟨gz.low (Nat.zero_le _), fun q hq => ⟨by simp [hq], fun h => by have := bz q hq; have := hW q h; omega⟩, fun e he => ?_⟩
 rcases hc e he with h' | rfl
 ·exact ⟨(h.el e h').1.kept (k1.trans k2) (by simp) (fun q hq => by simp [hq]), (h.el e h').2⟩
 ·exact ⟨⟨gv.kept0 k2, fun q hq => ⟨by simp [hq], fun h => by have := bv q hq; have := hW q h; omega⟩⟩, hb⟩
theorem ans_r7new (n : Nat) (hn : 1 ≤ n ∧ n ≤ 4096) (m : Mem) : Ans Tryz.prog 6 [.int .i64 n] m fun r m' => Kept [] m m' ∧ ∃ x W R, r = .tup [.ptr x 0, .int .i64 0] ∧ RDk m' x W R 0 (dk0 n) ∧ ∀ q ∈ R, m.length ≤ q := by
 refine ans_ret mixed ok6 ?_
 simp -implicitDefEqProofs (disch := (first | omega | (simp only [lenB] <;> omega) | fail)) only [admQ, lenB, aFill, AK.cls, implies_true, if_true, if_false, seval, -List.reduceReplicate, c6, r6, dec_f (show ¬ (n : Int) < 1 by omega), dec_f (show ¬ (n : Int) > 4096 by omega)]
 have r2 : rep n [AV.int .i64 0] = (List.replicate n (0 : Int)).map (.int .i64) := by simp [rep]
 have hI : ∀ M, Its M [m.length + 1, m.length] [m.length + 1, m.length] .nils [] := fun M => ⟨.nils .., by simp [blkOf], by simp⟩
 refine ⟨.app _ _ _, m.length + 1, [m.length + 1, m.length], [m.length + 1, m.length], rfl, ⟨⟨m.length, .nils, .nils, [], [], rfl, by omega, ?_, ?_, hI _, hI _, fun i hi => ?_, fun i => rfl, by simp, by simp⟩, by simp [dk0], fun q hq => hq, by simp, by simp [dk0], by simp only [dk0, List.length_replicate]; exact hn, by simp [dk0]⟩, by simp⟩
 ·rw [own_app_at]; simp [own, dk0, armR]
 ·rw [own_app_at0, r2]; rfl
 ·simp only [dk0, List.length_replicate] at hi
  simp [dk0, lfind_nil, List.getElem?_replicate, hi]
theorem ans_r7arm {m : Mem} {x k : Nat} {W R : List Nat} {d : Dk} (h : RDk m x W R k d) (a : Int) (ha : a < 9223372036854775808) : Ans Tryz.prog 10 [.ptr x 0, .int .i64 a] m fun r m' => Kept W m m' ∧ RDk m' x W R k (armD d a) := by
 refine ans_ret mixed ok10 ?_
 obtain ⟨pr, lv, hv, L, H, rfl, hn, h1, h2, h3, h4, h5, h6, h7, h8⟩ := h.ex
 have fin : ∀ cells, cells = [AV.int .i64 d.lasts.length, .int .i64 (armR (armD d a)), .int .i64 d.writes, .bool d.off, lv, hv, .sl pr 0 d.lasts.length d.lasts.length 0] → Kept [x, pr] m (m.set x (.row cells false)) ∧ RDk (m.set x (.row cells false)) x [x, pr] R k (armD d a) := fun cells hc =>
  h.put (d' := armD d a) (.refl _ _) hn h2 (fun _ h => h) h.lt h3 h4 rfl rfl h5 h6 ⟨h7, h8⟩ h.keys (fun hh => ⟨of_decide_eq_true hh, ha⟩) hc
 by_cases hneg : a < 0
 ·have har : armR (armD d a) = -1 := by rw [armR, armD, decide_eq_false (by omega : ¬ a ≥ 0)]; rfl
  rw [har] at fin
  have o2 := own_set (own_lt h1) [AV.int .i64 d.lasts.length, .int .i64 a, .int .i64 d.writes, .bool d.off, lv, hv, .sl pr 0 d.lasts.length d.lasts.length 0]
  simp -implicitDefEqProofs (disch := (first | omega | (simp only [lenB] <;> omega) | fail)) only [admQ, lenB, aFill, AK.cls, implies_true, if_true, if_false, seval, -List.reduceReplicate, c10, r10, h1, dec_t hneg, o2, List.set_set]
  exact fin _ rfl
 ·have har : armR (armD d a) = a := by rw [armR, armD, decide_eq_true (by omega : a ≥ 0)]; rfl
  rw [har] at fin
  simp -implicitDefEqProofs (disch := (first | omega | (simp only [lenB] <;> omega) | fail)) only [admQ, lenB, aFill, AK.cls, implies_true, if_true, if_false, seval, -List.reduceReplicate, c10, r10, h1, dec_f hneg]
  exact fin _ rfl
theorem ans_r7wrong {m : Mem} {x k : Nat} {W R : List Nat} {d : Dk} {y : AV} {b : List B8} (h : RDk m x W R k d) (hy : RdB m y b) (i : Int) : Ans Tryz.prog 43 [.ptr x 0, .int .i64 i, y] m fun r m' => r = .int .i64 (wrongD d i b) ∧ m' = m := by
 refine ans_ret mixed ok43 ?_
 obtain ⟨pr, lv, hv, L, H, rfl, hn, h1, -⟩ := h.ex
 unfold wrongD
 by_cases h0 : i < 0
 ·have : ¬ okI d i := fun h => by have := h.1; omega
  simp -implicitDefEqProofs (disch := (first | omega | (simp only [lenB] <;> omega) | fail)) only [admQ, lenB, aFill, AK.cls, implies_true, if_true, if_false, seval, -List.reduceReplicate, c43, r43, dec_t h0, this]
 ·by_cases hj : i ≥ (d.lasts.length : Int)
  ·have : ¬ okI d i := fun h => by have := h.2; omega
   simp -implicitDefEqProofs (disch := (first | omega | (simp only [lenB] <;> omega) | fail)) only [admQ, lenB, aFill, AK.cls, implies_true, if_true, if_false, seval, -List.reduceReplicate, c43, r43, rowOf_own h1, dec_f h0, dec_t hj, this]
  ·have : okI d i := ⟨by omega, by omega⟩
   by_cases h2 : b.length > 1024
   ·simp -implicitDefEqProofs (disch := (first | omega | (simp only [lenB] <;> omega) | fail)) only [admQ, lenB, aFill, AK.cls, implies_true, if_true, if_false, seval, -List.reduceReplicate, c43, r43, rowOf_own h1, dec_f h0, dec_f hj, hy.len, dec_t (show (b.length : Int) > 1024 by omega), this, h2]
   ·simp -implicitDefEqProofs (disch := (first | omega | (simp only [lenB] <;> omega) | fail)) only [admQ, lenB, aFill, AK.cls, implies_true, if_true, if_false, seval, -List.reduceReplicate, c43, r43, rowOf_own h1, dec_f h0, dec_f hj, hy.len, dec_f (show ¬ (b.length : Int) > 1024 by omega), this, h2]
theorem ans_r7spend {m : Mem} {x k : Nat} {W R : List Nat} {d : Dk} (h : RDk m x W R k d) : Ans Tryz.prog 64 [.ptr x 0] m fun r m' => r = .int .i64 (spendE d) ∧ Kept W m m' ∧ RDk m' x W R k (spendD d) ∧ m'.length = m.length := by
 refine ans_ret mixed ok64 ?_
 obtain ⟨pr, lv, hv, L, H, rfl, hn, h1, h2, h3, h4, h5, h6, h7, h8⟩ := h.ex
 have fin : ∀ d' : Dk, d'.lasts = d.lasts → d'.cache = d.cache → d'.reads = d.reads → (d'.armed = true → 0 ≤ d'.left ∧ d'.left < 9223372036854775808) → ∀ cells, cells = [AV.int .i64 d.lasts.length, .int .i64 (armR d'), .int .i64 d'.writes, .bool d'.off, lv, hv, .sl pr 0 d.lasts.length d.lasts.length 0] → Kept [x, pr] m (m.set x (.row cells false)) ∧ RDk (m.set x (.row cells false)) x [x, pr] R k d' := fun d' e1 e2 e3 e4 cells hc =>
  h.put (.refl _ _) hn h2 (fun _ h => h) h.lt h3 h4 (by rw [e1]) e3 (by rw [e1]; exact h5) (by rw [e2]; exact h6) ⟨h7, h8⟩ (by rw [e2]; exact h.keys) e4 (by rw [e1]; exact hc)
 by_cases ho : d.off = true
 ·rw [spendE, spendD, if_pos ho, if_pos ho]
  simp -implicitDefEqProofs (disch := (first | omega | (simp only [lenB] <;> omega) | fail)) only [admQ, lenB, aFill, AK.cls, implies_true, if_true, if_false, seval, -List.reduceReplicate, c64, r64, rowOf_own h1, ho]
  exact ⟨.refl _ _, h⟩
 ·have ho' : d.off = false := by simpa using ho
  by_cases ha : d.armed = true ∧ d.left = 0
  ·rw [spendE, spendD, if_neg ho, if_pos ha, if_neg ho, if_pos ha]
   obtain ⟨ha1, ha2⟩ := ha
   have har : armR d = 0 := by rw [armR, if_pos ha1, ha2]
   simp -implicitDefEqProofs (disch := (first | omega | (simp only [lenB] <;> omega) | fail)) only [admQ, lenB, aFill, AK.cls, implies_true, if_true, if_false, seval, -List.reduceReplicate, c64, r64, rowOf_own h1, ho', har, h1]
   exact fin { d with off := true } rfl rfl rfl (fun _ => h.ar ha1) _ (by have : armR { d with off := true } = 0 := har; rw [this])
  ·rw [spendE, spendD, if_neg ho, if_neg ha, if_neg ho, if_neg ha]
   cases har : d.armed with
   | true =>
    have ha2 : ¬ d.left = 0 := fun h => ha ⟨har, h⟩
    have hb := h.ar har
    have hr : armR d = d.left := by rw [armR, if_pos har]
    simp -implicitDefEqProofs (disch := (first | omega | (simp only [lenB] <;> omega) | fail)) only [admQ, lenB, aFill, AK.cls, implies_true, if_true, if_false, seval, -List.reduceReplicate, c64, r64, rowOf_own h1, ho', hr, beq_eq_false_iff_ne.mpr ha2, dec_t (show d.left > 0 by omega), h1]
    exact fin ⟨d.lasts, d.cache, true, d.left - 1, false, d.writes, d.reads⟩ rfl rfl rfl (fun _ => ⟨by show 0 ≤ d.left - 1; omega, by show d.left - 1 < _; omega⟩) _ rfl
   | false =>
    have hr : armR d = -1 := by rw [armR, har]; rfl
    simp -implicitDefEqProofs (disch := (first | omega | (simp only [lenB] <;> omega) | fail)) only [admQ, lenB, aFill, AK.cls, implies_true, if_true, if_false, seval, -List.reduceReplicate, c64, r64, rowOf_own h1, ho', hr]
    exact ⟨.refl _ _, ⟨pr, lv, hv, L, H, rfl, hn, h1.trans (by rw [hr, ho']; rfl), h2, h3, h4, h5, h6, h7, h8⟩, h.rl, h.sub, h.lt, h.keys, h.sz, fun hh => by cases hh⟩
theorem ans_r7peek {m : Mem} {x k : Nat} {W R : List Nat} {d : Dk} (h : RDk m x W R k d) (hk : k ≤ 900000) {i : Nat} (hi : i < d.lasts.length) : Ans Tryz.prog 19 [.ptr x 0, .int .i64 i] m fun r m' => Kept [] m m' ∧ GrB m.length m' r (peekD d i) ∧ ∀ q ∈ blkOf r, m.length ≤ q := by
 refine ans_ret mixed ok19 ?_
 obtain ⟨pr, lv, hv, L, H, rfl, hn, h1, h2, h3, h4, h5, h6, h7, h8⟩ := h.ex
 simp -implicitDefEqProofs (disch := (first | omega | (simp only [lenB] <;> omega) | fail)) only [admQ, lenB, aFill, AK.cls, implies_true, if_true, if_false, seval, -List.reduceReplicate, c19, r19, rowOf_own h1]
 refine (ans_r7find h4.rd (by omega) (fun e he => ⟨(h4.el e he).1.1, by have := (h4.el e he).2; omega⟩) i).mono ?_
 rintro _ m1 ⟨k1, v, rfl, g1, b1⟩
 rw [h6] at g1 ⊢
 cases hc : cGet d.cache i with
 | some b =>
  rw [hc] at g1
  simp -implicitDefEqProofs (disch := (first | omega | (simp only [lenB] <;> omega) | fail)) only [admQ, lenB, aFill, AK.cls, implies_true, if_true, if_false, seval, -List.reduceReplicate, Option.isSome_some]
  exact ⟨k1, by rw [peekD, hc]; exact g1, b1⟩
 | none =>
  simp -implicitDefEqProofs (disch := (first | omega | (simp only [lenB] <;> omega) | fail)) only [admQ, lenB, aFill, AK.cls, implies_true, if_true, if_false, seval, -List.reduceReplicate, Option.isSome_none, rowOf_own (k1.own h1 (by simp))]
  have h3' := h3.kept k1 (by simp) (fun _ h => h)
  refine (ans_r7find h3'.rd (by omega) (fun e he => ⟨(h3'.el e he).1.1, by have := (h3'.el e he).2; omega⟩) i).mono ?_
  rintro _ m2 ⟨k2, v2, rfl, g2, b2⟩
  rw [h5 i hi] at g2
  simp -implicitDefEqProofs (disch := (first | omega | (simp only [lenB] <;> omega) | fail)) only [admQ, lenB, aFill, AK.cls, implies_true, if_true, if_false, seval, -List.reduceReplicate]
  have l1 := k1.len
  exact ⟨k1.trans k2, by rw [peekD, hc]; exact g2.low l1, fun q hq => by have := b2 q hq; omega⟩
theorem ans_r7read {m : Mem} {x k : Nat} {W R : List Nat} {d : Dk} (h : RDk m x W R k d) (hk : k ≤ 900000) {i : Nat} (hi : i < d.lasts.length) : Ans Tryz.prog 36 [.ptr x 0, .int .i64 i] m fun r m' => Kept W m m' ∧ RDk m' x W R k (readD d i) ∧ ∃ v, r = .tup [v, .int .i64 0] ∧ GrB m.length m' v (peekD d i) ∧ ∀ q ∈ blkOf v, m.length ≤ q := by
 refine ans_ret mixed ok36 ?_
 obtain ⟨pr, lv, hv, L, H, rfl, hn, h1, h2, h3, h4, h5, h6, h7, h8⟩ := h.ex
 have hrl := h.rl
 have hir : i < d.reads.length := by omega
 have e0 : (d.reads.map (AV.int .i64))[i]? = some (.int .i64 d.reads[i]) := by rw [List.getElem?_map, List.getElem?_eq_getElem hir]; rfl
 simp -implicitDefEqProofs (disch := (first | omega | (simp only [lenB] <;> omega) | fail)) only [admQ, lenB, aFill, AK.cls, implies_true, if_true, if_false, seval, -List.reduceReplicate, c36, r36, rowOf_own h1, rowOf_own h2, h2, e0, dec_f (show ¬ (i : Int) < 0 by omega), dec_f (show ¬ (i : Int) ≥ d.lasts.length by omega), splice_map hir]
 have kX := Kept.set1 m pr (.row ((d.reads.set i (IntKind.i64.wrap (d.reads[i] + 1))).map (AV.int .i64)) false)
 have p8 := own_set (own_lt h2) ((d.reads.set i (IntKind.i64.wrap (d.reads[i] + 1))).map (AV.int .i64))
 have hmy : readD d i = { d with reads := d.reads.set i (IntKind.i64.wrap (d.reads[i] + 1)) } := by
  unfold readD
  rw [Int.toNat_natCast, List.getElem?_eq_getElem hir]; rfl
 generalize m.set pr (.row ((d.reads.set i (IntKind.i64.wrap (d.reads[i] + 1))).map (AV.int .i64)) false) = A at kX p8 ⊢
 have hnp : ∀ q ∈ R, q ∉ [x, pr] → q ∉ [pr] := fun q _ h1 h2 => h1 (by simp only [List.mem_singleton] at h2; simp [h2])
 have hA : RDk A x [x, pr] R k (readD d i) := by
  rw [hmy]
  exact ⟨⟨pr, lv, hv, L, H, rfl, hn, kX.own h1 (by simp; omega), p8, h3.kept kX hnp (fun _ h => h), h4.kept kX hnp (fun _ h => h), h5, h6, h7, h8⟩, by simpa using hrl, h.sub, fun q hq => Nat.lt_of_lt_of_le (h.lt q hq) kX.len, h.keys, h.sz, h.ar⟩
 refine (ans_r7peek hA hk (i := i) hi).mono ?_
 rintro v m2 ⟨k2, gv, bv⟩
 simp -implicitDefEqProofs (disch := (first | omega | (simp only [lenB] <;> omega) | fail)) only [admQ, lenB, aFill, AK.cls, implies_true, if_true, if_false, seval, -List.reduceReplicate]
 have hl := kX.len
 exact ⟨(kX.more (by simp)).trans k2.any, hA.kept0 k2, v, rfl, gv.low hl, fun q hq => by have := bv q hq; omega⟩
theorem ans_r7tamper {m : Mem} {x k : Nat} {W R : List Nat} {d : Dk} {y : AV} {b : List B8} (h : RDk m x W R k d) (hy : RdB m y b) (hl : b.length ≤ 100000) (hk : k ≤ 900000) (i : Nat) :
  Ans Tryz.prog 21 [.ptr x 0, .int .i64 i, y] m fun r m' => r = .int .i64 (wrongD d i b) ∧ Kept W m m' ∧ ∃ R', RDk m' x W R' (k + 1) (tamperD d i b) ∧ ∀ q ∈ R', q ∈ R ∨ m.length ≤ q := by
 refine ans_ret mixed ok21 ?_
 simp -implicitDefEqProofs (disch := (first | omega | (simp only [lenB] <;> omega) | fail)) only [admQ, lenB, aFill, AK.cls, implies_true, if_true, if_false, seval, -List.reduceReplicate, c21, r21]
 refine (ans_r7wrong h hy i).mono ?_
 rintro _ M ⟨rfl, hM⟩
 subst hM
 by_cases hw : wrongD d i b = 0
 ·have hw2 : ¬ (wrongD d i b ≠ 0) := by simp [hw]
  have hi : okI d i := by
   unfold wrongD at hw
   by_cases h : okI d i
   ·exact h
   ·rw [if_pos h] at hw; cases hw
  rw [tamperD, if_neg hw2]
  obtain ⟨pr, lv, hv, L, H, rfl, hn, h1, h2, h3, h4, h5, h6, h7, h8⟩ := h.ex
  simp -implicitDefEqProofs (disch := (first | omega | (simp only [lenB] <;> omega) | fail)) only [admQ, lenB, aFill, AK.cls, implies_true, if_true, if_false, seval, -List.reduceReplicate, hw, rowOf_own h1]
  refine (ans_copybytes2 hy (by omega)).mono ?_
  rintro v m1 ⟨k1, g1, b1⟩
  have h3' := h3.kept k1 (by simp) (fun _ h => h)
  have r1 := k1.own h1 (by simp)
  simp -implicitDefEqProofs (disch := (first | omega | (simp only [lenB] <;> omega) | fail)) only [admQ, lenB, aFill, AK.cls, implies_true, if_true, if_false, seval, -List.reduceReplicate, rowOf_own r1, (rd_one g1.rd).1, (rd_one g1.rd).2]
  refine (ans_r7put h3'.rd (by omega) g1.rd i).mono ?_
  rintro z m2 ⟨k2, L', g2, b2, c2, f2, l2⟩
  have q2 := k2.own r1 (by simp)
  have K2 := k1.trans k2
  have hi' : i < d.lasts.length := by have := hi.2; omega
  have hWl : ∀ q ∈ [x, pr], q < M.length := fun q hq => h.lt q (h.sub q hq)
  have l1 := k1.len
  have l12 := k2.len
  have hLn := h3.new k1 k2 hWl g1.rd b1 hl g2 b2 c2
  have hHk := h4.kept K2 (by simp) (fun q hq => List.mem_append_left (blkOf v ++ blkOf z) hq)
  simp -implicitDefEqProofs (disch := (first | omega | (simp only [lenB] <;> omega) | fail)) only [admQ, lenB, aFill, AK.cls, implies_true, if_true, if_false, seval, -List.reduceReplicate, rowOf_own h1, rowOf_own r1, rowOf_own q2, q2, (gr_one g2).1, (gr_one g2).2, rowOf_own (own_set (own_lt q2) _)]
  have kA := Kept.set1 m2 x (.row [.int .i64 d.lasts.length, .int .i64 (armR d), .int .i64 d.writes, .bool d.off, z, hv, .sl pr 0 d.lasts.length d.lasts.length 0] false)
  have oA := own_set (own_lt q2) [.int .i64 d.lasts.length, .int .i64 (armR d), .int .i64 d.writes, .bool d.off, z, hv, .sl pr 0 d.lasts.length d.lasts.length 0]
  generalize m2.set x (.row [.int .i64 d.lasts.length, .int .i64 (armR d), .int .i64 d.writes, .bool d.off, z, hv, .sl pr 0 d.lasts.length d.lasts.length 0] false) = A at kA oA ⊢
  have hnX : ∀ {R : List Nat}, ∀ q ∈ R, q ∉ [x, pr] → q ∉ [x] := fun q _ h1 h2 => h1 (by simp only [List.mem_singleton] at h2; simp [h2])
  have hHA := hHk.kept kA hnX (fun _ h => h)
  refine (ans_r7without hHA.rd (by omega) i).mono ?_
  rintro z2 m3 ⟨k3, g3, b3⟩
  have o3 := k3.own oA (by simp)
  have lA := kA.len
  have l3 := k3.len
  have hwl := wo_len i H
  have hHW : Its m3 [x, pr] ((R ++ (blkOf v ++ blkOf z)) ++ blkOf z2) z2 (wo i H) := ⟨g3.low (Nat.zero_le _), fun q hq => ⟨List.mem_append_right _ hq, fun h => by have := b3 q hq; have := hWl q h; omega⟩, fun e he => ⟨(hHA.el e (wo_sub he)).1.kept k3 (by simp) (fun q hq => List.mem_append_left _ hq), (hHA.el e (wo_sub he)).2⟩⟩
  simp -implicitDefEqProofs (disch := (first | omega | (simp only [lenB] <;> omega) | fail)) only [admQ, lenB, aFill, AK.cls, implies_true, if_true, if_false, seval, -List.reduceReplicate, rowOf_own o3, o3, (gr_one g3).1, (gr_one g3).2]
  obtain ⟨e1, e2⟩ := h.put (k' := k + 1) (m2 := m3) (R' := (R ++ (blkOf v ++ blkOf z)) ++ blkOf z2) (cells := [.int .i64 d.lasts.length, .int .i64 (armR d), .int .i64 d.writes, .bool d.off, z, z2, .sl pr 0 d.lasts.length d.lasts.length 0])
   (d' := ⟨d.lasts.set i b, cDel d.cache i, d.armed, d.left, d.off, d.writes, d.reads⟩) ((K2.any.trans kA).trans k3.any) hn h2 (fun q hq => List.mem_append_left _ (List.mem_append_left _ hq)) (fun q hq => by
    rcases List.mem_append.mp hq with hq | h1
    ·rcases List.mem_append.mp hq with h1 | h1
     ·have := h.lt q h1; omega
     ·rcases List.mem_append.mp h1 with h1 | h1
      ·have := g1.rd.blk_lt q h1; omega
      ·have := g2.lt q h1; omega
    ·exact g3.lt q h1) ((hLn.kept kA hnX (fun _ h => h)).kept k3 (by simp) (fun q hq => List.mem_append_left _ hq)) hHW (List.length_set ..) rfl (fun j hj => by
    rw [f2]
    by_cases hji : j = i
    ·subst hji; rw [if_pos rfl]; show b = ((d.lasts.set j b)[j]?).getD []; rw [List.getElem?_set_self hi']; rfl
    ·rw [if_neg (by omega)]; show _ = ((d.lasts.set i b)[j]?).getD []; rw [List.getElem?_set_ne (Ne.symm hji)]; exact h5 j (by simpa using hj)) (fun j => by
    rw [lfind_wo, h6]
    by_cases hj : j = i
    ·subst hj; rw [if_pos rfl]; exact (cGet_del h.keys).symm
    ·rw [if_neg hj]; exact (cGet_del_ne h.keys hj).symm) ⟨by omega, by omega⟩ (cDel_keys h.keys) h.ar (by simp only [List.length_set]; rfl)
  exact ⟨e1, _, e2, fun q hq => by
   rcases List.mem_append.mp hq with hq | h1
   ·rcases List.mem_append.mp hq with h1 | h1
    ·exact .inl h1
    ·rcases List.mem_append.mp h1 with h1 | h1
     ·right; have := b1 q h1; omega
     ·right; have := b2 q h1; omega
   ·right; have := b3 q h1; omega⟩
 ·simp -implicitDefEqProofs (disch := (first | omega | (simp only [lenB] <;> omega) | fail)) only [admQ, lenB, aFill, AK.cls, implies_true, if_true, if_false, seval, -List.reduceReplicate, beq_eq_false_iff_ne.mpr hw]
  exact ⟨.refl _ _, R, by rw [tamperD, if_pos hw]; exact h.weak (by omega), fun q hq => .inl hq⟩
theorem ans_r7write {m : Mem} {x k : Nat} {W R : List Nat} {d : Dk} {y : AV} {b : List B8} (h : RDk m x W R k d) (hy : RdB m y b) (hyW : ∀ q ∈ blkOf y, q ∉ W) (hl : b.length ≤ 100000) (hk : k ≤ 900000) (i : Nat) :
  Ans Tryz.prog 32 [.ptr x 0, .int .i64 i, y] m fun r m' => r = .int .i64 (writeE d i b) ∧ Kept W m m' ∧ ∃ R', RDk m' x W R' (k + 1) (writeD d i b) ∧ ∀ q ∈ R', q ∈ R ∨ m.length ≤ q := by
 refine ans_ret mixed ok32 ?_
 have hno : ∀ d', d' = d → Kept W m m ∧ ∃ R', RDk m x W R' (k + 1) d' ∧ ∀ q ∈ R', q ∈ R ∨ m.length ≤ q := fun d' e => ⟨.refl _ _, R, by rw [e]; exact h.weak (by omega), fun q hq => .inl hq⟩
 obtain ⟨pr, lv, hv, L, H, hWe, hn, h1, -⟩ := h.ex
 by_cases ho : d.off = true
 ·rw [writeE, if_pos ho]
  simp -implicitDefEqProofs (disch := (first | omega | (simp only [lenB] <;> omega) | fail)) only [admQ, lenB, aFill, AK.cls, implies_true, if_true, if_false, seval, -List.reduceReplicate, c32, r32, rowOf_own h1, ho]
  exact hno _ (by rw [writeD, if_pos ho])
 have ho' : d.off = false := by simpa using ho
 simp -implicitDefEqProofs (disch := (first | omega | (simp only [lenB] <;> omega) | fail)) only [admQ, lenB, aFill, AK.cls, implies_true, if_true, if_false, seval, -List.reduceReplicate, c32, r32, rowOf_own h1, ho']
 refine (ans_r7wrong h hy i).mono ?_
 rintro _ M ⟨rfl, hM⟩
 subst hM
 by_cases hw : wrongD d i b = 0
 ·simp -implicitDefEqProofs (disch := (first | omega | (simp only [lenB] <;> omega) | fail)) only [admQ, lenB, aFill, AK.cls, implies_true, if_true, if_false, seval, -List.reduceReplicate, hw]
  refine (ans_r7spend h).mono ?_
  rintro _ m1 ⟨rfl, k1, hD, hml⟩
  have hw2 : ¬ (wrongD d i b ≠ 0) := by simp [hw]
  rw [writeE, if_neg ho, if_neg hw2]
  by_cases hs : spendE d = 0
  ·have hs2 : ¬ (spendE d ≠ 0) := by simp [hs]
   rw [writeD, if_neg ho, if_neg hw2, if_neg hs2]
   have hd1 : (spendD d).cache = d.cache ∧ (spendD d).lasts = d.lasts ∧ (spendD d).reads = d.reads ∧ (spendD d).writes = d.writes := by unfold spendD; split <;> (try split) <;> exact ⟨rfl, rfl, rfl, rfl⟩
   obtain ⟨pr', lv', hv', L', H', rfl, hn', g1, g2, gL, g4, g5, g6, g7, g8⟩ := hD.ex
   simp -implicitDefEqProofs (disch := (first | omega | (simp only [lenB] <;> omega) | fail)) only [admQ, lenB, aFill, AK.cls, implies_true, if_true, if_false, seval, -List.reduceReplicate, hs, rowOf_own g1]
   refine (ans_copybytes2 (rdb_ap hy k1 hyW) (by omega)).mono ?_
   rintro v m2 ⟨k2, gv, bv⟩
   have g4' := g4.kept k2 (by simp) (fun _ h => h)
   have r2 := k2.own g1 (by simp)
   simp -implicitDefEqProofs (disch := (first | omega | (simp only [lenB] <;> omega) | fail)) only [admQ, lenB, aFill, AK.cls, implies_true, if_true, if_false, seval, -List.reduceReplicate, rowOf_own r2, (rd_one gv.rd).1, (rd_one gv.rd).2]
   refine (ans_r7put g4'.rd (by omega) gv.rd i).mono ?_
   rintro z m3 ⟨k3, L3, g3, b3, c3, f3, l3⟩
   have q3 := k3.own r2 (by simp)
   have hWl : ∀ q ∈ [x, pr'], q < m1.length := fun q hq => hD.lt q (hD.sub q hq)
   have l2 := k2.len
   have l23 := k3.len
   have hLn := g4.new k2 k3 hWl gv.rd bv hl g3 b3 c3
   simp -implicitDefEqProofs (disch := (first | omega | (simp only [lenB] <;> omega) | fail)) only [admQ, lenB, aFill, AK.cls, implies_true, if_true, if_false, seval, -List.reduceReplicate, rowOf_own g1, rowOf_own r2, rowOf_own q3, q3, (gr_one g3).1, (gr_one g3).2, rowOf_own (own_set (own_lt q3) _), own_set (own_lt q3) _, List.set_set]
   have hkk := k2.trans k3
   obtain ⟨e1, e2⟩ := hD.put (k' := k + 1) (R' := R ++ (blkOf v ++ blkOf z)) (cells := [.int .i64 (spendD d).lasts.length, .int .i64 (armR (spendD d)), .int .i64 (IntKind.i64.wrap ((spendD d).writes + 1)), .bool (spendD d).off, lv', z, .sl pr' 0 (spendD d).lasts.length (spendD d).lasts.length 0])
    (d' := ⟨(spendD d).lasts, cPut d.cache i b, (spendD d).armed, (spendD d).left, (spendD d).off, IntKind.i64.wrap (d.writes + 1), (spendD d).reads⟩) hkk.any hn' g2 (fun q hq => List.mem_append_left _ hq) (fun q hq => by
     rcases List.mem_append.mp hq with h1 | h1
     ·have := hD.lt q h1; omega
     ·rcases List.mem_append.mp h1 with h1 | h1
      ·have := gv.rd.blk_lt q h1; omega
      ·exact g3.lt q h1) (gL.kept hkk (by simp) (fun q hq => List.mem_append_left _ hq)) hLn rfl rfl g5 (fun j => by
     rw [f3, g6, hd1.1]
     by_cases hj : j = i
     ·subst hj; rw [if_pos rfl]; exact (cGet_put h.keys).symm
     ·rw [if_neg hj]; exact (cGet_put_ne h.keys hj).symm) ⟨by omega, by omega⟩ (cPut_keys h.keys) hD.ar (by rw [hd1.2.2.2]; rfl)
   exact ⟨k1.trans e1, _, e2, fun q hq => by
    rcases List.mem_append.mp hq with h1 | h1
    ·exact .inl h1
    ·rcases List.mem_append.mp h1 with h1 | h1
     ·right; have := bv q h1; omega
     ·right; have := b3 q h1; omega⟩
  ·have hs2 : spendE d ≠ 0 := hs
   rw [writeD, if_neg ho, if_neg hw2, if_pos hs2]
   simp -implicitDefEqProofs (disch := (first | omega | (simp only [lenB] <;> omega) | fail)) only [admQ, lenB, aFill, AK.cls, implies_true, if_true, if_false, seval, -List.reduceReplicate, beq_eq_false_iff_ne.mpr hs]
   exact ⟨k1, R, hD.weak (by omega), fun q hq => .inl hq⟩
 ·rw [writeE, if_neg ho, if_pos hw]
  simp -implicitDefEqProofs (disch := (first | omega | (simp only [lenB] <;> omega) | fail)) only [admQ, lenB, aFill, AK.cls, implies_true, if_true, if_false, seval, -List.reduceReplicate, beq_eq_false_iff_ne.mpr hw]
  exact hno _ (by rw [writeD, if_neg ho, if_pos hw])
end Go.Proofs.YtoegmnnecanhfaaGreatDoor
end
section
namespace Go.Proofs.YtoegmnnecanhfaaGreatDoor
open Go Go.Adm
set_option linter.unusedSimpArgs false
set_option linter.unusedVariables false
set_option maxRecDepth 100000
theorem ans_dkarm {m : Mem} {x : Nat} {W R : List Nat} {d : Dk} (h : Dsk m x W R d) (a : Int) : Ans Tryz.prog 9 [.ptr x 0, .int .i64 a] m fun r m' => r = .tup [] ∧ Kept W m m' ∧ Dsk m' x W R (armD d a) := by
 refine ans_ret mixed ok9 ?_
 have hD := h
 obtain ⟨pl, pm, pr, lv, es, ck, rfl, hn, h1, ⟨h2, h3, h4⟩, ⟨h5, h6, h7⟩, h8, h9⟩ := h.ex
 have hx := own_lt h1
 have hxR := hD.sub x (by simp)
 simp only [List.nodup_cons, List.mem_cons, List.not_mem_nil, or_false, not_or] at hn
 have done : ∀ cells, cells = [AV.sl pl 0 d.lasts.length d.lasts.length 0, .map pm, .bool (decide (a ≥ 0)), .int .i64 a, .bool d.off, .int .i64 d.writes, .sl pr 0 d.lasts.length d.lasts.length 0] →
   Kept [x, pl, pm, pr] m (m.set x (.row cells false)) ∧ Dsk (m.set x (.row cells false)) x [x, pl, pm, pr] R (armD d a) := by
  intro cells hc
  have kX : Kept [x] m (m.set x (.row cells false)) := .set1 _ _ _
  have hV : ∀ {v : AV} {l : List B8}, RdV m [x, pl, pm, pr] R v l → RdV (m.set x (.row cells false)) [x, pl, pm, pr] R v l := fun hv => hv.kept kX (fun q hq h => (hv.2 q hq).2 (by simp only [List.mem_singleton] at h; simp [h])) (fun _ h => h)
  refine ⟨kX.more (by simp), ⟨⟨pl, pm, pr, lv, es, ck, rfl, by simp [hn], by rw [hc]; exact own_set hx _, ⟨kX.own h2 (by simp; omega), h3, fun i l hl => ?_⟩, ⟨?_, h6, fun j k l hl => ?_⟩, kX.own h8 (by simp; omega), h9⟩, hD.sub, fun q hq => by rw [List.length_set]; exact hD.lt q hq, hD.keys, hD.sz⟩⟩
  ·obtain ⟨v, g1, g2⟩ := h4 i l hl; exact ⟨v, g1, hV g2⟩
  ·rw [kX.eq pm (lt_of_get h5) (by simp; omega)]; exact h5
  ·obtain ⟨v, c, g1, g2⟩ := h7 j k l hl; exact ⟨v, c, g1, hV g2⟩
 have o2 := own_set hx [AV.sl pl 0 d.lasts.length d.lasts.length 0, .map pm, .bool (decide (a ≥ 0)), .int .i64 d.left, .bool d.off, .int .i64 d.writes, .sl pr 0 d.lasts.length d.lasts.length 0]
 simp -implicitDefEqProofs (disch := (first | omega | (simp only [lq15] <;> omega) | fail)) only [admQ, lq15, aFill, AK.cls, implies_true, if_true, if_false, seval, -List.reduceReplicate, c9, r9, h1, o2, List.set_set]
 exact done _ rfl
theorem ans_dkdown {m : Mem} {x : Nat} {W R : List Nat} {d : Dk} (h : Dsk m x W R d) : Ans Tryz.prog 13 [.ptr x 0] m fun r m' => r = .bool d.off ∧ m' = m := by
 refine ans_ret mixed ok13 ?_
 obtain ⟨pl, pm, pr, lv, es, ck, rfl, hn, h1, -⟩ := h.ex
 simp -implicitDefEqProofs (disch := (first | omega | (simp only [lq15] <;> omega) | fail)) only [admQ, lq15, aFill, AK.cls, implies_true, if_true, if_false, seval, -List.reduceReplicate, c13, r13, rowOf_own h1]
theorem ans_dkwrites {m : Mem} {x : Nat} {W R : List Nat} {d : Dk} (h : Dsk m x W R d) : Ans Tryz.prog 14 [.ptr x 0] m fun r m' => r = .int .i64 d.writes ∧ m' = m := by
 refine ans_ret mixed ok14 ?_
 obtain ⟨pl, pm, pr, lv, es, ck, rfl, hn, h1, -⟩ := h.ex
 simp -implicitDefEqProofs (disch := (first | omega | (simp only [lq15] <;> omega) | fail)) only [admQ, lq15, aFill, AK.cls, implies_true, if_true, if_false, seval, -List.reduceReplicate, c14, r14, rowOf_own h1]
structure RCyR (m : Mem) (x lo hi : Nat) (key : List B8) : Prop where
 hle : hi ≤ m.length
 hlo : 2 ≤ lo ∧ lo ≤ hi
 kR : rowOf m 1 = some (wds kT)
 of : ∀ M : Mem, (∀ q, lo ≤ q → q < hi → M[q]? = m[q]?) → rowOf M 1 = some (wds kT) → RCy M x key
theorem RCyR.cy {m : Mem} {x lo hi : Nat} {key : List B8} (h : RCyR m x lo hi key) : RCy m x key := h.of m (fun _ _ _ => rfl) h.kR
theorem RCyR.kept {m m' : Mem} {x lo hi : Nat} {key : List B8} {X : List Nat} (h : RCyR m x lo hi key) (hk : Kept X m m') (hX : ∀ q ∈ X, hi ≤ q ∨ (q < lo ∧ q ≠ 1)) : RCyR m' x lo hi key :=
 ⟨Nat.le_trans h.hle hk.len, h.hlo, hk.row h.kR (fun h1 => by have := hX 1 h1; have := h.hlo; omega), fun M hM h1 => h.of M (fun q h2 h3 => by rw [hM q h2 h3, hk.eq q (by have := h.hle; omega) (fun h4 => by have := hX q h4; omega)]) h1⟩
theorem RCyR.kept0 {m m' : Mem} {x lo hi : Nat} {key : List B8} (h : RCyR m x lo hi key) (hk : Kept [] m m') : RCyR m' x lo hi key := h.kept hk (by simp)
theorem ans_rboxed2 {m : Mem} {y : AV} {key : List B8} (hK : rowOf m 1 = some (wds kT)) (hm : 2 ≤ m.length) (hy : RdB m y key) (hkl : key.length ≤ 900000000) : Ans Tryz.prog 8 [y] m fun r m' => Kept [] m m' ∧ ∃ x, r = .ptr x 0 ∧ RCyR m' x m.length m'.length key := by
 refine ans_ret mixed ok8 ?_
 simp -implicitDefEqProofs (disch := (first | omega | (simp only [lq15] <;> omega) | fail)) only [admQ, lq15, aFill, AK.cls, implies_true, if_true, if_false, seval, -List.reduceReplicate, c8, r8]
 refine (ans_rsnew hK hy hkl).mono ?_
 rintro _ m1 ⟨b, c, rfl, k1, hR⟩
 simp -implicitDefEqProofs (disch := (first | omega | (simp only [lq15] <;> omega) | fail)) only [admQ, lq15, aFill, AK.cls, implies_true, if_true, if_false, seval, -List.reduceReplicate]
 have l1 := k1.len
 refine ⟨k1.more_app _, m1.length, rfl, by simp, ⟨hm, by have := k1.len; omega⟩, (k1.more_app _).row hK (by simp), fun M hM h1 => ⟨b, c, ?_, hR M (fun q h2 h3 => ?_) h1⟩⟩
 ·rw [rowOf, hM m1.length l1 (by omega), List.getElem?_append_right (Nat.le_refl _)]; simp
 ·rw [hM q h2 (by omega), List.getElem?_append_left h3]
theorem ans_rcsum {m : Mem} {x : Nat} {key b : List B8} {y : AV} (hC : RCy m x key) (hy : RdB m y b) (hl : b.length ≤ 100000) : Ans Tryz.prog 33 [.ptr x 0, y] m fun r m' => r = .agg (bys (shaB b)) ∧ Kept [] m m' := by
 refine ans_ret mixed ok33 ?_
 obtain ⟨z, c, h1, h2⟩ := hC
 have k0 := Kept.app [] m [.row (bys (List.replicate 32 0#8)) false]
 have o0 : own (m ++ [.row (bys (List.replicate 32 0#8)) false]) m.length = some (bys (List.replicate 32 0#8)) := by rw [own_app_at0]; rfl
 have hz : (bys (List.replicate 32 0#8)).length = 32 := by simp
 have h1' := k0.row h1 (by simp)
 have hyA := hy.kept0 k0
 have hk2 := k0.row h2.kR (by simp)
 simp -implicitDefEqProofs (disch := (first | omega | (simp only [lq15] <;> omega) | fail)) only [admQ, lq15, aFill, AK.cls, implies_true, if_true, if_false, seval, -List.reduceReplicate, c33, r33]
 generalize m ++ [.row (bys (List.replicate 32 0#8)) false] = A at *
 simp -implicitDefEqProofs (disch := (first | omega | (simp only [lq15] <;> omega) | fail)) only [admQ, lq15, aFill, AK.cls, implies_true, if_true, if_false, seval, -List.reduceReplicate, h1']
 refine (ans_rssum hk2 hyA (by omega)).mono ?_
 rintro _ m1 ⟨rfl, k1⟩
 have o1 := k1.own o0 (by simp)
 have hsl := shaB_len b
 have hsp2 : splice (bys (List.replicate 32 0#8)) 0 (bys (shaB b)) = bys (shaB b) := splice_whole (by rw [hsl]; rfl)
 have htk2 : List.take 32 (bys (shaB b)) = bys (shaB b) := List.take_of_length_le (by rw [bys_len, hsl]; omega)
 have hbl : (bys (shaB b)).length = 32 := by rw [bys_len, hsl]
 simp -implicitDefEqProofs (disch := (first | omega | (simp only [lq15] <;> omega) | fail)) only [admQ, lq15, aFill, AK.cls, implies_true, if_true, if_false, seval, -List.reduceReplicate, o1, hz, hsp2, hbl, rowOf_own (own_set (own_lt o1) _), htk2]
 exact (k0.trans k1).write (.inr (Nat.le_refl _)) _
theorem rdb_not {m : Mem} {y : AV} {b : List B8} {p : Nat} {c : List AV} (hy : RdB m y b) (hb : b ≠ []) (hp : own m p = some c) (hc : ∀ z ∈ c, ∀ v, z ≠ .int .u8 v) : ∀ q ∈ blkOf y, q ≠ p := by
 have h0 : 0 < b.length := List.length_pos_iff.mpr hb
 obtain ⟨bl, o, cap, s, c', rfl, hr, hat, -⟩ := hy.cons h0
 intro q hq he
 simp only [blkOf, List.mem_singleton] at hq
 subst hq he
 rw [rowOf_own hp] at hr
 cases hr
 have := hat 0 h0
 exact hc _ (List.mem_of_getElem? this) _ rfl
theorem RDk.not {m : Mem} {x k : Nat} {W R : List Nat} {d : Dk} (h : RDk m x W R k d) {y : AV} {b : List B8} (hy : RdB m y b) (hb : b ≠ []) : ∀ q ∈ blkOf y, q ∉ W := by
 obtain ⟨pr, lv, hv, L, H, rfl, hn, h1, h2, h3, h4, -⟩ := h.ex
 have hl : ∀ {z : AV} {L : List It}, Its m [x, pr] R z L → ∀ v, z ≠ .int .u8 v := fun hz v e => by
  subst e
  rcases hz.gr with ⟨_, e | ⟨b, e, _⟩⟩ | ⟨b, n, _, _, e, _⟩ <;> cases e
 intro q hq hW
 simp only [List.mem_cons, List.not_mem_nil, or_false] at hW
 rcases hW with rfl | rfl
 ·refine rdb_not hy hb h1 (fun z hz v => ?_) q hq rfl
  simp only [List.mem_cons, List.not_mem_nil, or_false] at hz
  rcases hz with rfl | rfl | rfl | rfl | rfl | rfl | rfl
  ·simp
  ·simp
  ·simp
  ·simp
  ·exact hl h3 v
  ·exact hl h4 v
  ·simp
 ·refine rdb_not hy hb h2 (fun z hz v => ?_) q hq rfl
  obtain ⟨a, _, rfl⟩ := List.mem_map.mp hz
  simp
theorem ans_r15write {m : Mem} {xd xc lo hi k : Nat} {W R : List Nat} {d : Dk} {key : List B8} (hD : RDk m xd W R k d) (hC : RCyR m xc lo hi key) (hap : ∀ q ∈ R, hi ≤ q ∨ (q < lo ∧ q ≠ 1)) (hk : k ≤ 900000) (e : Int) (g : Geo) :
  Ans Tryz.prog 12 [.ptr xd 0, .ptr xc 0, .int .i64 e, geoV g] m fun r m' => r = .tup [.agg (bys (suM d (.box key) e g)), .int .i64 (suE d (.box key) e g)] ∧ Kept W m m' ∧ ∃ R', RDk m' xd W R' (k + 1) (suD d (.box key) e g) ∧ ∀ q ∈ R', q ∈ R ∨ m.length ≤ q := by
 refine ans_ret mixed ok12 ?_
 unfold geoV geoC
 have k0 := Kept.app [] m [.row [.int .i64 g.s, .int .i64 g.n, .int .i64 g.b] false, .row (bys (List.replicate 32 0#8)) false]
 have o0 : own (m ++ [.row [.int .i64 g.s, .int .i64 g.n, .int .i64 g.b] false, .row (bys (List.replicate 32 0#8)) false]) (m.length + 1) = some (bys (List.replicate 32 0#8)) := by rw [own_app_at]; rfl
 have g0 : own (m ++ [.row [.int .i64 g.s, .int .i64 g.n, .int .i64 g.b] false, .row (bys (List.replicate 32 0#8)) false]) m.length = some [.int .i64 g.s, .int .i64 g.n, .int .i64 g.b] := by rw [own_app_at0]; rfl
 simp -implicitDefEqProofs (disch := (first | omega | (simp only [lq15] <;> omega) | fail)) only [admQ, lq15, aFill, AK.cls, implies_true, if_true, if_false, seval, -List.reduceReplicate, c12, r12, rowOf_own g0]
 generalize m ++ [.row [.int .i64 g.s, .int .i64 g.n, .int .i64 g.b] false, .row (bys (List.replicate 32 0#8)) false] = A at *
 refine (ans_r15put g A).mono ?_
 rintro _ m1 ⟨k1, w, rfl, rw1⟩
 have o1 := k1.own o0 (by simp)
 have K1 := k0.trans k1
 have lA := own_lt o0
 have l1 := k1.len
 have hz : (bys (List.replicate 32 0#8)).length = 32 := by simp
 have hsp : splice (bys (List.replicate 32 0#8)) 0 (bys (List.replicate 32 0#8)) = bys (List.replicate 32 0#8) := splice_whole rfl
 have htk : List.take 32 (bys (List.replicate 32 0#8)) = bys (List.replicate 32 0#8) := List.take_of_length_le (by simp)
 have hRl : ∀ q ∈ R, q < m.length := hD.lt
 have hWR : ∀ q ∈ W, q ∈ R := hD.sub
 have fin : ∀ (M : Mem) (row : Blk) {R' : List Nat} {k' : Nat} {d' : Dk}, Kept W m M → RDk M xd W R' k' d' → k' ≤ k + 1 → (∀ q ∈ R', q ∈ R ∨ m1.length ≤ q) →
   Kept W m (M.set (m.length + 1) row) ∧ ∃ R', RDk (M.set (m.length + 1) row) xd W R' (k + 1) d' ∧ ∀ q ∈ R', q ∈ R ∨ m.length ≤ q := by
  intro M row R' k' d' hK h1 h3 h4
  exact ⟨hK.write (.inr (by omega)) _, R', (h1.weak h3).kept (Kept.set1 M (m.length + 1) row) (fun q hq h => by
   simp only [List.mem_singleton] at h; subst h
   rcases h4 _ hq with h | h
   ·have := hRl _ h; omega
   ·omega), fun q hq => (h4 q hq).imp id fun h => by omega⟩
 by_cases h1 : errG g = 0
 ·have h1' : ¬ (errG g ≠ 0) := by simp [h1]
  have hok := (errG_ok g).mp h1
  have hpl : (putG g).length = 24 := by rw [putG, if_pos hok, geoB_len]
  rw [h1]
  have hC1 := hC.kept0 K1
  simp -implicitDefEqProofs (disch := (first | omega | (simp only [lq15] <;> omega) | fail)) only [admQ, lq15, aFill, AK.cls, implies_true, if_true, if_false, seval, -List.reduceReplicate, (rd_one rw1).1, (rd_one rw1).2]
  refine (ans_r11put (s := suS e g) hC1.cy (v := w) rw1 (by simp only [suS]; omega)).mono ?_
  rintro _ m2 ⟨k2, w2, rfl, rw2⟩
  have o2 := k2.own o1 (by simp)
  have K2 := K1.trans k2
  have hD2 := hD.kept0 K2
  have l2 := k2.len
  by_cases h2 : errP (suS e g) = 0
  ·have h2' : ¬ (errP (suS e g) ≠ 0) := by simp [h2]
   have hok2 := (errP_ok _).mp h2
   have hlp := putL_len (c := .box key) hok2
   have hsp24 : (suS e g).p.length = 24 := hpl
   rw [h2]
   simp -implicitDefEqProofs (disch := (first | omega | (simp only [lq15] <;> omega) | fail)) only [admQ, lq15, aFill, AK.cls, implies_true, if_true, if_false, seval, -List.reduceReplicate]
   have wr : Ans Tryz.prog 32 [.ptr xd 0, .int .i64 0, w2] m2 fun r m' => r = .int .i64 (writeE d 0 (putL (.box key) (suS e g))) ∧ Kept W m2 m' ∧ ∃ R', RDk m' xd W R' (k + 1) (writeD d 0 (putL (.box key) (suS e g))) ∧ ∀ q ∈ R', q ∈ R ∨ m2.length ≤ q :=
    ans_r7write hD2 rw2 (hD2.not rw2 (fun h => by rw [h, List.length_nil] at hlp; omega)) (by omega) hk 0
   refine wr.mono ?_
   rintro _ m3 ⟨rfl, k3, R3, hD3, hR3⟩
   have hWn : ∀ q, m.length ≤ q → q ∉ W := fun q h1 h2 => by have := hRl q (hWR q h2); omega
   have o3 := k3.own o2 (hWn _ (by omega))
   have hC3 := (hC1.kept0 k2).kept k3 (fun q hq => hap q (hWR q hq))
   have rw3 : RdB m3 w2 (putL (.box key) (suS e g)) := rdb_ap rw2 k3 (hD2.not rw2 (fun h => by rw [h] at hlp; simp at hlp; omega))
   have K3 : Kept W m m3 := K2.any.trans k3
   have l3 := k3.len
   have hR3' : ∀ q ∈ R3, q ∈ R ∨ m1.length ≤ q := fun q hq => (hR3 q hq).imp id (fun h => by omega)
   by_cases h3 : writeE d 0 (putL (.box key) (suS e g)) = 0
   ·have hE : suE d (.box key) e g = 0 := by rw [suE, if_neg h1', if_neg h2', h3]
    rw [suM, if_pos hE, hE, suD, if_neg h1', if_neg h2', h3]
    simp -implicitDefEqProofs (disch := (first | omega | (simp only [lq15] <;> omega) | fail)) only [admQ, lq15, aFill, AK.cls, implies_true, if_true, if_false, seval, -List.reduceReplicate]
    refine (ans_rcsum hC3.cy rw3 (by omega)).mono ?_
    rintro _ m4 ⟨rfl, k4⟩
    have o4 := k4.own o3 (by simp)
    have hc : cySm (putC (.box key) (suS e g)) (putL (.box key) (suS e g)) = shaB (putL (.box key) (suS e g)) := by unfold putC; split <;> rfl
    rw [hc]
    have hsl := shaB_len (putL (.box key) (suS e g))
    generalize shaB (putL (.box key) (suS e g)) = SM at *
    have hsp2 : splice (bys (List.replicate 32 0#8)) 0 (bys SM) = bys SM := splice_whole (by rw [hsl]; rfl)
    have htk2 : List.take 32 (bys SM) = bys SM := List.take_of_length_le (by rw [bys_len, hsl]; omega)
    have hbl : (bys SM).length = 32 := by rw [bys_len, hsl]
    simp -implicitDefEqProofs (disch := (first | omega | (simp only [lq15] <;> omega) | fail)) only [admQ, lq15, aFill, AK.cls, implies_true, if_true, if_false, seval, -List.reduceReplicate, o4, hz, hsp2, hbl, rowOf_own (own_set (own_lt o4) _), htk2]
    exact fin m4 _ (K3.trans k4.any) (hD3.kept0 k4) (Nat.le_refl _) hR3'
   ·rw [suM, suE, suD, if_neg h1', if_neg h1', if_neg h2', if_neg h2', if_neg h3]
    simp -implicitDefEqProofs (disch := (first | omega | (simp only [lq15] <;> omega) | fail)) only [admQ, lq15, aFill, AK.cls, implies_true, if_true, if_false, seval, -List.reduceReplicate, beq_eq_false_iff_ne.mpr h3, o3, hz, hsp, rowOf_own (own_set (own_lt o3) _), htk]
    exact fin m3 _ K3 hD3 (Nat.le_refl _) hR3'
  ·rw [suM, suE, suD, if_neg h1', if_neg h1', if_pos h2, if_pos h2, if_neg h2]
   simp -implicitDefEqProofs (disch := (first | omega | (simp only [lq15] <;> omega) | fail)) only [admQ, lq15, aFill, AK.cls, implies_true, if_true, if_false, seval, -List.reduceReplicate, beq_eq_false_iff_ne.mpr h2, o2, hz, hsp, rowOf_own (own_set (own_lt o2) _), htk]
   exact fin m2 _ K2.any hD2 (by omega) (fun q hq => .inl hq)
 ·rw [suM, suE, suD, if_pos h1, if_pos h1, if_neg h1]
  simp -implicitDefEqProofs (disch := (first | omega | (simp only [lq15] <;> omega) | fail)) only [admQ, lq15, aFill, AK.cls, implies_true, if_true, if_false, seval, -List.reduceReplicate, beq_eq_false_iff_ne.mpr h1, o1, hz, hsp, rowOf_own (own_set (own_lt o1) _), htk]
  exact fin m1 _ K1.any (hD.kept0 K1) (by omega) (fun q hq => .inl hq)
theorem ans_r15read {m : Mem} {xd xc lo hi k : Nat} {W R : List Nat} {d : Dk} {key : List B8} (hD : RDk m xd W R k d) (hC : RCyR m xc lo hi key) (hap : ∀ q ∈ R, hi ≤ q ∨ (q < lo ∧ q ≠ 1)) (hk : k ≤ 900000) (hl : (peekD d 0).length ≤ 100000) :
  Ans Tryz.prog 16 [.ptr xd 0, .ptr xc 0] m fun r m' => r = .tup [geoV (srG (.box key) (peekD d 0)), .agg (bys (srM (.box key) (peekD d 0))), .int .i64 (srE (.box key) (peekD d 0))] ∧ Kept W m m' ∧ RDk m' xd W R k (readD d 0) := by
 refine ans_ret mixed ok16 ?_
 have k0 := Kept.app [] m [.row [.int .i64 0, .int .i64 0, .int .i64 0] false, .row (bys (List.replicate 32 0#8)) false]
 have o0 : own (m ++ [.row [.int .i64 0, .int .i64 0, .int .i64 0] false, .row (bys (List.replicate 32 0#8)) false]) m.length = some [.int .i64 0, .int .i64 0, .int .i64 0] := by rw [own_app_at0]; rfl
 have s0 : own (m ++ [.row [.int .i64 0, .int .i64 0, .int .i64 0] false, .row (bys (List.replicate 32 0#8)) false]) (m.length + 1) = some (bys (List.replicate 32 0#8)) := by rw [own_app_at]; rfl
 simp -implicitDefEqProofs (disch := (first | omega | (simp only [lq15] <;> omega) | fail)) only [admQ, lq15, aFill, AK.cls, implies_true, if_true, if_false, seval, -List.reduceReplicate, c16, r16]
 generalize m ++ [.row [.int .i64 0, .int .i64 0, .int .i64 0] false, .row (bys (List.replicate 32 0#8)) false] = A at *
 have lA := own_lt s0
 have hsz := hD.sz
 have hRl : ∀ q ∈ R, q < m.length := hD.lt
 have hWR : ∀ q ∈ W, q ∈ R := hD.sub
 have hWn : ∀ q, m.length ≤ q → q ∉ W := fun q h1 h2 => by have := hRl q (hWR q h2); omega
 have rdk : Ans Tryz.prog 36 [.ptr xd 0, .int .i64 0] A fun r m' => Kept W A m' ∧ RDk m' xd W R k (readD d 0) ∧ ∃ v, r = .tup [v, .int .i64 0] ∧ GrB A.length m' v (peekD d 0) ∧ ∀ q ∈ blkOf v, A.length ≤ q :=
  ans_r7read (i := 0) (hD.kept0 k0) hk (by omega)
 refine rdk.mono ?_
 rintro _ m1 ⟨k1, hD1, v, rfl, gv, bv⟩
 have sv := gv.rd
 generalize hb : peekD d 0 = b at *
 have o1 := k1.own o0 (hWn _ (Nat.le_refl _))
 have s1 := k1.own s0 (hWn _ (by omega))
 have hC1 := (hC.kept0 k0).kept k1 (fun q hq => hap q (hWR q hq))
 have K1 : Kept W m m1 := k0.any.trans k1
 have l1 := k1.len
 have hz : (bys (List.replicate 32 0#8)).length = 32 := by simp
 have hsp : splice (bys (List.replicate 32 0#8)) 0 (bys (List.replicate 32 0#8)) = bys (List.replicate 32 0#8) := splice_whole rfl
 have htk : List.take 32 (bys (List.replicate 32 0#8)) = bys (List.replicate 32 0#8) := List.take_of_length_le (by simp)
 have fin : ∀ (M : Mem) (r1 r2 : Blk), Kept W m M → RDk M xd W R k (readD d 0) →
   Kept W m ((M.set m.length r1).set (m.length + 1) r2) ∧ RDk ((M.set m.length r1).set (m.length + 1) r2) xd W R k (readD d 0) := by
  intro M r1 r2 hK h1
  have kZ : Kept [m.length, m.length + 1] M ((M.set m.length r1).set (m.length + 1) r2) := (Kept.set (X := [m.length, m.length + 1]) M m.length r1 (by simp)).trans (.set _ _ r2 (by simp))
  exact ⟨(hK.write (.inr (Nat.le_refl _)) _).write (.inr (by omega)) _, h1.kept kZ (fun q hq h => by have := hRl q hq; simp only [List.mem_cons, List.not_mem_nil, or_false] at h; omega)⟩
 have bad : ∀ (M : Mem) (er : Int), ¬ srOk (.box key) b → srE (.box key) b = er → Kept W m M → RDk M xd W R k (readD d 0) →
   AV.tup [.agg [.int .i64 0, .int .i64 0, .int .i64 0], .agg (bys (List.replicate 32 0#8)), .int .i64 er] = .tup [geoV (srG (.box key) b), .agg (bys (srM (.box key) b)), .int .i64 (srE (.box key) b)] ∧
   Kept W m ((M.set m.length (.row [AV.int .i64 0, .int .i64 0, .int .i64 0] false)).set (m.length + 1) (.row (bys (List.replicate 32 0#8)) false)) ∧ RDk ((M.set m.length (.row [AV.int .i64 0, .int .i64 0, .int .i64 0] false)).set (m.length + 1) (.row (bys (List.replicate 32 0#8)) false)) xd W R k (readD d 0) := by
  intro M er hno he hK h1
  have e1 : srG (.box key) b = geo0 := if_neg hno
  have e2 : srM (.box key) b = List.replicate 32 0#8 := if_neg hno
  rw [e1, e2, he]
  obtain ⟨f1, f2⟩ := fin M _ _ hK h1
  exact ⟨rfl, f1, f2⟩
 by_cases h0 : b.length = 0
 ·have hno : ¬ srOk (.box key) b := fun h => h.1 h0
  have he : srE (.box key) b = 9 := if_pos h0
  have t1 := own_set (own_lt o1) [AV.int .i64 0, .int .i64 0, .int .i64 0]
  have t2 := own_set_ne' s1 (show m.length ≠ m.length + 1 by omega) (.row [AV.int .i64 0, .int .i64 0, .int .i64 0] false)
  have t3 := own_set (own_lt t2) (bys (List.replicate 32 0#8))
  have t4 := own_set_ne' t1 (show m.length + 1 ≠ m.length by omega) (.row (bys (List.replicate 32 0#8)) false)
  simp -implicitDefEqProofs (disch := (first | omega | (simp only [lq15] <;> omega) | fail)) only [admQ, lq15, aFill, AK.cls, implies_true, if_true, if_false, seval, -List.reduceReplicate, sv.len, h0, o1, t1, t2, hz, hsp, rowOf_own t3, rowOf_own t4, htk]
  exact bad m1 9 hno he K1 hD1
 ·simp -implicitDefEqProofs (disch := (first | omega | (simp only [lq15] <;> omega) | fail)) only [admQ, lq15, aFill, AK.cls, implies_true, if_true, if_false, seval, -List.reduceReplicate, sv.len, beq_eq_false_iff_ne.mpr (show ¬ (b.length : Int) = 0 by omega)]
  refine (ans_r11get (k := 1) (a := 0) hC1.cy sv (by omega)).mono ?_
  rintro _ m2 ⟨k2, w2, rfl, gw2⟩
  have rw2 := gw2.rd
  have hgl : (getS (.box key) 1 0 b).p.length ≤ 100000 := by
   have : (getS (.box key) 1 0 b).p.length ≤ b.length := getS_le _ _ _ _
   omega
  generalize hS : getS (.box key) 1 0 b = S at *
  unfold secV
  simp -implicitDefEqProofs (disch := (first | omega | (simp only [lq15] <;> omega) | fail)) only [admQ, lq15, aFill, AK.cls, implies_true, if_true, if_false, seval, -List.reduceReplicate, (rd_one rw2).1, (rd_one rw2).2]
  have k3 := Kept.app [] m2 [.row [.int .i64 S.k, .int .i64 S.e, .int .i64 S.n, .int .i64 S.a, w2] false]
  have q3 : own (m2 ++ [.row [.int .i64 S.k, .int .i64 S.e, .int .i64 S.n, .int .i64 S.a, w2] false]) m2.length = some [.int .i64 S.k, .int .i64 S.e, .int .i64 S.n, .int .i64 S.a, w2] := by rw [own_app_at0]; rfl
  generalize m2 ++ [.row [.int .i64 S.k, .int .i64 S.e, .int .i64 S.n, .int .i64 S.a, w2] false] = E at *
  refine (ans_r15get (rw2.kept0 k3) hgl).mono ?_
  rintro _ m4 ⟨k4, rfl⟩
  unfold geoV geoC
  simp -implicitDefEqProofs (disch := (first | omega | (simp only [lq15] <;> omega) | fail)) only [admQ, lq15, aFill, AK.cls, implies_true, if_true, if_false, seval, -List.reduceReplicate]
  generalize hG : getG S.p = G at *
  generalize hE5 : m4 ++ _ = E5
  have k5 : Kept [] m4 E5 := by rw [← hE5]; exact .app _ _ _
  have g5 : own E5 m4.length = some [.int .i64 G.s, .int .i64 G.n, .int .i64 G.b] := by rw [← hE5, own_app_at0]; rfl
  clear hE5
  have k15 := ((k2.trans k3).trans k4).trans k5
  have q5 := (k4.trans k5).own q3 (by simp)
  have o5 := k15.own o1 (by simp)
  have s5 := k15.own s1 (by simp)
  have K5 : Kept W m E5 := K1.trans k15.any
  have hD5 := hD1.kept0 k15
  have hC5 := hC1.kept0 k15
  have t1 := own_set (own_lt o5) [AV.int .i64 0, .int .i64 0, .int .i64 0]
  have t2 := own_set_ne' s5 (show m.length ≠ m.length + 1 by omega) (.row [AV.int .i64 0, .int .i64 0, .int .i64 0] false)
  have t3 := own_set (own_lt t2) (bys (List.replicate 32 0#8))
  have t4 := own_set_ne' t1 (show m.length + 1 ≠ m.length by omega) (.row (bys (List.replicate 32 0#8)) false)
  have bad' : ¬ srOk (.box key) b → _ := fun hno => bad E5 14 hno (by rw [srE, if_neg h0, if_neg hno]) K5 hD5
  by_cases hE : getE (.box key) 1 0 b = 0
  ·by_cases hF : getGE S.p = 0
   ·by_cases hN : S.n = 0
    ·have hok : srOk (.box key) b := ⟨h0, hE, by rw [hS]; exact hF, by rw [hS]; exact hN⟩
     have e1 : srG (.box key) b = G := by rw [srG, if_pos hok, hS, hG]
     have e2 : srM (.box key) b = shaB b := if_pos hok
     have e4 : srE (.box key) b = 0 := by rw [srE, if_neg h0, if_pos hok]
     rw [e1, e2, e4]
     simp -implicitDefEqProofs (disch := (first | omega | (simp only [lq15] <;> omega) | fail)) only [admQ, lq15, aFill, AK.cls, implies_true, if_true, if_false, seval, -List.reduceReplicate, hE, hF, hN, Bool.not_true, rowOf_own q5, rowOf_own g5]
     refine (ans_rcsum hC5.cy (sv.kept0 k15) (by omega)).mono ?_
     rintro _ m6 ⟨rfl, k6⟩
     have o6 := k6.own o5 (by simp)
     have s6 := k6.own s5 (by simp)
     have g6 := k6.own g5 (by simp)
     have hsl := shaB_len b
     have hsp2 : splice (bys (List.replicate 32 0#8)) 0 (bys (shaB b)) = bys (shaB b) := splice_whole (by rw [hsl]; rfl)
     have htk2 : List.take 32 (bys (shaB b)) = bys (shaB b) := List.take_of_length_le (by rw [bys_len, hsl]; omega)
     have hbl : (bys (shaB b)).length = 32 := by rw [bys_len, hsl]
     have u1 := own_set (own_lt o6) [AV.int .i64 G.s, .int .i64 G.n, .int .i64 G.b]
     have u2 := own_set_ne' s6 (show m.length ≠ m.length + 1 by omega) (.row [AV.int .i64 G.s, .int .i64 G.n, .int .i64 G.b] false)
     have u3 := own_set (own_lt u2) (bys (shaB b))
     have u4 := own_set_ne' u1 (show m.length + 1 ≠ m.length by omega) (.row (bys (shaB b)) false)
     simp -implicitDefEqProofs (disch := (first | omega | (simp only [lq15] <;> omega) | fail)) only [admQ, lq15, aFill, AK.cls, implies_true, if_true, if_false, seval, -List.reduceReplicate, rowOf_own g6, rowOf_own g5, o6, u1, u2, hz, hsp2, hbl, rowOf_own u3, rowOf_own u4, htk2]
     exact fin m6 _ _ (K5.trans k6.any) (hD5.kept0 k6)
    ·have hno : ¬ srOk (.box key) b := fun h => hN (by rw [← hS]; exact h.2.2.2)
     simp -implicitDefEqProofs (disch := (first | omega | (simp only [lq15] <;> omega) | fail)) only [admQ, lq15, aFill, AK.cls, implies_true, if_true, if_false, seval, -List.reduceReplicate, hE, hF, beq_eq_false_iff_ne.mpr hN, Bool.not_false, Bool.not_true, rowOf_own q5, o5, t1, t2, hz, hsp, rowOf_own t3, rowOf_own t4, htk]
     exact bad' hno
   ·have hno : ¬ srOk (.box key) b := fun h => hF (by rw [← hS]; exact h.2.2.1)
    simp -implicitDefEqProofs (disch := (first | omega | (simp only [lq15] <;> omega) | fail)) only [admQ, lq15, aFill, AK.cls, implies_true, if_true, if_false, seval, -List.reduceReplicate, hE, beq_eq_false_iff_ne.mpr hF, Bool.not_false, Bool.not_true, rowOf_own q5, o5, t1, t2, hz, hsp, rowOf_own t3, rowOf_own t4, htk]
    exact bad' hno
  ·have hno : ¬ srOk (.box key) b := fun h => hE h.2.1
   simp -implicitDefEqProofs (disch := (first | omega | (simp only [lq15] <;> omega) | fail)) only [admQ, lq15, aFill, AK.cls, implies_true, if_true, if_false, seval, -List.reduceReplicate, beq_eq_false_iff_ne.mpr hE, Bool.not_false, rowOf_own q5, o5, t1, t2, hz, hsp, rowOf_own t3, rowOf_own t4, htk]
   exact bad' hno
end Go.Proofs.YtoegmnnecanhfaaGreatDoor
end
section
namespace Go.Proofs.YtoegmnnecanhfaaGreatDoor
open Go Go.Adm
set_option linter.unusedSimpArgs false
set_option linter.unusedVariables false
set_option maxRecDepth 100000
theorem ans_voread2 {m : Mem} {xd xc : Nat} {B : List Nat} {d : Dk} {c : CyS} (hV : Vo m xd xc B d c) (hl : (peekD d 0).length ≤ 1000000) :
  Ans Tryz.prog 17 [.ptr xd 0, .int .i64 0] m fun r m' => Kept (vwB c B) m m' ∧ Vo m' xd xc B (readD d 0) c ∧ ∃ v, r = .tup [v, .int .i64 0] ∧ SPb m.length m' v (peekD d 0) := by
 obtain ⟨Wd, Rd, Wc, Rc, hD, hC, hap, rfl⟩ := hV
 have hsz := hD.sz
 refine (ans_dkread (i := 0) hD (by omega) hl).mono ?_
 rintro r m' ⟨h1, h2, h3⟩
 exact ⟨h1.more (fun q hq _ => vwB_d hC (hD.sub q hq)), ⟨Wd, Rd, Wc, Rc, h2, hC.kept h1 (fun q hq h => hap q (hD.sub q h) hq), hap, rfl⟩, h3⟩
theorem ans_votamper2 {m : Mem} {xd xc : Nat} {B : List Nat} {d : Dk} {c : CyS} {y : AV} {b : List B8} (hV : Vo m xd xc B d c) (hy : RdB m y b) (hl : b.length ≤ 100000) :
  Ans Tryz.prog 20 [.ptr xd 0, .int .i64 0, y] m fun r m' => r = .int .i64 (wrongD d 0 b) ∧ Kept (vwB c B) m m' ∧ ∃ B', Vo m' xd xc B' (tamperD d 0 b) c ∧ ∀ q ∈ B', q ∈ B ∨ m.length ≤ q := by
 obtain ⟨Wd, Rd, Wc, Rc, hD, hC, hap, rfl⟩ := hV
 refine (ans_dktamper hD hy hl 0).mono ?_
 rintro r m' ⟨h0, h1, R', h2, h3⟩
 refine ⟨h0, h1.more (fun q hq _ => vwB_d hC (hD.sub q hq)), R' ++ Rc, ⟨Wd, R', Wc, Rc, h2, hC.kept h1 (fun q hq h => hap q (hD.sub q h) hq), fun q hq h => (h3 q hq).elim (fun h' => hap q h' h) (fun h' => by have := hC.lt q h; omega), rfl⟩, fun q hq => ?_⟩
 rcases List.mem_append.mp hq with h | h
 ·exact (h3 q h).imp (fun h => by simp [h]) id
 ·exact .inl (by simp [h])
def geoK : List IntKind := [.i64, .i64, .i64]
theorem geo_of {ns : List Int} (h : ns.length = geoK.length ∧ ∀ (i : Nat) (k : IntKind) (n : Int), geoK[i]? = some k → ns[i]? = some n → (Lit.int k n).wf = true) : ∃ g : Geo, Ints geoK ns = geoC g := by
 obtain ⟨hl, -⟩ := h
 match ns, hl with
 | [a, b, c], _ => exact ⟨⟨a, b, c⟩, rfl⟩
def whatK : List IntKind := [.i64, .i64]
theorem what_of {ns : List Int} (h : ns.length = whatK.length ∧ ∀ (i : Nat) (k : IntKind) (n : Int), whatK[i]? = some k → ns[i]? = some n → (Lit.int k n).wf = true) : ∃ g : { p : Int × Int // p.2 < 9223372036854775808 }, Ints whatK ns = [.int .i64 g.1.1, .int .i64 g.1.2] := by
 obtain ⟨hl, hw⟩ := h
 match ns, hl with
 | [a, b], _ =>
  have h1 := hw 1 .i64 b rfl rfl
  have h2 : b ≤ IntKind.i64.max := of_decide_eq_true ((Bool.and_eq_true _ _).mp h1).2
  have h3 : IntKind.i64.max = 9223372036854775807 := by decide
  exact ⟨⟨(a, b), by show b < _; omega⟩, rfl⟩
structure SW (m0 : Nat) (M : Mem) (xd xc xx zx lo hi k : Nat) (key : List B8) (B Wx Rx : List Nat) (D E : Dk) : Prop where
 vo : Vo M xd xc B D (.box key)
 rd : RDk M xx Wx Rx k E
 cy : RCyR M zx lo hi key
 b0 : ∀ q ∈ B, q = 0 ∨ (m0 ≤ q ∧ (hi ≤ q ∨ q < lo))
 bx : ∀ q ∈ B, q ∉ Rx
 xl : ∀ q ∈ Rx, m0 ≤ q ∧ (hi ≤ q ∨ q < lo)
 m2 : 2 ≤ m0
 ml : m0 ≤ M.length
theorem Vo.v0 {M : Mem} {xd xc : Nat} {B : List Nat} {D : Dk} {key : List B8} (h : Vo M xd xc B D (.box key)) : ∀ q ∈ vwB (.box key) B, q ∈ B ∧ q ≠ 0 := by
 obtain ⟨Wd, Rd, Wc, Rc, hD, hC, hap, rfl⟩ := h
 obtain ⟨a, b, k, -, -, rfl⟩ := hC
 have : vwB (.box key) (Rd ++ [xc, a, b, k, 0]) = Rd := List.take_left' (by simp)
 rw [this]
 exact fun q hq => ⟨by simp [hq], fun h => hap q hq (by simp [h])⟩
theorem SW.kept0 {m0 : Nat} {M M' : Mem} {xd xc xx zx lo hi k : Nat} {key : List B8} {B Wx Rx : List Nat} {D E : Dk} (h : SW m0 M xd xc xx zx lo hi k key B Wx Rx D E) (hk : Kept [] M M') : SW m0 M' xd xc xx zx lo hi k key B Wx Rx D E :=
 ⟨h.vo.kept0 hk, h.rd.kept0 hk, h.cy.kept0 hk, h.b0, h.bx, h.xl, h.m2, Nat.le_trans h.ml hk.len⟩
theorem SW.real {m0 : Nat} {M M' : Mem} {xd xc xx zx lo hi k : Nat} {key : List B8} {B B' Wx Rx : List Nat} {D D' E : Dk} (h : SW m0 M xd xc xx zx lo hi k key B Wx Rx D E) (hk : Kept (vwB (.box key) B) M M') (hV : Vo M' xd xc B' D' (.box key)) (hB : ∀ q ∈ B', q ∈ B ∨ M.length ≤ q) : SW m0 M' xd xc xx zx lo hi k key B' Wx Rx D' E := by
 have hv := h.vo.v0
 have hm := h.m2
 refine ⟨hV, h.rd.kept hk (fun q hq h1 => h.bx q (hv q h1).1 hq), h.cy.kept hk (fun q hq => ?_), fun q hq => ?_, fun q hq => ?_, h.xl, h.m2, Nat.le_trans h.ml hk.len⟩
 ·have h1 := hv q hq
  have := h.b0 q h1.1
  omega
 ·rcases hB q hq with h1 | h1
  ·exact h.b0 q h1
  ·have := h.ml; have := h.cy.hle; right; omega
 ·rcases hB q hq with h1 | h1
  ·exact h.bx q h1
  ·exact fun h2 => by have := h.rd.lt q h2; omega
theorem SW.doc {m0 : Nat} {M M' : Mem} {xd xc xx zx lo hi k k' : Nat} {key : List B8} {B Wx Rx Rx' : List Nat} {D E E' : Dk} (h : SW m0 M xd xc xx zx lo hi k key B Wx Rx D E) (hk : Kept Wx M M') (hR : RDk M' xx Wx Rx' k' E') (hX : ∀ q ∈ Rx', q ∈ Rx ∨ M.length ≤ q) : SW m0 M' xd xc xx zx lo hi k' key B Wx Rx' D E' := by
 have hs := h.rd.sub
 have hm := h.m2
 refine ⟨h.vo.kept hk (fun q hq h1 => h.bx q hq (hs q h1)), hR, h.cy.kept hk (fun q hq => ?_), h.b0, fun q hq h1 => ?_, fun q hq => ?_, h.m2, Nat.le_trans h.ml hk.len⟩
 ·have := h.xl q (hs q hq); omega
 ·rcases hX q h1 with h2 | h2
  ·exact h.bx q hq h2
  ·have := h.vo.lt q hq; omega
 ·rcases hX q hq with h2 | h2
  ·exact h.xl q h2
  ·have := h.ml; have := h.cy.hle; omega
theorem SW.ap {m0 : Nat} {M : Mem} {xd xc xx zx lo hi k : Nat} {key : List B8} {B Wx Rx : List Nat} {D E : Dk} (h : SW m0 M xd xc xx zx lo hi k key B Wx Rx D E) : ∀ q ∈ Rx, hi ≤ q ∨ (q < lo ∧ q ≠ 1) := fun q hq => by
 have := h.xl q hq; have := h.m2; omega
theorem SW.bl {m0 : Nat} {M : Mem} {xd xc xx zx lo hi k : Nat} {key : List B8} {B Wx Rx : List Nat} {D E : Dk} (h : SW m0 M xd xc xx zx lo hi k key B Wx Rx D E) : ∀ q ∈ vwB (.box key) B, m0 ≤ q := fun q hq => by
 have h1 := h.vo.v0 q hq
 have := h.b0 q h1.1
 omega
theorem SW.xw {m0 : Nat} {M : Mem} {xd xc xx zx lo hi k : Nat} {key : List B8} {B Wx Rx : List Nat} {D E : Dk} (h : SW m0 M xd xc xx zx lo hi k key B Wx Rx D E) : ∀ q ∈ Wx, m0 ≤ q := fun q hq => (h.xl q (h.rd.sub q hq)).1
def eqD (D E : Dk) : Prop := E = { D with reads := E.reads }
theorem eqD.read {D E : Dk} (h : eqD D E) : eqD (readD D 0) (readD E 0) := by
 unfold eqD at h ⊢; rw [h]; rfl
theorem eqD.read1 {D E : Dk} (h : eqD D E) : eqD (readD D 0) E := by
 unfold eqD at h ⊢; rw [h]; rfl
theorem eqD.peek {D E : Dk} (h : eqD D E) : peekD E 0 = peekD D 0 := by
 unfold eqD at h; rw [h]; rfl
theorem eqD.tamper {D E : Dk} (h : eqD D E) (b : List B8) : eqD (tamperD D 0 b) (tamperD E 0 b) := by
 unfold eqD at h
 obtain ⟨l, c, a, f, o, w, r⟩ := D
 rw [h]
 unfold tamperD
 by_cases hw : wrongD ⟨l, c, a, f, o, w, r⟩ 0 b = 0
 ·have hw2 : wrongD ⟨l, c, a, f, o, w, E.reads⟩ 0 b = 0 := hw
  rw [if_neg (by simp [hw]), if_neg (by simp [hw2])]; rfl
 ·have hw2 : ¬ wrongD ⟨l, c, a, f, o, w, E.reads⟩ 0 b = 0 := hw
  rw [if_pos hw, if_pos hw2]; rfl
theorem peek_tamper {D : Dk} {b : List B8} (hk : (D.cache.map (·.1)).Nodup) : (peekD (tamperD D 0 b) 0).length ≤ b.length + (peekD D 0).length := by
 unfold tamperD
 split
 ·omega
 ·rename_i h
  have hz : wrongD D 0 b = 0 := by simpa using h
  have hi : 0 < D.lasts.length := by
   unfold wrongD at hz
   split at hz
   ·cases hz
   ·rename_i h2; have := (Decidable.not_not.mp h2).2; omega
  have : peekD { D with lasts := D.lasts.set (Int.toNat 0) b, cache := cDel D.cache 0 } 0 = b := by
   show (cGet (cDel D.cache 0) 0).getD (((D.lasts.set 0 b)[0]?).getD []) = b
   rw [cGet_del hk, List.getElem?_set_self hi]; rfl
  rw [this]; omega
theorem peek_su {c : CyS} {e : Int} {g : Geo} {a : Int} : (peekD (suD (armD (dk0 5) a) c e g) 0).length ≤ 1024 := by
 have h0 : peekD (armD (dk0 5) a) 0 = [] := rfl
 have hs : peekD (spendD (armD (dk0 5) a)) 0 = [] := by
  unfold spendD; split
  ·rfl
  ·split <;> rfl
 unfold suD
 split
 ·rw [h0]; simp
 ·split
  ·rw [h0]; simp
  ·unfold writeD
   split
   ·rw [h0]; simp
   ·split
    ·rw [h0]; simp
    ·split
     ·rw [hs]; simp
     ·rename_i hw _
      have hl : (putL c (suS e g)).length ≤ 1024 := sup_len _ _ _
      have hkn : ((armD (dk0 5) a).cache.map (·.1)).Nodup := List.nodup_nil
      show ((cGet (cPut (armD (dk0 5) a).cache 0 (putL c (suS e g))) 0).getD _).length ≤ 1024
      rw [cGet_put hkn]; exact hl
theorem suC_box (d : Dk) (key : List B8) (e : Int) (g : Geo) : suC d (.box key) e g = .box key := by
 have hput : putC (.box key) (suS e g) = .box key := by unfold putC; split <;> rfl
 unfold suC
 rw [hput]
 split
 ·rfl
 ·split
  ·rfl
  ·split <;> rfl
theorem srC_box (key b : List B8) : srC (.box key) b = .box key := by
 unfold srC; split <;> rfl
theorem ans_SuperWrites {m : Mem} {x y : AV} {key b : List B8} {g : Geo} {e a : Int} (hK : rowOf m 0 = some (wds kT)) (hR : rowOf m 1 = some (wds kT)) (ha : a < 9223372036854775808) (hx : RdB m x key) (hy : RdB m y b) :
  Ans Tryz.prog 3 [x, geoV g, .agg [.int .i64 e, .int .i64 a], y] m fun r m' => r = .bool true ∧ Kept [] m m' := by
 refine ans_ret mixed ok3 ?_
 unfold geoV geoC
 have hm1 : 1 < m.length := rowOf_lt hR
 have known : ∀ M, Kept [] m M → Ans Tryz.prog 4 [] M fun r m' => r = .bool true ∧ Kept [] m m' := fun M hk => (ans_suknown M).mono fun r m' ⟨h1, h2⟩ => ⟨h1, hk.trans h2⟩
 have k0 := Kept.app [] m [.row [.int .i64 g.s, .int .i64 g.n, .int .i64 g.b] false, .row [.int .i64 e, .int .i64 a] false]
 by_cases h1 : (key.length : Int) > 1024
 ·simp -implicitDefEqProofs (disch := (first | omega | (simp only [lq15] <;> omega) | fail)) only [admQ, lq15, aFill, AK.cls, implies_true, if_true, if_false, seval, -List.reduceReplicate, q3, d3_1, d3_3, d3_4, d3_5, d3_6, d3_7, d3_8, d3_9, d3_10, r3, hx.len, dec_t h1]
  refine (known _ k0).mono ?_
  rintro _ m1 ⟨rfl, k1⟩
  simp -implicitDefEqProofs (disch := (first | omega | (simp only [lq15] <;> omega) | fail)) only [admQ, lq15, aFill, AK.cls, implies_true, if_true, if_false, seval, -List.reduceReplicate]
  exact k1
 by_cases h2 : (b.length : Int) > 2048
 ·simp -implicitDefEqProofs (disch := (first | omega | (simp only [lq15] <;> omega) | fail)) only [admQ, lq15, aFill, AK.cls, implies_true, if_true, if_false, seval, -List.reduceReplicate, q3, d3_1, d3_3, d3_4, d3_5, d3_6, d3_7, d3_8, d3_9, d3_10, r3, hx.len, hy.len, dec_f h1, dec_t h2]
  refine (known _ k0).mono ?_
  rintro _ m1 ⟨rfl, k1⟩
  simp -implicitDefEqProofs (disch := (first | omega | (simp only [lq15] <;> omega) | fail)) only [admQ, lq15, aFill, AK.cls, implies_true, if_true, if_false, seval, -List.reduceReplicate]
  exact k1
 have o0 : own (m ++ [.row [.int .i64 g.s, .int .i64 g.n, .int .i64 g.b] false, .row [.int .i64 e, .int .i64 a] false]) m.length = some [.int .i64 g.s, .int .i64 g.n, .int .i64 g.b] := by rw [own_app_at0]; rfl
 have w0 : own (m ++ [.row [.int .i64 g.s, .int .i64 g.n, .int .i64 g.b] false, .row [.int .i64 e, .int .i64 a] false]) (m.length + 1) = some [.int .i64 e, .int .i64 a] := by rw [own_app_at]; rfl
 simp -implicitDefEqProofs (disch := (first | omega | (simp only [lq15] <;> omega) | fail)) only [admQ, lq15, aFill, AK.cls, implies_true, if_true, if_false, seval, -List.reduceReplicate, q3, d3_1, d3_3, d3_4, d3_5, d3_6, d3_7, d3_8, d3_9, d3_10, r3, hx.len, hy.len, dec_f h1, dec_f h2]
 generalize m ++ [.row [.int .i64 g.s, .int .i64 g.n, .int .i64 g.b] false, .row [.int .i64 e, .int .i64 a] false] = A at *
 have lA := own_lt w0
 have hxA := hx.kept0 k0
 have hyA := hy.kept0 k0
 refine wp_recut [0, 3, 5, 6] rfl ?_
 simp -implicitDefEqProofs (disch := (first | omega | (simp only [lq15] <;> omega) | fail)) only [admQ, lq15, aFill, AK.cls, implies_true, if_true, if_false, seval, -List.reduceReplicate, d3_2]
 have hnw := ans_dknew 5 (by omega) A
 refine Ans.mono hnw ?_
 rintro _ m1 ⟨k1, xd, Wd, Rd, rfl, hD, hRd⟩
 simp -implicitDefEqProofs (disch := (first | omega | (simp only [lq15] <;> omega) | fail)) only [admQ, lq15, aFill, AK.cls, implies_true, if_true, if_false, seval, -List.reduceReplicate]
 have hnx := ans_r7new 5 (by omega) m1
 refine Ans.mono hnx ?_
 rintro _ m2 ⟨k2, xx, Wx, Rx, rfl, hX, hRx⟩
 simp -implicitDefEqProofs (disch := (first | omega | (simp only [lq15] <;> omega) | fail)) only [admQ, lq15, aFill, AK.cls, implies_true, if_true, if_false, seval, -List.reduceReplicate]
 have K2 := k1.trans k2
 refine (ans_senew ((k0.trans K2).row hK (by simp)) (hxA.kept0 K2) (by omega)).mono ?_
 rintro _ m3 ⟨xc, c, kb, kk, rfl, k3, hlow, hs⟩
 have K3 := K2.trans k3
 simp -implicitDefEqProofs (disch := (first | omega | (simp only [lq15] <;> omega) | fail)) only [admQ, lq15, aFill, AK.cls, implies_true, if_true, if_false, seval, -List.reduceReplicate]
 refine (ans_rboxed2 ((k0.trans K3).row hR (by simp)) (by have := K3.len; omega) (hxA.kept0 K3) (by omega)).mono ?_
 rintro _ m4 ⟨k4, zx, rfl, hC⟩
 have K4 := K3.trans k4
 have w4 := K4.own w0 (by simp)
 simp -implicitDefEqProofs (disch := (first | omega | (simp only [lq15] <;> omega) | fail)) only [admQ, lq15, aFill, AK.cls, implies_true, if_true, if_false, seval, -List.reduceReplicate, d3_3, d3_4, rowOf_own w4]
 have hD4 := hD.kept0 ((k2.trans k3).trans k4)
 refine (ans_dkarm hD4 a).mono ?_
 rintro _ m5 ⟨rfl, k5, hD5⟩
 have l1 := k1.len
 have l2 := k2.len
 have l3 := k3.len
 have l4 := k4.len
 have hWd : ∀ q ∈ Wd, A.length ≤ q ∧ q < m1.length := fun q hq => ⟨hRd q (hD.sub q hq), hD.lt q (hD.sub q hq)⟩
 have hX4 := hX.kept0 (k3.trans k4)
 have s5 : SW A.length m5 xd xc xx zx m3.length m4.length 0 key (Rd ++ [xc, c, kb, kk, 0]) Wx Rx (armD (dk0 5) a) (dk0 5) := by
  have hCd : ∀ q ∈ [xc, c, kb, kk, 0], q = 0 ∨ (m2.length ≤ q ∧ q < m3.length) := fun q hq => by
   have h1 := rowOf_lt hs.hd
   have h2 := rowOf_lt hs.au
   have h3 := rowOf_lt hs.ci.hd
   have h4 := rowOf_lt hs.ci.keys
   simp only [List.mem_cons, List.not_mem_nil, or_false] at hq
   omega
  have hRxl := hX.lt
  have hRdl := hD.lt
  refine ⟨⟨Wd, Rd, [], [xc, c, kb, kk, 0], hD5, ⟨c, kb, kk, (hs.kept0 k4).kept k5 ?_, rfl, rfl⟩, fun q hq h => ?_, rfl⟩, hX4.kept k5 (fun q hq h => ?_), hC.kept k5 (fun q hq => ?_), fun q hq => ?_, fun q hq h => ?_, fun q hq => ?_, by omega, by have := k5.len; omega⟩
  ·have : ∀ q, q ∈ [xc, c, kb, kk, 0] → q ∉ Wd := fun q hq h => by have := hCd q hq; have := hWd q h; omega
   exact ⟨this _ (by simp), this _ (by simp), this _ (by simp), this _ (by simp), this _ (by simp)⟩
  ·have := hCd q h; have := hRd q hq; have := hRdl q hq; omega
  ·have := hRx q hq; have := hWd q h; omega
  ·have := hWd q hq; omega
  ·rcases List.mem_append.mp hq with h | h
   ·have := hRd q h; have := hRdl q h; right; omega
   ·have := hCd q h; omega
  ·have := hRx q h
   have := hRxl q h
   rcases List.mem_append.mp hq with h' | h'
   ·have := hRdl q h'; omega
   ·have := hCd q h'; omega
  ·have := hRx q hq; have := hRxl q hq; omega
 have K5 : Kept [] A m5 := K4.upon k5 (fun q hq => (hWd q hq).1)
 clear k5 hX4 hD4 hD hX hs hC hlow hRd hRx hWd hnw hnx
 have w5 := K5.own w0 (by simp)
 simp -implicitDefEqProofs (disch := (first | omega | (simp only [lq15] <;> omega) | fail)) only [admQ, lq15, aFill, AK.cls, implies_true, if_true, if_false, seval, -List.reduceReplicate, rowOf_own w5]
 refine (ans_r7arm s5.rd a ha).mono ?_
 rintro _ m6 ⟨k6, hX6⟩
 have K6 : Kept [] A m6 := K5.upon k6 s5.xw
 have s6 := s5.doc k6 hX6 (fun q hq => .inl hq)
 clear k6 hX6
 have w6 := K6.own w0 (by simp)
 have o6 := K6.own o0 (by simp)
 simp -implicitDefEqProofs (disch := (first | omega | (simp only [lq15] <;> omega) | fail)) only [admQ, lq15, aFill, AK.cls, implies_true, if_true, if_false, seval, -List.reduceReplicate, rowOf_own w6, rowOf_own o6]
 clear hD5 s5 k1 k2 k3 k4 K2 K3 K4 l1 l2 l3 l4 w4 w5
 generalize Rd ++ [xc, c, kb, kk, 0] = B at s6
 generalize m3.length = lo at s6
 generalize m4.length = hi at s6
 have hwr := ans_suwrite s6.vo e g trivial trivial
 have hpk := peek_su (c := .box key) (e := e) (g := g) (a := a)
 obtain ⟨f1, f2, f3⟩ := sm_facts (suM_len (armD (dk0 5) a) (.box key) e g)
 have hsl := suM_len (armD (dk0 5) a) (.box key) e g
 have hrw := fun (M : Mem) (R' : List Nat) (lo hi : Nat) (h1 : RDk M xx Wx R' 0 (armD (dk0 5) a)) (h2 : RCyR M zx lo hi key) (h3 : ∀ q ∈ R', hi ≤ q ∨ (q < lo ∧ q ≠ 1)) => ans_r15write h1 h2 h3 (by omega) e g
 rw [suC_box] at hwr
 generalize suM (armD (dk0 5) a) (.box key) e g = SM at *
 generalize suE (armD (dk0 5) a) (.box key) e g = SE at *
 generalize suD (armD (dk0 5) a) (.box key) e g = D at *
 have hz : (bys (List.replicate 32 0#8)).length = 32 := by simp
 refine Ans.mono hwr ?_
 rintro _ m7 ⟨rfl, k7, B7, hV7, hB7⟩
 have K7 : Kept [] A m7 := K6.upon k7 s6.bl
 have s7 := s6.real k7 hV7 hB7
 clear k7 hV7 hB7 hwr
 have w7 := K7.own w0 (by simp)
 have o7 := K7.own o0 (by simp)
 simp -implicitDefEqProofs (disch := (first | omega | (simp only [lq15] <;> omega) | fail)) only [admQ, lq15, aFill, AK.cls, implies_true, if_true, if_false, seval, -List.reduceReplicate, f1, f2, rowOf_own w7, rowOf_own o7]
 have k8 := Kept.app [] m7 [.row (bys SM) false]
 have p8 : own (m7 ++ [.row (bys SM) false]) m7.length = some (bys SM) := by rw [own_app_at0]; rfl
 generalize m7 ++ [.row (bys SM) false] = m8 at *
 have K8 := K7.trans k8
 have s8 := s7.kept0 k8
 have w8 := k8.own w7 (by simp)
 have o8 := k8.own o7 (by simp)
 simp -implicitDefEqProofs (disch := (first | omega | (simp only [lq15] <;> omega) | fail)) only [admQ, lq15, aFill, AK.cls, implies_true, if_true, if_false, seval, -List.reduceReplicate, rowOf_own w8, rowOf_own o8]
 have hr := hrw m8 Rx lo hi s8.rd s8.cy s8.ap
 refine Ans.mono hr ?_
 rintro _ m9 ⟨rfl, k9, Rx9, hX9, hR9⟩
 have K9 : Kept [] A m9 := K8.upon k9 s8.xw
 have s9 := s8.doc k9 hX9 hR9
 have l78 := k8.len
 have hm7 : A.length ≤ m7.length := K7.len
 have p9 : own m9 m7.length = some (bys SM) := k9.own p8 (fun h => by
  have := s7.rd.lt _ (s7.rd.sub _ h)
  omega)
 clear k9 hX9 hR9 hr hrw
 simp -implicitDefEqProofs (disch := (first | omega | (simp only [lq15] <;> omega) | fail)) only [admQ, lq15, aFill, AK.cls, implies_true, if_true, if_false, seval, -List.reduceReplicate, f1, f2]
 have k10 := Kept.app [] m9 [.row (bys SM) false]
 have q10 : own (m9 ++ [.row (bys SM) false]) m9.length = some (bys SM) := by rw [own_app_at0]; rfl
 generalize m9 ++ [.row (bys SM) false] = m10 at *
 have K10 := K9.trans k10
 have s10 := s9.kept0 k10
 have p10 := k10.own p9 (by simp)
 obtain ⟨Wz, Rz, Wy, Ry, hD10, -⟩ := s10.vo
 have hE10 := s10.rd
 obtain ⟨pr, lv, hv, L, H, -, -, e10, -⟩ := hE10.ex
 simp -implicitDefEqProofs (disch := (first | omega | (simp only [lq15] <;> omega) | fail)) only [admQ, lq15, aFill, AK.cls, implies_true, if_true, if_false, seval, -List.reduceReplicate, d3_5, rowOf_own p10, rowOf_own q10, f3, aEq_bys SM SM hsl hsl, beq_self_eq_true]
 refine (ans_dkdown hD10).mono ?_
 rintro _ M ⟨rfl, hM⟩
 subst hM
 simp -implicitDefEqProofs (disch := (first | omega | (simp only [lq15] <;> omega) | fail)) only [admQ, lq15, aFill, AK.cls, implies_true, if_true, if_false, seval, -List.reduceReplicate, rowOf_own p10, rowOf_own q10, f3, rowOf_own e10, beq_self_eq_true, Bool.not_true]
 refine (ans_dkwrites hD10).mono ?_
 rintro _ M ⟨rfl, hM⟩
 subst hM
 simp -implicitDefEqProofs (disch := (first | omega | (simp only [lq15] <;> omega) | fail)) only [admQ, lq15, aFill, AK.cls, implies_true, if_true, if_false, seval, -List.reduceReplicate, rowOf_own p10, rowOf_own q10, f3, rowOf_own e10, beq_self_eq_true, Bool.not_true, d3_6]
 refine LoopW.on (fun i : Nat => [(3, y), (9, .ptr xd 0), (11, .ptr xx 0), (13, .ptr xc 0), (14, .ptr zx 0), (17, .int .i64 i)]) (fun i => 2 - i)
  (fun i M => i ≤ 2 ∧ Kept [] A M ∧ ∃ B R D E k, SW A.length M xd xc xx zx lo hi k key B Wx R D E ∧ eqD D E ∧ (peekD D 0).length ≤ 1024 + 2048 * i ∧ k ≤ 1 + i) ?_ 0 _ _ rfl ⟨by omega, K10, B7, Rx9, D, D, 0 + 1, s10, rfl, by omega, by omega⟩
 clear s10 hD10 hE10 e10 p10 q10 s9 s8 s7 s6 k10 k8 p8 p9 hpk f1 f2 f3 hsl w8 w7 w6 o8 o7 o6 K10 K9 K8 K7 K6 K5 l78 hm7
 rintro i M X ⟨hi2, KM, B, R, D, E, k, s, hq, hp, hk⟩ hX
 have hyM := hyA.kept0 KM
 by_cases hlt : i < 2
 ·have hsr := ans_suread s.vo trivial trivial (show (peekD D 0).length ≤ 100000 by omega)
  rw [srC_box] at hsr
  have hrr := fun (M : Mem) (h1 : RDk M xx Wx R k E) (h2 : RCyR M zx lo hi key) => ans_r15read h1 h2 s.ap (by omega) (by rw [hq.peek]; omega)
  simp only [hq.peek] at hrr
  obtain ⟨f1, f2, f3⟩ := sm_facts (srM_len (.box key) (peekD D 0))
  have hsl := srM_len (.box key) (peekD D 0)
  generalize srG (.box key) (peekD D 0) = G2 at *
  generalize srM (.box key) (peekD D 0) = SM2 at *
  generalize srE (.box key) (peekD D 0) = SE2 at *
  unfold geoV geoC at hsr hrr
  simp -implicitDefEqProofs (disch := (first | omega | (simp only [lq15] <;> omega) | fail)) only [admQ, lq15, aFill, AK.cls, implies_true, if_true, if_false, seval, -List.reduceReplicate, d3_7, d3_8]
  refine Ans.mono hsr ?_
  rintro _ m1 ⟨rfl, k1, hV1⟩
  have K1 : Kept [] A m1 := KM.upon k1 s.bl
  have s1 := s.real k1 hV1 (fun q hq => .inl hq)
  clear k1 hV1 hsr
  simp -implicitDefEqProofs (disch := (first | omega | (simp only [lq15] <;> omega) | fail)) only [admQ, lq15, aFill, AK.cls, implies_true, if_true, if_false, seval, -List.reduceReplicate, hz, f1, f2]
  have k2 := Kept.app [] m1 [.row [.int .i64 G2.s, .int .i64 G2.n, .int .i64 G2.b] false, .row (bys SM2) false]
  have g2 : own (m1 ++ [.row [.int .i64 G2.s, .int .i64 G2.n, .int .i64 G2.b] false, .row (bys SM2) false]) m1.length = some [.int .i64 G2.s, .int .i64 G2.n, .int .i64 G2.b] := by rw [own_app_at0]; rfl
  have p2 : own (m1 ++ [.row [.int .i64 G2.s, .int .i64 G2.n, .int .i64 G2.b] false, .row (bys SM2) false]) (m1.length + 1) = some (bys SM2) := by rw [own_app_at]; rfl
  generalize m1 ++ [.row [.int .i64 G2.s, .int .i64 G2.n, .int .i64 G2.b] false, .row (bys SM2) false] = m2 at *
  have K2 := K1.trans k2
  have s2 := s1.kept0 k2
  refine Ans.mono (hrr m2 s2.rd s2.cy) ?_
  rintro _ m3 ⟨rfl, k3, hX3⟩
  have K3 : Kept [] A m3 := K2.upon k3 s2.xw
  have s3 := s2.doc k3 hX3 (fun q hq => .inl hq)
  have low : ∀ q, A.length ≤ m1.length → m1.length ≤ q → q ∉ Wx := fun q _ h h2 => by have := s1.rd.lt _ (s1.rd.sub _ h2); omega
  have g3 := k3.own g2 (low _ K1.len (Nat.le_refl _))
  have p3 := k3.own p2 (low _ K1.len (by omega))
  have l3 := k3.len
  have lp2 := own_lt p2
  clear k3 hX3 hrr
  simp -implicitDefEqProofs (disch := (first | omega | (simp only [lq15] <;> omega) | fail)) only [admQ, lq15, aFill, AK.cls, implies_true, if_true, if_false, seval, -List.reduceReplicate, hz, f1, f2]
  have k4 := Kept.app [] m3 [.row [.int .i64 G2.s, .int .i64 G2.n, .int .i64 G2.b] false, .row (bys SM2) false]
  have g4 : own (m3 ++ [.row [.int .i64 G2.s, .int .i64 G2.n, .int .i64 G2.b] false, .row (bys SM2) false]) m3.length = some [.int .i64 G2.s, .int .i64 G2.n, .int .i64 G2.b] := by rw [own_app_at0]; rfl
  have p4 : own (m3 ++ [.row [.int .i64 G2.s, .int .i64 G2.n, .int .i64 G2.b] false, .row (bys SM2) false]) (m3.length + 1) = some (bys SM2) := by rw [own_app_at]; rfl
  generalize m3 ++ [.row [.int .i64 G2.s, .int .i64 G2.n, .int .i64 G2.b] false, .row (bys SM2) false] = m4 at *
  have K4 := K3.trans k4
  have s4 := s3.kept0 k4
  have g34 := k4.own g3 (by simp)
  have p34 := k4.own p3 (by simp)
  refine (ans_voread2 s4.vo (show (peekD D 0).length ≤ 1000000 by omega)).mono ?_
  rintro _ m5 ⟨k5, hV5, v, rfl, sv⟩
  have K5 : Kept [] A m5 := K4.upon k5 s4.bl
  have s5 := s4.real k5 hV5 (fun q hq => .inl hq)
  have lv : ∀ q, m1.length ≤ q → q ∉ vwB (.box key) B := fun q h h2 => by have := s1.vo.lt _ (s1.vo.v0 q h2).1; omega
  have g5 := k5.own g34 (lv _ (Nat.le_refl _))
  have p5 := k5.own p34 (lv _ (by omega))
  have g5' := k5.own g4 (lv _ (by omega))
  have p5' := k5.own p4 (lv _ (by omega))
  clear k5 hV5
  simp -implicitDefEqProofs (disch := (first | omega | (simp only [lq15] <;> omega) | fail)) only [admQ, lq15, aFill, AK.cls, implies_true, if_true, if_false, seval, -List.reduceReplicate, d3_9, rowOf_own g5, rowOf_own p5, rowOf_own g5', rowOf_own p5', f3, aEq_bys SM2 SM2 hsl hsl, beq_self_eq_true, Bool.not_true]
  have hpk : Ans Tryz.prog 19 [.ptr xx 0, .int .i64 0] m5 fun r m' => Kept [] m5 m' ∧ GrB m5.length m' r (peekD (readD E 0) 0) ∧ ∀ q ∈ blkOf r, m5.length ≤ q := ans_r7peek s5.rd (by omega) (i := 0) (by have := s5.rd.sz; omega)
  rw [show peekD (readD E 0) 0 = peekD E 0 from rfl, hq.peek] at hpk
  refine hpk.mono ?_
  rintro v6 m6 ⟨k6, gv6, -⟩
  have sv6 : RdB m6 v (peekD D 0) := sv.rd.kept0 k6
  simp -implicitDefEqProofs (disch := (first | omega | (simp only [lq15] <;> omega) | fail)) only [admQ, lq15, aFill, AK.cls, implies_true, if_true, if_false, seval, -List.reduceReplicate]
  refine (ans_samebytes sv6 gv6.rd (by omega)).mono ?_
  rintro _ M6 ⟨rfl, hM⟩
  subst hM
  have K6 := K5.trans k6
  have s6 := s5.kept0 k6
  simp -implicitDefEqProofs (disch := (first | omega | (simp only [lq15] <;> omega) | fail)) only [admQ, lq15, aFill, AK.cls, implies_true, if_true, if_false, seval, -List.reduceReplicate, beq_self_eq_true, Bool.not_true, d3_10]
  refine (ans_votamper2 s6.vo (hyA.kept0 K6) (by omega)).mono ?_
  rintro _ m7 ⟨rfl, k7, B7, hV7, hB7⟩
  have K7 : Kept [] A m7 := K6.upon k7 s6.bl
  have s7 := s6.real k7 hV7 hB7
  clear k7 hV7
  simp -implicitDefEqProofs (disch := (first | omega | (simp only [lq15] <;> omega) | fail)) only [admQ, lq15, aFill, AK.cls, implies_true, if_true, if_false, seval, -List.reduceReplicate]
  have htm : Ans Tryz.prog 21 [.ptr xx 0, .int .i64 0, y] m7 fun r m' => r = .int .i64 (wrongD (readD E 0) 0 b) ∧ Kept Wx m7 m' ∧ ∃ R', RDk m' xx Wx R' (k + 1) (tamperD (readD E 0) 0 b) ∧ ∀ q ∈ R', q ∈ R ∨ m7.length ≤ q := ans_r7tamper s7.rd (hyA.kept0 K7) (by omega) (by omega) 0
  refine htm.mono ?_
  rintro _ m8 ⟨rfl, k8, R8, hX8, hR8⟩
  have K8 : Kept [] A m8 := K7.upon k8 s7.xw
  have s8 := s7.doc k8 hX8 hR8
  clear k8 hX8
  simp -implicitDefEqProofs (disch := (first | omega | (simp only [lq15] <;> omega) | fail)) only [admQ, lq15, aFill, AK.cls, implies_true, if_true, if_false, seval, -List.reduceReplicate]
  obtain ⟨Wz, Rz, Wy, Ry, hDz, -⟩ := s6.vo
  have hpt := peek_tamper (D := readD (readD D 0) 0) (b := b) hDz.keys
  have hpr : peekD (readD (readD D 0) 0) 0 = peekD D 0 := rfl
  rw [hpr] at hpt
  exact hX (i + 1) _ _ rfl (by omega) ⟨by omega, K8, B7, R8, _, _, k + 1, s8, hq.read.read1.tamper b, by omega, by omega⟩
 ·obtain rfl : i = 2 := by omega
  simp -implicitDefEqProofs (disch := (first | omega | (simp only [lq15] <;> omega) | fail)) only [admQ, lq15, aFill, AK.cls, implies_true, if_true, if_false, seval, -List.reduceReplicate, d3_7]
  refine (known _ (k0.trans KM)).mono ?_
  rintro _ m1 ⟨rfl, k1⟩
  simp -implicitDefEqProofs (disch := (first | omega | (simp only [lq15] <;> omega) | fail)) only [admQ, lq15, aFill, AK.cls, implies_true, if_true, if_false, seval, -List.reduceReplicate]
  exact k1
end Go.Proofs.YtoegmnnecanhfaaGreatDoor
end
